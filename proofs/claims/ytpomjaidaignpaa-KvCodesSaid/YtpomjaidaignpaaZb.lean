/- The contract of slices.Clone at bytes. -/
import Derived.Test.YtpomjaidaignpaaChecked
import Derived.Test.YtpomjaidaignpaaWk
import Derived.Test.YtpomjaidaignpaaI5
import Derived.Lib.LazyBuf
set_option linter.unusedVariables false
set_option linter.unusedSimpArgs false
namespace Go.Proofs.Ytpomjaidaignpaa
open Go.RowKit Wd
section
variable {w0 w : World} {M : Mem} {L : List Ent}
set_option maxRecDepth 100000 in
theorem clone_any (H : St w0 w M L) {A : Option Addr} {c : Nat} {l : List UInt8} (hA : A = none → c = 0) (hc : l.length ≤ c) (hl : Sr w0 M L A l) (hn : l.length < 140737488355000) :
    Calls Try.prog 26 #[.slice A l.length c] w fun e w' => ∃ v, e = .returned v ∧ St w0 w' M (er 5 1 v l.length (bv l) :: L) := by
  have hq := fun (a : Option Addr) (n c : Nat) (w : World) => run_eql_slice_nil (P := Try.prog) w 25 5 a n c Try.underlying25
  cases A with
  | none =>
    obtain rfl := hA rfl
    obtain rfl : l = [] := List.eq_nil_of_length_eq_zero (by omega)
    have H1 := H.addNil 5 1
    go_enter Try.func26, Try.ntmps26
    go_wp2
    go_ret
    exact ⟨_, rfl, H1⟩
  | some ad =>
    have H1 := H.lit0 5
    have r1 := (hl.cons (er 5 1 (.slice (some ⟨w.heap.size, 0, none⟩) 0 0) 0 [])).now H1
    go_enter Try.func26, Try.ntmps26
    go_wp2_with (at_builtin; refine wpList_append_st H1 (by rfl) (.tmp 5) (.tmp 6) 25 (by rfl) Try.info5 Try.underlying25 (by rfl) (some ad) l.length c l (by rfl) rfl hA r1 (by omega) ?_)
    intro v1 w1 H2
    try simp only [Nat.zero_add, List.nil_append] at H2
    go_wp2
    go_ret
    exact ⟨_, rfl, H2⟩
end
end Go.Proofs.Ytpomjaidaignpaa
