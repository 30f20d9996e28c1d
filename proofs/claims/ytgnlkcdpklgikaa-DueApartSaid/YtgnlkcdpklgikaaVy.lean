/- The reference's Count. -/
import Derived.Test.YtgnlkcdpklgikaaVx
import Derived.Test.YtgnlkcdpklgikaaVu
set_option linter.unusedVariables false
set_option linter.unusedSimpArgs false
namespace Go.Proofs.Ytgnlkcdpklgikaa
open Go.RowKit Wd Go.Sort
open Du (Due)
section
variable {w0 w : World} {M : Mem} {L : List Ent}
theorem count_any (H : St w0 w M L) {A : Option Addr} {c n : Nat} {l : List Due} (hn : n = l.length) (hn2 : n ≤ 1000000) (hl : SrA w0 M L A (dcs l)) (T : Nat) :
    Calls Try.prog 15 #[.slice A n c, .int .u64 (T : Int)] w fun e w' => e = .returned (.int .i64 ((Du.of T l).length : Int)) ∧ w = w' := by
  obtain ⟨R, hR⟩ : ∃ R, R = (Du.of T l).length := ⟨_, rfl⟩
  rw [← hR]
  have HR := Lib.hid hR
  have HN := Lib.hid hn
  clear hR hn
  go_enter Try.func15, Try.ntmps15
  go_wp2
  go_loopw [5, 6] (fun x i wr => ∃ k X : Nat, k ≤ n ∧ X ≤ k ∧ i = .int .i64 k ∧ x = .int .i64 X ∧ X = (Du.of T (l.take k)).length ∧ wr = w) (fun _ i _ => n - (intOf i).toNat)
  case atStart => exact ⟨0, 0, by omega, by omega, rfl, rfl, rfl, rfl⟩
  case round =>
    obtain ⟨k, X, hk, hXk, rfl, rfl, hX, rfl⟩ := hrel
    have HX := Lib.hid hX
    clear hX
    by_cases hlt : k < n
    · have hk1 : k < l.length := by have := HN.out; omega
      obtain ⟨b, o, rfl, hrg⟩ := RA.at3 (hl.now H) k hk1
      have hst : Du.of T (l.take (k + 1)) = Du.of T (l.take k) ++ Du.of T [l[k]] := by unfold Du.of; rw [List.take_succ_eq_append_getElem hk1, List.filter_append]
      obtain ⟨y, hy⟩ : ∃ y, y = l[k] := ⟨_, rfl⟩
      rw [← hy] at hrg hst
      have c0 := hrg 0 (.int .u64 (y.t : Int)) rfl
      rw [Nat.add_zero] at c0
      have r1 : (k : Int) < (n : Int) := by omega
      have HLT := Lib.hid hlt
      by_cases hT : y.t = T
      · have q : ((y.t : Int) == (T : Int)) = true := by rw [hT]; simp
        have h2 : X + 1 = (Du.of T (l.take (k + 1))).length := by rw [hst, List.length_append, ← HX.out]; simp [Du.of, hT]
        have HH := Lib.hid h2
        clear hT h2 hst hrg hy hk1 hlt
        go_wp2
        exact ⟨⟨k + 1, X + 1, by have := HLT.out; omega, by omega, by go_num, by go_num, HH.out, trivial⟩, by have := HLT.out; simp [intOf]; omega⟩
      · have q : ((y.t : Int) == (T : Int)) = false := by simp; omega
        have h2 : X = (Du.of T (l.take (k + 1))).length := by rw [hst, List.length_append, ← HX.out]; simp [Du.of, hT]
        have HH := Lib.hid h2
        clear hT h2 hst hrg hy hk1 hlt
        go_wp2
        exact ⟨⟨k + 1, X, by have := HLT.out; omega, by omega, by go_num, rfl, HH.out, trivial⟩, by have := HLT.out; simp [intOf]; omega⟩
    · obtain rfl : k = n := by omega
      have h2 : X = R := by rw [HX.out, HR.out, HN.out, List.take_length]
      subst h2
      clear hlt
      go_wp2
      go_ret
      exact ⟨rfl, rfl⟩
end
end Go.Proofs.Ytgnlkcdpklgikaa
