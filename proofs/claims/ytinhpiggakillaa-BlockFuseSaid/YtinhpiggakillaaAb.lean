/- Two numbers that came in, as an array by value. -/
import Derived.Test.YtinhpiggakillaaAa
import Derived.OpenShut
set_option linter.unusedVariables false
set_option linter.unusedSimpArgs false
namespace Go.Proofs.Ytinhpiggakillaa
open Go.RowKit Go.WideShapes Go.ChangeShapes Wd
theorem arg_pair {H : Type} {enc : TypeId × Value → H} {w : World} {base : Nat} {spare : Nat → Bool} {held : Bool} {v : Value} {d : DataW H} {ps : List MemPlace} {r : Reach} {b0 : Nat}
    (hv : Value.okWide Try.prog w r b0 35 v) (h : DataW.Trod enc Try.prog w base spare held 35 v d ps) : ∃ K T : Int, v = .agg #[.int .i64 K, .int .i64 T] ∧ ok64 K ∧ ok64 T := by
  simp only [Value.okWide, Try.underlying35] at hv
  obtain ⟨cs, rfl, hsz, _⟩ := hv
  obtain ⟨fuel, hf⟩ := h
  obtain ⟨xs, n, _, _, hl, hlen, hf⟩ := DataW.trod_array Try.underlying35 hf
  have hl : cs.toList.length = 2 := by rw [Array.length_toList, hsz]; kernel_rfl
  obtain ⟨l⟩ := cs
  match l, hl, hf with
  | [c0, c1], _, hf =>
    match xs, hlen with
    | [y0, y1], _ =>
      have h0 := hf 0 (by omega)
      have h1 := hf 1 (by omega)
      simp only [Try.cells_int, Value.cells, Nat.zero_mul, Nat.one_mul, List.drop_zero, List.drop_succ_cons, List.take_succ_cons, List.take_zero, List.getElem?_cons_zero, List.getElem?_cons_succ] at h0 h1
      obtain ⟨n0, e0, -, w0⟩ := DataW.trod_int Try.underlying3 h0
      obtain ⟨n1, e1, -, w1⟩ := DataW.trod_int Try.underlying3 h1
      injection e0 with e0 _
      injection e1 with e1 _
      subst e0 e1
      exact ⟨n0, n1, rfl, i64_of _ w0, i64_of _ w1⟩
end Go.Proofs.Ytinhpiggakillaa
