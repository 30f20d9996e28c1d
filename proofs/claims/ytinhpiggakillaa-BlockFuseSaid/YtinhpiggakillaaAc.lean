/- An Act that came in, as its five cells. -/
import Derived.Test.YtinhpiggakillaaLd
import Derived.Test.YtinhpiggakillaaLw
import Derived.ProofKit
set_option linter.unusedVariables false
set_option linter.unusedSimpArgs false
namespace Go.Proofs.Ytinhpiggakillaa
open Go.RowKit Go.WideShapes Go.ChangeShapes Wd

theorem u8_of (n : Int) (h : (Lit.int .u8 n).wf = true) : ∃ c : UInt8, n = (c.toNat : Int) := by
  have h1 : IntKind.u8.min = 0 := rfl
  have h2 : IntKind.u8.max = 255 := rfl
  simp only [Lit.wf, Bool.and_eq_true, decide_eq_true_eq] at h
  refine ⟨UInt8.ofNat n.toNat, ?_⟩
  simp
  omega
theorem i64_of (n : Int) (h : (Lit.int .i64 n).wf = true) : -9223372036854775808 ≤ n ∧ n ≤ 9223372036854775807 := by
  have h1 : IntKind.i64.min = -9223372036854775808 := rfl
  have h2 : IntKind.i64.max = 9223372036854775807 := rfl
  simp only [Lit.wf, Bool.and_eq_true, decide_eq_true_eq] at h
  omega
theorem Try.cells_act : Try.prog.cellsOf 40 = 5 := by kernel_rfl
theorem Try.cells_int : Try.prog.cellsOf 3 = 1 := by kernel_rfl
theorem Try.cells_byte : Try.prog.cellsOf 5 = 1 := by kernel_rfl
def ok64 (n : Int) : Prop := -9223372036854775808 ≤ n ∧ n ≤ 9223372036854775807
theorem act_cells {H : Type} {enc : TypeId × Value → H} {w : World} {base : Nat} {spare : Nat → Bool} {held : Bool} {fuel : Nat} {cs : List Value} {x : DataW H × List MemPlace} (h : DataW.trod enc Try.prog w base spare held fuel 40 cs = some x) :
    ∃ (d i : Int) (b : UInt8) (k t : Int), cs = acells d i b k t ∧ ok64 d ∧ ok64 i ∧ ok64 k ∧ ok64 t := by
  obtain ⟨xs, n, _, _, hl, hlen, hf⟩ := DataW.trod_struct Try.underlying40 h
  rw [Try.cells_act] at hl
  match cs, hl with
  | [c0, c1, c2, c3, c4], _ =>
    match xs, hlen with
    | [y0, y1, y2, y3, y4], _ =>
      have h0 := hf 0 _ rfl
      have h1 := hf 1 _ rfl
      have h2 := hf 2 _ rfl
      have h3 := hf 3 _ rfl
      have h4 := hf 4 _ rfl
      simp only [Try.cells_int, Try.cells_byte, List.drop_zero, List.drop_succ_cons, List.take_succ_cons, List.take_zero, List.getElem?_cons_zero, List.getElem?_cons_succ] at h0 h1 h2 h3 h4
      obtain ⟨n0, e0, -, w0⟩ := DataW.trod_int Try.underlying3 h0
      obtain ⟨n1, e1, -, w1⟩ := DataW.trod_int Try.underlying3 h1
      obtain ⟨n2, e2, -, w2⟩ := DataW.trod_int Try.underlying5 h2
      obtain ⟨n3, e3, -, w3⟩ := DataW.trod_int Try.underlying3 h3
      obtain ⟨n4, e4, -, w4⟩ := DataW.trod_int Try.underlying3 h4
      injection e0 with e0 _
      injection e1 with e1 _
      injection e2 with e2 _
      injection e3 with e3 _
      injection e4 with e4 _
      subst e0 e1 e2 e3 e4
      obtain ⟨c, rfl⟩ := u8_of n2 w2
      exact ⟨n0, n1, c, n3, n4, rfl, i64_of _ w0, i64_of _ w1, i64_of _ w3, i64_of _ w4⟩
theorem act_value {H : Type} {enc : TypeId × Value → H} {w : World} {base : Nat} {spare : Nat → Bool} {held : Bool} {v : Value} {d : DataW H} {ps : List MemPlace} {r : Reach} {b0 : Nat}
    (hv : Value.okWide Try.prog w r b0 40 v) (h : DataW.Trod enc Try.prog w base spare held 40 v d ps) : ∃ (e i : Int) (b : UInt8) (k t : Int), v = .agg (acells e i b k t).toArray ∧ ok64 e ∧ ok64 i ∧ ok64 k ∧ ok64 t := by
  obtain ⟨cs, rfl, hsz⟩ := okWide_struct Try.underlying40 hv
  obtain ⟨fuel, hf⟩ := h
  obtain ⟨e, i, b, k, t, hcs, h1, h2, h3, h4⟩ := act_cells hf
  refine ⟨e, i, b, k, t, ?_, h1, h2, h3, h4⟩
  congr 1
  rw [← hcs]
  simp [Value.cells]
end Go.Proofs.Ytinhpiggakillaa
