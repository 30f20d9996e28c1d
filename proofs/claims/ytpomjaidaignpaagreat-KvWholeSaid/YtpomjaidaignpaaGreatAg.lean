/- An array of bytes that came in by value. No program is in sight. -/
import Derived.Test.YtpomjaidaignpaaGreatAr
import Derived.OpenShut
set_option linter.unusedVariables false
set_option linter.unusedSimpArgs false
namespace Go.Proofs.YtpomjaidaignpaaGreat
open Go.ChangeShapes Go.WideShapes Go.ChangeAt Go.RowKit Wd
theorem arg_barr {P : Program} {H : Type} {enc : TypeId × Value → H} {w : World} {base : Nat} {spare : Nat → Bool} {held : Bool} {t e : TypeId} {n : Nat} {v : Value} {d : DataW H} {ps : List MemPlace} {r : Reach} {b0 : Nat}
    (ht : P.underlying t = some (.array n e)) (he : P.underlying e = some (.int .u8)) (hc : P.cellsOf e = 1) (hct : P.cellsOf t = n)
    (hv : Value.okWide P w r b0 t v) (h : DataW.Trod enc P w base spare held t v d ps) : ∃ l : List UInt8, v = .agg (bv l).toArray ∧ l.length = n := by
  simp only [Value.okWide, ht] at hv
  obtain ⟨cs, rfl, hsz, _⟩ := hv
  obtain ⟨fuel, hf⟩ := h
  obtain ⟨xs, m, _, _, hl, hlen, hf⟩ := DataW.trod_array ht hf
  have hl2 : cs.toList.length = n := by rw [Array.length_toList, hsz]; exact hct
  have hcell : ∀ j (hj : j < cs.toList.length), ∃ x : UInt8, cs.toList[j] = .int .u8 (x.toNat : Int) := fun j hj => by
    have h0 := hf j (by omega)
    simp only [hc, Value.cells, Nat.mul_one] at h0
    rw [List.drop_eq_getElem_cons hj, List.take_succ_cons, List.take_zero] at h0
    cases hx : xs[j]? with
    | none => rw [List.getElem?_eq_none_iff] at hx; omega
    | some y =>
      rw [hx] at h0
      obtain ⟨n0, e0, -, w0⟩ := DataW.trod_int he h0
      injection e0 with e0 _
      exact ⟨by8 n0, by rw [e0, by8_nat (byte_wf w0)]⟩
  refine ⟨cs.toList.map fun u => match u with | .int _ z => by8 z | _ => 0, ?_, by rw [List.length_map]; exact hl2⟩
  congr 1
  apply Array.ext'
  apply List.ext_getElem
  · simp [bv]
  · intro j h1 h2
    obtain ⟨x, hx⟩ := hcell j h1
    simp only [bv, List.map_map, List.getElem_map, Function.comp_apply]
    rw [hx]
    simp only
    unfold by8
    simp
theorem arg_u8 (n : Int) (h : (Lit.int .u8 n).wf = true) : ∃ c : UInt8, n = (c.toNat : Int) := ⟨by8 n, (by8_nat (byte_wf h)).symm⟩
theorem arg_i64 (n : Int) (h : (Lit.int .i64 n).wf = true) : -9223372036854775808 ≤ n ∧ n ≤ 9223372036854775807 := by
  simp only [Lit.wf, Bool.and_eq_true, decide_eq_true_eq] at h
  exact h
theorem arg_ints2 {P : Program} {H : Type} {enc : TypeId × Value → H} {w : World} {base : Nat} {spare : Nat → Bool} {held : Bool} {t e : TypeId} {v : Value} {d : DataW H} {ps : List MemPlace} {r : Reach} {b0 : Nat}
    (ht : P.underlying t = some (.array 2 e)) (he : P.underlying e = some (.int .i64)) (hc : P.cellsOf e = 1) (hct : P.cellsOf t = 2)
    (hv : Value.okWide P w r b0 t v) (h : DataW.Trod enc P w base spare held t v d ps) : ∃ K T : Int, v = .agg #[.int .i64 K, .int .i64 T] ∧ (-9223372036854775808 ≤ K ∧ K ≤ 9223372036854775807) ∧ (-9223372036854775808 ≤ T ∧ T ≤ 9223372036854775807) := by
  simp only [Value.okWide, ht] at hv
  obtain ⟨cs, rfl, hsz, _⟩ := hv
  obtain ⟨fuel, hf⟩ := h
  obtain ⟨xs, n, _, _, hl, hlen, hf⟩ := DataW.trod_array ht hf
  have hl : cs.toList.length = 2 := by rw [Array.length_toList, hsz]; exact hct
  obtain ⟨l⟩ := cs
  match l, hl, hf with
  | [c0, c1], _, hf =>
    match xs, hlen with
    | [y0, y1], _ =>
      have h0 := hf 0 (by omega)
      have h1 := hf 1 (by omega)
      simp only [hc, Value.cells, Nat.zero_mul, Nat.one_mul, List.drop_zero, List.drop_succ_cons, List.take_succ_cons, List.take_zero, List.getElem?_cons_zero, List.getElem?_cons_succ] at h0 h1
      obtain ⟨n0, e0, -, w0⟩ := DataW.trod_int he h0
      obtain ⟨n1, e1, -, w1⟩ := DataW.trod_int he h1
      injection e0 with e0 _
      injection e1 with e1 _
      subst e0 e1
      exact ⟨n0, n1, rfl, arg_i64 _ w0, arg_i64 _ w1⟩
end Go.Proofs.YtpomjaidaignpaaGreat
