/- An argument that is a slice of slices of bytes. No program is in sight. -/
import Derived.Test.YtfhphkhkpejomaaDoorAr
import Derived.Test.YtfhphkhkpejomaaDoorAg
import Derived.Test.YtfhphkhkpejomaaDoorEa
import Derived.Test.YtfhphkhkpejomaaDoorY2
set_option linter.unusedVariables false
set_option linter.unusedSimpArgs false
namespace Go.Proofs.YtfhphkhkpejomaaDoor
open Go.ChangeShapes Go.WideShapes Go.ChangeAt Go.RowKit Wd
/-- One slice of bytes. -/
structure PM where
  A : Option Addr
  c : Nat
  l : List UInt8
def PM.v (p : PM) : Value := .slice p.A p.l.length p.c
def PM.ok (p : PM) (W : World) : Prop := (p.A = none → p.c = 0) ∧ p.l.length ≤ p.c ∧ RB W p.A p.l
theorem choose_pm {p : Nat → PM → Prop} : ∀ n : Nat, (∀ i, i < n → ∃ a, p i a) → ∃ l : List PM, l.length = n ∧ ∀ i (h : i < l.length), p i l[i]
  | 0, _ => ⟨[], rfl, fun i h => absurd h (Nat.not_lt_zero i)⟩
  | n + 1, h => by
    obtain ⟨l, hl, hp⟩ := choose_pm n fun i hi => h i (by omega)
    obtain ⟨a, ha⟩ := h n (by omega)
    refine ⟨l ++ [a], by simp [hl], fun i hi => ?_⟩
    rw [List.length_append, List.length_singleton] at hi
    rcases Nat.lt_or_ge i l.length with h1 | h1
    · rw [List.getElem_append_left h1]; exact hp i h1
    · obtain rfl : i = l.length := by omega
      rw [List.getElem_append_right (Nat.le_refl _)]
      simp only [Nat.sub_self, List.getElem_cons_zero]
      rw [hl]
      exact ha
section
variable {P : Program} {H : Type} {enc : TypeId × Value → H} {W : World}
theorem open_bytes {t e : TypeId} {fuel : Nat} {cs : List Value} {x : DataW H × List MemPlace} (ht : P.underlying t = some (.slice e)) (he : P.underlying e = some (.int .u8)) (hc : P.cellsOf e = 1) (hf : DataW.trod enc P W 0 (fun _ => true) true fuel t cs = some x) :
    ∃ p : PM, cs = [p.v] ∧ p.ok W := by
  rcases open_ints ht he hc hf with ⟨hcs, hx⟩ | ⟨a, len, cap, zs, hcs, _, hl, hm, hz, hx, hcell, hwz⟩
  · exact ⟨⟨none, 0, []⟩, hcs, fun _ => rfl, Nat.le_refl _, fun h => absurd rfl h⟩
  · simp only [if_true] at hz
    have hlen : ((zs.take len).map by8).length = len := by rw [List.length_map, List.length_take]; omega
    refine ⟨⟨some a, cap, (zs.take len).map by8⟩, by rw [hcs]; unfold PM.v; simp only [hlen], fun h => (by cases h), by show ((zs.take len).map by8).length ≤ cap; rw [hlen]; exact hl, fun hne => ?_⟩
    have hp : 0 < len := by
      rcases Nat.eq_zero_or_pos len with h0 | h0
      · rw [h0] at hne; simp at hne
      · exact h0
    have h0 := hcell 0 (by omega)
    have ha0 : a.add 0 = a := by simp [Addr.add]
    rw [ha0] at h0
    obtain ⟨b, o, rfl, hlt⟩ := addr_of h0
    refine ⟨b, o, rfl, hlt, fun j u hj => ?_⟩
    rw [bv_get, List.getElem?_map] at hj
    have hjl : j < len := by
      rcases Nat.lt_or_ge j len with h | h
      · exact h
      · rw [List.getElem?_eq_none (by rw [List.length_take]; omega)] at hj; cases hj
    have h1 := hcell j (by omega)
    rw [Addr.add_mid] at h1
    rw [h1]
    rw [List.getElem?_take, if_pos hjl, List.getElem?_eq_getElem (by omega)] at hj
    simp only [Option.map_some, Option.some.injEq] at hj
    rw [← hj, by8_nat (byte_wf (hwz _ (List.getElem_mem _))), List.getD_eq_getElem?_getD, List.getElem?_eq_getElem (by omega)]
    rfl
theorem arg_pieces {t e b1 : TypeId} {v : Value} {d : DataW H} {ps : List MemPlace} {r : Reach} {b0 : Nat} (ht : P.underlying t = some (.slice e)) (hce : P.cellsOf e = 1) (he : P.underlying e = some (.slice b1)) (hb : P.underlying b1 = some (.int .u8)) (hcb : P.cellsOf b1 = 1)
    (hw : Value.okWide P W r b0 t v) (h : DataW.Trod enc P W 0 (fun _ => true) true t v d ps) :
    ∃ (A : Option Addr) (c : Nat) (l : List PM), v = .slice A l.length c ∧ l.length ≤ 9223372036854775807 ∧ ∀ i (hi : i < l.length), (∃ b o, A = some ⟨b, o, none⟩ ∧ b < W.heap.size ∧ W.rangeAt b (o + i) [(l[i]).v]) ∧ (l[i]).ok W := by
  obtain ⟨A, len, c, X, rfl, hA, hc, hm, hX, _⟩ := arg_rows (H := H) (enc := enc) ht 1 hce (by decide) hw h
  obtain ⟨l, hl, hp⟩ := choose_pm (p := fun i (a : PM) => X i = [a.v] ∧ a.ok W) len fun i hi => by
    obtain ⟨_, _, fuel, x, htr⟩ := hX i hi
    exact open_bytes he hb hcb htr
  subst hl
  refine ⟨A, c, l, rfl, by unfold maxLen at hm; omega, fun i hi => ⟨?_, (hp i hi).2⟩⟩
  obtain ⟨_, ⟨b, o, rfl, hlt, hr⟩, _⟩ := hX i hi
  rw [(hp i hi).1, Nat.mul_one] at hr
  exact ⟨b, o, rfl, hlt, hr⟩
end
end Go.Proofs.YtfhphkhkpejomaaDoor
/- What is sealed, as it came in: a struct of an array of bytes, a text and a slice of bytes. -/
set_option linter.unusedVariables false
set_option linter.unusedSimpArgs false
namespace Go.Proofs.YtfhphkhkpejomaaDoor
open Go.ChangeShapes Go.WideShapes Go.ChangeAt Go.RowKit Wd
theorem open_barr {P : Program} {H : Type} {enc : TypeId × Value → H} {w : World} {base : Nat} {spare : Nat → Bool} {held : Bool} {t e : TypeId} {n fuel : Nat} {cs : List Value} {x : DataW H × List MemPlace}
    (ht : P.underlying t = some (.array n e)) (he : P.underlying e = some (.int .u8)) (hc : P.cellsOf e = 1) (hct : P.cellsOf t = n)
    (hf : DataW.trod enc P w base spare held fuel t cs = some x) : ∃ l : List UInt8, cs = bv l ∧ l.length = n := by
  obtain ⟨xs, m, _, _, hl, hlen, hf⟩ := DataW.trod_array ht hf
  have hl2 : cs.length = n := by rw [hl]; exact hct
  have hcell : ∀ j (hj : j < cs.length), ∃ x : UInt8, cs[j] = .int .u8 (x.toNat : Int) := fun j hj => by
    have h0 := hf j (by omega)
    simp only [hc, Nat.mul_one] at h0
    rw [List.drop_eq_getElem_cons hj, List.take_succ_cons, List.take_zero] at h0
    cases hx : xs[j]? with
    | none => rw [List.getElem?_eq_none_iff] at hx; omega
    | some y =>
      rw [hx] at h0
      obtain ⟨n0, e0, -, w0⟩ := DataW.trod_int he h0
      injection e0 with e0 _
      exact ⟨by8 n0, by rw [e0, by8_nat (byte_wf w0)]⟩
  refine ⟨cs.map fun u => match u with | .int _ z => by8 z | _ => 0, ?_, by rw [List.length_map]; exact hl2⟩
  apply List.ext_getElem
  · simp [bv]
  · intro j h1 h2
    obtain ⟨x, hx⟩ := hcell j h1
    simp only [bv, List.map_map, List.getElem_map, Function.comp_apply]
    rw [hx]
    simp only
    unfold by8
    simp
theorem Tryd.cells_in : Tryd.prog.cellsOf 30 = 18 := by kernel_rfl
theorem Tryd.cells_non : Tryd.prog.cellsOf 28 = 16 := by kernel_rfl
theorem Tryd.cells_str : Tryd.prog.cellsOf 9 = 1 := by kernel_rfl
theorem Tryd.cells_sl : Tryd.prog.cellsOf 22 = 1 := by kernel_rfl
theorem cut3 {α : Type} (l : List α) (h : l.length = 18) : l = l.take 16 ++ ((l.drop 16).take 1 ++ (l.drop 17).take 1) := by
  have a : (l.drop 17).take 1 = l.drop 17 := List.take_of_length_le (by rw [List.length_drop]; omega)
  have b : (l.drop 16).take 1 ++ l.drop 17 = l.drop 16 := by
    have := List.take_append_drop 1 (l.drop 16)
    rwa [List.drop_drop] at this
  rw [a, b, List.take_append_drop]
theorem arg_in {H : Type} {enc : TypeId × Value → H} {W : World} {v : Value} {d : DataW H} {ps : List MemPlace} {r : Reach} {b0 : Nat}
    (hv : Value.okWide Tryd.prog W r b0 30 v) (h : DataW.Trod enc Tryd.prog W 0 (fun _ => true) true 30 v d ps) :
    ∃ (non lb : List UInt8) (C : Option Addr) (f : Nat) (b : List UInt8), v = .agg (icells non lb C b.length f).toArray ∧ non.length = 16 ∧ (C = none → f = 0) ∧ b.length ≤ f ∧ RB W C b := by
  obtain ⟨cs, rfl, hsz⟩ := okWide_struct Tryd.underlying30 hv
  obtain ⟨fuel, hf⟩ := h
  obtain ⟨xs, n, _, _, hl, hlen, hf⟩ := DataW.trod_struct Tryd.underlying30 hf
  rw [Tryd.cells_in] at hl
  match xs, hlen with
  | [y0, y1, y2], _ =>
    have h0 := hf 0 _ rfl
    have h1 := hf 1 _ rfl
    have h2 := hf 2 _ rfl
    change DataW.trod enc Tryd.prog W 0 (fun _ => true) true n 28 ((cs.toList.drop 0).take (Tryd.prog.cellsOf 28)) = some y0 at h0
    change DataW.trod enc Tryd.prog W 0 (fun _ => true) true n 9 ((cs.toList.drop 16).take (Tryd.prog.cellsOf 9)) = some y1 at h1
    change DataW.trod enc Tryd.prog W 0 (fun _ => true) true n 22 ((cs.toList.drop 17).take (Tryd.prog.cellsOf 22)) = some y2 at h2
    rw [Tryd.cells_non] at h0
    rw [Tryd.cells_str] at h1
    rw [Tryd.cells_sl] at h2
    have hl : cs.toList.length = 18 := hl
    obtain ⟨non, e0, hnl⟩ := open_barr Tryd.underlying28 Tryd.underlying5 Tryd.cells_byte Tryd.cells_non h0
    obtain ⟨s, e1, _, _⟩ := DataW.trod_string Tryd.underlying9 h1
    obtain ⟨⟨lb, f, b⟩, e2, h3, h4, h5⟩ := open_bytes Tryd.underlying22 Tryd.underlying5 Tryd.cells_byte h2
    obtain ⟨⟨s⟩⟩ := s
    refine ⟨non, s, lb, f, b, ?_, hnl, h3, h4, h5⟩
    congr 1
    apply Array.ext'
    have e3 := cut3 cs.toList hl
    rw [List.drop_zero] at e0
    rw [e3, e0, e1, e2]
    rfl
end Go.Proofs.YtfhphkhkpejomaaDoor
