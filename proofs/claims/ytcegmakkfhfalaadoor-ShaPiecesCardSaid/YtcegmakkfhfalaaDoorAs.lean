/- An argument that is a slice of slices of bytes. No program is in sight. -/
import Derived.Test.YtcegmakkfhfalaaDoorAr
set_option linter.unusedVariables false
set_option linter.unusedSimpArgs false
namespace Go.Proofs.YtcegmakkfhfalaaDoor
open Go.ChangeShapes Go.WideShapes Go.ChangeAt Go.RowKit Wd
/-- One slice of bytes. -/
structure PM where
  A : Option Addr
  c : Nat
  l : List UInt8
def PM.v (p : PM) : Value := .slice p.A p.l.length p.c
def PM.ok (p : PM) (W : World) : Prop := (p.A = none → p.c = 0) ∧ p.l.length ≤ p.c ∧ RB W p.A p.l
theorem choose_pm {p : Nat → PM → Prop} : ∀ n : Nat, (∀ i, i < n → ∃ a, p i a) → ∃ l : List PM, l.length = n ∧ ∀ i (h : i < l.length), p i l[i]
  | 0, _ => ⟨[], rfl, fun i h => absurd h (Nat.not_lt_zero i)⟩
  | n + 1, h => by
    obtain ⟨l, hl, hp⟩ := choose_pm n fun i hi => h i (by omega)
    obtain ⟨a, ha⟩ := h n (by omega)
    refine ⟨l ++ [a], by simp [hl], fun i hi => ?_⟩
    rw [List.length_append, List.length_singleton] at hi
    rcases Nat.lt_or_ge i l.length with h1 | h1
    · rw [List.getElem_append_left h1]; exact hp i h1
    · obtain rfl : i = l.length := by omega
      rw [List.getElem_append_right (Nat.le_refl _)]
      simp only [Nat.sub_self, List.getElem_cons_zero]
      rw [hl]
      exact ha
section
variable {P : Program} {H : Type} {enc : TypeId × Value → H} {W : World}
theorem open_bytes {t e : TypeId} {fuel : Nat} {cs : List Value} {x : DataW H × List MemPlace} (ht : P.underlying t = some (.slice e)) (he : P.underlying e = some (.int .u8)) (hc : P.cellsOf e = 1) (hf : DataW.trod enc P W 0 (fun _ => true) true fuel t cs = some x) :
    ∃ p : PM, cs = [p.v] ∧ p.ok W := by
  rcases open_ints ht he hc hf with ⟨hcs, hx⟩ | ⟨a, len, cap, zs, hcs, _, hl, hm, hz, hx, hcell, hwz⟩
  · exact ⟨⟨none, 0, []⟩, hcs, fun _ => rfl, Nat.le_refl _, fun h => absurd rfl h⟩
  · simp only [if_true] at hz
    have hlen : ((zs.take len).map by8).length = len := by rw [List.length_map, List.length_take]; omega
    refine ⟨⟨some a, cap, (zs.take len).map by8⟩, by rw [hcs]; unfold PM.v; simp only [hlen], fun h => (by cases h), by show ((zs.take len).map by8).length ≤ cap; rw [hlen]; exact hl, fun hne => ?_⟩
    have hp : 0 < len := by
      rcases Nat.eq_zero_or_pos len with h0 | h0
      · rw [h0] at hne; simp at hne
      · exact h0
    have h0 := hcell 0 (by omega)
    have ha0 : a.add 0 = a := by simp [Addr.add]
    rw [ha0] at h0
    obtain ⟨b, o, rfl, hlt⟩ := addr_of h0
    refine ⟨b, o, rfl, hlt, fun j u hj => ?_⟩
    rw [bv_get, List.getElem?_map] at hj
    have hjl : j < len := by
      rcases Nat.lt_or_ge j len with h | h
      · exact h
      · rw [List.getElem?_eq_none (by rw [List.length_take]; omega)] at hj; cases hj
    have h1 := hcell j (by omega)
    rw [Addr.add_mid] at h1
    rw [h1]
    rw [List.getElem?_take, if_pos hjl, List.getElem?_eq_getElem (by omega)] at hj
    simp only [Option.map_some, Option.some.injEq] at hj
    rw [← hj, by8_nat (byte_wf (hwz _ (List.getElem_mem _))), List.getD_eq_getElem?_getD, List.getElem?_eq_getElem (by omega)]
    rfl
theorem arg_pieces {t e b1 : TypeId} {v : Value} {d : DataW H} {ps : List MemPlace} {r : Reach} {b0 : Nat} (ht : P.underlying t = some (.slice e)) (hce : P.cellsOf e = 1) (he : P.underlying e = some (.slice b1)) (hb : P.underlying b1 = some (.int .u8)) (hcb : P.cellsOf b1 = 1)
    (hw : Value.okWide P W r b0 t v) (h : DataW.Trod enc P W 0 (fun _ => true) true t v d ps) :
    ∃ (A : Option Addr) (c : Nat) (l : List PM), v = .slice A l.length c ∧ l.length ≤ 9223372036854775807 ∧ ∀ i (hi : i < l.length), (∃ b o, A = some ⟨b, o, none⟩ ∧ b < W.heap.size ∧ W.rangeAt b (o + i) [(l[i]).v]) ∧ (l[i]).ok W := by
  obtain ⟨A, len, c, X, rfl, hA, hc, hm, hX, _⟩ := arg_rows (H := H) (enc := enc) ht 1 hce (by decide) hw h
  obtain ⟨l, hl, hp⟩ := choose_pm (p := fun i (a : PM) => X i = [a.v] ∧ a.ok W) len fun i hi => by
    obtain ⟨_, _, fuel, x, htr⟩ := hX i hi
    exact open_bytes he hb hcb htr
  subst hl
  refine ⟨A, c, l, rfl, by unfold maxLen at hm; omega, fun i hi => ⟨?_, (hp i hi).2⟩⟩
  obtain ⟨_, ⟨b, o, rfl, hlt, hr⟩, _⟩ := hX i hi
  rw [(hp i hi).1, Nat.mul_one] at hr
  exact ⟨b, o, rfl, hlt, hr⟩
end
end Go.Proofs.YtcegmakkfhfalaaDoor
