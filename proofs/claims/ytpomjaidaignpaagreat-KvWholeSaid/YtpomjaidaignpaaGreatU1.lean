/- Arguments that are slices of acts. -/
import Derived.Test.YtpomjaidaignpaaGreatA8
import Derived.Test.YtpomjaidaignpaaGreatAr
set_option linter.unusedVariables false
set_option linter.unusedSimpArgs false
set_option maxRecDepth 100000
namespace Go.Proofs.YtpomjaidaignpaaGreat
open Go.ChangeShapes Go.WideShapes Go.ChangeAt Go.RowKit Wd
theorem Tryz.cells_act : Tryz.prog.cellsOf 50 = 3 := by kernel_rfl
theorem Tryz.cells_str : Tryz.prog.cellsOf 9 = 1 := by kernel_rfl
theorem Tryz.cells_bool : Tryz.prog.cellsOf 4 = 1 := by kernel_rfl
theorem Tryz.cells_bs : Tryz.prog.cellsOf 33 = 1 := by kernel_rfl
theorem Tryz.cells_u8 : Tryz.prog.cellsOf 5 = 1 := by kernel_rfl
theorem choose_list {α : Type} {p : Nat → α → Prop} : ∀ n : Nat, (∀ i, i < n → ∃ a, p i a) → ∃ l : List α, l.length = n ∧ ∀ i (h : i < l.length), p i l[i]
  | 0, _ => ⟨[], rfl, fun i h => absurd h (Nat.not_lt_zero i)⟩
  | n + 1, h => by
    obtain ⟨l, hl, hp⟩ := choose_list n fun i hi => h i (by omega)
    obtain ⟨a, ha⟩ := h n (by omega)
    refine ⟨l ++ [a], by simp [hl], fun i hi => ?_⟩
    rw [List.length_append, List.length_singleton] at hi
    rcases Nat.lt_or_ge i l.length with h1 | h1
    · rw [List.getElem_append_left h1]; exact hp i h1
    · obtain rfl : i = l.length := by omega
      rw [List.getElem_append_right (Nat.le_refl _)]
      simp only [Nat.sub_self, List.getElem_cons_zero]
      rw [hl]
      exact ha
theorem field_bytes {P : Program} {H : Type} {enc : TypeId × Value → H} {W : World} {t e : TypeId} {fuel : Nat} {cs : List Value} {x : DataW H × List MemPlace} (ht : P.underlying t = some (.slice e)) (he : P.underlying e = some (.int .u8)) (hc : P.cellsOf e = 1)
    (hf : DataW.trod enc P W 0 (fun _ => true) true fuel t cs = some x) :
    ∃ (A : Option Addr) (c : Nat) (l : List UInt8), cs = [.slice A l.length c] ∧ (A = none → c = 0) ∧ l.length ≤ c ∧ RB W A l := by
  rcases open_ints ht he hc hf with ⟨hcs, hx⟩ | ⟨a, len, cap, zs, hcs, _, hl, hm, hz, hx, hcell, hwz⟩
  · exact ⟨none, 0, [], hcs, fun _ => rfl, Nat.le_refl _, fun h => absurd rfl h⟩
  · simp only [if_true] at hz
    have hlen : ((zs.take len).map by8).length = len := by rw [List.length_map, List.length_take]; omega
    refine ⟨some a, cap, (zs.take len).map by8, by rw [hlen]; exact hcs, fun h => (by cases h), by rw [hlen]; exact hl, fun hne => ?_⟩
    have hp : 0 < len := by
      rcases Nat.eq_zero_or_pos len with h0 | h0
      · rw [h0] at hne; simp at hne
      · exact h0
    have h0 := hcell 0 (by omega)
    have ha0 : a.add 0 = a := by simp [Addr.add]
    rw [ha0] at h0
    obtain ⟨b, o, rfl, hlt⟩ := addr_of h0
    refine ⟨b, o, rfl, hlt, fun j u hj => ?_⟩
    rw [bv_get, List.getElem?_map] at hj
    have hjl : j < len := by
      rcases Nat.lt_or_ge j len with h | h
      · exact h
      · rw [List.getElem?_eq_none (by rw [List.length_take]; omega)] at hj; cases hj
    have h1 := hcell j (by omega)
    rw [Addr.add_mid] at h1
    rw [h1]
    rw [List.getElem?_take, if_pos hjl, List.getElem?_eq_getElem (by omega)] at hj
    simp only [Option.map_some, Option.some.injEq] at hj
    rw [← hj, by8_nat (byte_wf (hwz _ (List.getElem_mem _))), List.getD_eq_getElem?_getD, List.getElem?_eq_getElem (by omega)]
    rfl
theorem act_cells {H : Type} {enc : TypeId × Value → H} {w : World} {fuel : Nat} {cs : List Value} {x : DataW H × List MemPlace} (h : DataW.trod enc Tryz.prog w 0 (fun _ => true) true fuel 50 cs = some x) :
    ∃ p : Ac, cs = ac p ∧ p.p.ok ∧ RB w p.p.A p.p.l := by
  obtain ⟨xs, n, _, _, hl, hlen, hf⟩ := DataW.trod_struct Tryz.underlying50 h
  rw [Tryz.cells_act] at hl
  match cs, hl with
  | [c0, c1, c2], _ =>
    match xs, hlen with
    | [y0, y1, y2], _ =>
      have h0 := hf 0 _ rfl
      have h1 := hf 1 _ rfl
      have h2 := hf 2 _ rfl
      simp only [Tryz.cells_str, Tryz.cells_bs, Tryz.cells_bool, List.drop_zero, List.drop_succ_cons, List.take_succ_cons, List.take_zero, List.getElem?_cons_zero, List.getElem?_cons_succ] at h0 h1 h2
      obtain ⟨s, e0, -, w0⟩ := DataW.trod_string Tryz.underlying9 h0
      obtain ⟨b, e1, -⟩ := DataW.trod_bool Tryz.underlying4 h1
      obtain ⟨A, c, l, e2, hA, hle, hrb⟩ := field_bytes Tryz.underlying33 Tryz.underlying5 Tryz.cells_u8 h2
      injection e0 with e0 _
      injection e1 with e1 _
      injection e2 with e2 _
      subst e0 e1 e2
      obtain ⟨⟨s⟩⟩ := s
      exact ⟨⟨s, b, ⟨A, l.length, c, l⟩⟩, rfl, ⟨rfl, hA, hle⟩, hrb⟩
theorem acs_get (l : List Ac) (j : Nat) (u : Value) (h : (acs l)[j]? = some u) : ∃ h1 : j / 3 < l.length, (ac l[j / 3])[j % 3]? = some u := by
  have hj := (List.getElem?_eq_some_iff.1 h).1
  rw [acs_length] at hj
  have h1 : j / 3 < l.length := by omega
  refine ⟨h1, ?_⟩
  rw [← acs_at l (j / 3) h1, List.getElem?_take, if_pos (Nat.mod_lt _ (by decide)), List.getElem?_drop, show j / 3 * 3 + j % 3 = j from by omega]
  exact h
theorem arg_acs {H : Type} {enc : TypeId × Value → H} {W : World} {v : Value} {d : DataW H} {ps : List MemPlace} {r : Reach} {b0 : Nat}
    (hw : Value.okWide Tryz.prog W r b0 36 v) (h : DataW.Trod enc Tryz.prog W 0 (fun _ => true) true 36 v d ps) :
    ∃ (A : Option Addr) (c : Nat) (l : List Ac), v = .slice A l.length c ∧ RA W A (acs l) ∧ (∀ a ∈ l, a.p.ok ∧ RB W a.p.A a.p.l) ∧ l.length ≤ c ∧ c ≤ maxLen := by
  obtain ⟨A, len, c, X, rfl, hA, hc, hm, hX, _⟩ := arg_rows (H := H) (enc := enc) Tryz.underlying36 3 Tryz.cells_act (by decide) hw h
  obtain ⟨ax, hl, hp⟩ := choose_list (p := fun i (a : Ac) => X i = ac a ∧ a.p.ok ∧ RB W a.p.A a.p.l) len fun i hi => by
    obtain ⟨_, _, fuel, x, ht⟩ := hX i hi
    exact act_cells ht
  subst hl
  refine ⟨A, c, ax, rfl, fun hne => ?_, fun a ha => ?_, hc, hm⟩
  · have h0 : 0 < ax.length := by cases ax with | nil => exact absurd rfl hne | cons _ _ => simp
    obtain ⟨_, ⟨b, o, rfl, hlt, _⟩, _⟩ := hX 0 h0
    refine ⟨b, o, rfl, hlt, fun j u hj => ?_⟩
    obtain ⟨h1, h2⟩ := acs_get ax j u hj
    obtain ⟨_, ⟨b', o', he, _, hr⟩, _⟩ := hX (j / 3) h1
    injection he with he
    injection he with e1 e2
    subst e1 e2
    rw [(hp (j / 3) h1).1] at hr
    have h3 := hr (j % 3) u h2
    rw [Nat.add_assoc, show j / 3 * 3 + j % 3 = j from by omega] at h3
    exact h3
  · obtain ⟨i, hi, rfl⟩ := List.getElem_of_mem ha
    exact (hp i hi).2
end Go.Proofs.YtpomjaidaignpaaGreat
