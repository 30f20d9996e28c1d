/- A slice of acts that came in. -/
import Derived.Test.YtinhpiggakillaaAr
import Derived.Test.YtinhpiggakillaaAc
import Derived.Test.YtinhpiggakillaaLz
set_option linter.unusedVariables false
set_option linter.unusedSimpArgs false
namespace Go.Proofs.Ytinhpiggakillaa
open Go.ChangeShapes Go.WideShapes Go.ChangeAt Go.RowKit Wd
theorem choose_list {α : Type} {p : Nat → α → Prop} : ∀ n : Nat, (∀ i, i < n → ∃ a, p i a) → ∃ l : List α, l.length = n ∧ ∀ i (h : i < l.length), p i l[i]
  | 0, _ => ⟨[], rfl, fun i h => absurd h (Nat.not_lt_zero i)⟩
  | n + 1, h => by
    obtain ⟨l, hl, hp⟩ := choose_list n fun i hi => h i (by omega)
    obtain ⟨a, ha⟩ := h n (by omega)
    refine ⟨l ++ [a], by simp [hl], fun i hi => ?_⟩
    rw [List.length_append, List.length_singleton] at hi
    rcases Nat.lt_or_ge i l.length with h1 | h1
    · rw [List.getElem_append_left h1]; exact hp i h1
    · obtain rfl : i = l.length := by omega
      rw [List.getElem_append_right (Nat.le_refl _)]
      simp only [Nat.sub_self, List.getElem_cons_zero]
      rw [hl]
      exact ha
theorem amcs_get (l : List AM) (j : Nat) (u : Value) (h : (amcs l)[j]? = some u) : ∃ h1 : j / 5 < l.length, (l[j / 5]).cells[j % 5]? = some u := by
  have hj := (List.getElem?_eq_some_iff.1 h).1
  rw [amcs_length] at hj
  have h1 : j / 5 < l.length := by omega
  refine ⟨h1, ?_⟩
  rw [← amcs_at l (j / 5) h1, List.getElem?_take, if_pos (Nat.mod_lt _ (by decide)), List.getElem?_drop, show j / 5 * 5 + j % 5 = j from by omega]
  exact h
theorem arg_acts {H : Type} {enc : TypeId × Value → H} {W : World} {v : Value} {d : DataW H} {ps : List MemPlace} {r : Reach} {b0 : Nat}
    (hw : Value.okWide Try.prog W r b0 34 v) (h : DataW.Trod enc Try.prog W 0 (fun _ => true) true 34 v d ps) :
    ∃ (A : Option Addr) (c : Nat) (ax : List AM), v = .slice A ax.length c ∧ RA W A (amcs ax) ∧ (∀ a ∈ ax, a.k ≤ 9223372036854775807) ∧ ax.length ≤ 9223372036854775807 := by
  obtain ⟨A, len, c, X, rfl, hA, hc, hm, hX, _⟩ := arg_rows (H := H) (enc := enc) Try.underlying34 5 Try.cells_act (by decide) hw h
  obtain ⟨ax, hl, hp⟩ := choose_list (p := fun i (a : AM) => X i = a.cells ∧ a.k ≤ 9223372036854775807) len fun i hi => by
    obtain ⟨_, _, fuel, x, ht⟩ := hX i hi
    obtain ⟨e, i', b, k, t, hcs, _, _, h3, _⟩ := act_cells ht
    exact ⟨⟨e, i', b, k, t⟩, hcs, h3.2⟩
  subst hl
  refine ⟨A, c, ax, rfl, fun hne => ?_, fun a ha => ?_, by unfold maxLen at hm; omega⟩
  · have h0 : 0 < ax.length := by cases ax with | nil => exact absurd rfl hne | cons _ _ => simp
    obtain ⟨_, ⟨b, o, rfl, hlt, _⟩, _⟩ := hX 0 h0
    refine ⟨b, o, rfl, hlt, fun j u hj => ?_⟩
    obtain ⟨h1, h2⟩ := amcs_get ax j u hj
    obtain ⟨_, ⟨b', o', he, _, hr⟩, _⟩ := hX (j / 5) h1
    injection he with he
    injection he with e1 e2
    subst e1 e2
    rw [(hp (j / 5) h1).1] at hr
    have h3 := hr (j % 5) u h2
    rw [Nat.add_assoc, show j / 5 * 5 + j % 5 = j from by omega] at h3
    exact h3
  · obtain ⟨i, hi, rfl⟩ := List.getElem_of_mem ha
    exact (hp i hi).2
end Go.Proofs.Ytinhpiggakillaa
