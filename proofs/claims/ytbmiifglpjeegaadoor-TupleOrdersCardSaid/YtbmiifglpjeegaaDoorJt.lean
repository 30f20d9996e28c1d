/- Arguments that are slices of parts; the library's bound. -/
import Derived.Test.YtbmiifglpjeegaaDoorRows
import Derived.Test.YtbmiifglpjeegaaDoorJs
import Derived.Test.YtbmiifglpjeegaaDoorAr
import Derived.Test.YtbmiifglpjeegaaDoorLw
import Derived.Deep.DeepHandedRow
import Derived.Shelf.Vars
import Derived.OpenShut
import Derived.Lay
set_option linter.unusedVariables false
set_option linter.unusedSimpArgs false
namespace Go.Proofs.YtbmiifglpjeegaaDoor
open Go.ChangeShapes Go.WideShapes Go.ChangeAt Go.RowKit Wd
theorem Tryd.own : ownKnob Tryd.prog.godebug = none := by kernel_rfl
theorem Tryd.laidOut : laidOutB Tryd.prog = true := by kernel_rfl
theorem maxI_of {W : World} (h : W.ShapedOpen Tryd.prog) : MaxI W :=
  cell_of_shapedOpen_int (zero := #[.int .i64 0]) (t := 3) h (of_decide_eq_true (by kernel_rfl)) (by kernel_rfl) rfl (by kernel_rfl) (by kernel_rfl) Tryd.underlying3
theorem Tryd.cells_part : Tryd.prog.cellsOf 42 = 3 := by kernel_rfl
theorem Tryd.cells_str : Tryd.prog.cellsOf 9 = 1 := by kernel_rfl
theorem Tryd.cells_u64 : Tryd.prog.cellsOf 40 = 1 := by kernel_rfl
theorem Tryd.cells_bool : Tryd.prog.cellsOf 4 = 1 := by kernel_rfl
theorem part_cells {H : Type} {enc : TypeId × Value → H} {w : World} {base : Nat} {spare : Nat → Bool} {held : Bool} {fuel : Nat} {cs : List Value} {x : DataW H × List MemPlace} (h : DataW.trod enc Tryd.prog w base spare held fuel 42 cs = some x) :
    ∃ p : Tu.Part, cs = pc p ∧ p.num < 18446744073709551616 := by
  obtain ⟨xs, n, _, _, hl, hlen, hf⟩ := DataW.trod_struct Tryd.underlying42 h
  rw [Tryd.cells_part] at hl
  match cs, hl with
  | [c0, c1, c2], _ =>
    match xs, hlen with
    | [y0, y1, y2], _ =>
      have h0 := hf 0 _ rfl
      have h1 := hf 1 _ rfl
      have h2 := hf 2 _ rfl
      simp only [Tryd.cells_str, Tryd.cells_u64, Tryd.cells_bool, List.drop_zero, List.drop_succ_cons, List.take_succ_cons, List.take_zero, List.getElem?_cons_zero, List.getElem?_cons_succ] at h0 h1 h2
      obtain ⟨s, e0, -, w0⟩ := DataW.trod_string Tryd.underlying9 h0
      obtain ⟨n1, e1, -, w1⟩ := DataW.trod_int Tryd.underlying40 h1
      obtain ⟨b, e2, -⟩ := DataW.trod_bool Tryd.underlying4 h2
      injection e0 with e0 _
      injection e1 with e1 _
      injection e2 with e2 _
      subst e0 e1 e2
      obtain ⟨⟨s⟩⟩ := s
      have hw : 0 ≤ n1 ∧ n1 < 18446744073709551616 := by
        have g1 : IntKind.u64.min = 0 := rfl
        have g2 : IntKind.u64.max = 18446744073709551615 := rfl
        simp only [Lit.wf, Bool.and_eq_true, decide_eq_true_eq] at w1
        omega
      obtain ⟨m, rfl⟩ := Int.eq_ofNat_of_zero_le hw.1
      exact ⟨⟨s, m, b⟩, rfl, by show m < _; omega⟩
theorem choose_list {α : Type} {p : Nat → α → Prop} : ∀ n : Nat, (∀ i, i < n → ∃ a, p i a) → ∃ l : List α, l.length = n ∧ ∀ i (h : i < l.length), p i l[i]
  | 0, _ => ⟨[], rfl, fun i h => absurd h (Nat.not_lt_zero i)⟩
  | n + 1, h => by
    obtain ⟨l, hl, hp⟩ := choose_list n fun i hi => h i (by omega)
    obtain ⟨a, ha⟩ := h n (by omega)
    refine ⟨l ++ [a], by simp [hl], fun i hi => ?_⟩
    rw [List.length_append, List.length_singleton] at hi
    rcases Nat.lt_or_ge i l.length with h1 | h1
    · rw [List.getElem_append_left h1]; exact hp i h1
    · obtain rfl : i = l.length := by omega
      rw [List.getElem_append_right (Nat.le_refl _)]
      simp only [Nat.sub_self, List.getElem_cons_zero]
      rw [hl]
      exact ha
theorem pcs_get (l : List Tu.Part) (j : Nat) (u : Value) (h : (pcs l)[j]? = some u) : ∃ h1 : j / 3 < l.length, (pc l[j / 3])[j % 3]? = some u := by
  have hj := (List.getElem?_eq_some_iff.1 h).1
  rw [pcs_length] at hj
  have h1 : j / 3 < l.length := by omega
  refine ⟨h1, ?_⟩
  rw [← pcs_at l (j / 3) h1, List.getElem?_take, if_pos (Nat.mod_lt _ (by decide)), List.getElem?_drop, show j / 3 * 3 + j % 3 = j from by omega]
  exact h
theorem arg_parts {H : Type} {enc : TypeId × Value → H} {W : World} {v : Value} {d : DataW H} {ps : List MemPlace} {r : Reach} {b0 : Nat}
    (hw : Value.okWide Tryd.prog W r b0 23 v) (h : DataW.Trod enc Tryd.prog W 0 (fun _ => true) true 23 v d ps) :
    ∃ (A : Option Addr) (c : Nat) (l : List Tu.Part), v = .slice A l.length c ∧ RA W A (pcs l) ∧ (∀ p ∈ l, p.num < 18446744073709551616) ∧ l.length ≤ c ∧ c ≤ maxLen := by
  obtain ⟨A, len, c, X, rfl, hA, hc, hm, hX, _⟩ := arg_rows (H := H) (enc := enc) Tryd.underlying23 3 Tryd.cells_part (by decide) hw h
  obtain ⟨ax, hl, hp⟩ := choose_list (p := fun i (a : Tu.Part) => X i = pc a ∧ a.num < 18446744073709551616) len fun i hi => by
    obtain ⟨_, _, fuel, x, ht⟩ := hX i hi
    obtain ⟨p, hcs, h3⟩ := part_cells ht
    exact ⟨p, hcs, h3⟩
  subst hl
  refine ⟨A, c, ax, rfl, fun hne => ?_, fun a ha => ?_, hc, hm⟩
  · have h0 : 0 < ax.length := by cases ax with | nil => exact absurd rfl hne | cons _ _ => simp
    obtain ⟨_, ⟨b, o, rfl, hlt, _⟩, _⟩ := hX 0 h0
    refine ⟨b, o, rfl, hlt, fun j u hj => ?_⟩
    obtain ⟨h1, h2⟩ := pcs_get ax j u hj
    obtain ⟨_, ⟨b', o', he, _, hr⟩, _⟩ := hX (j / 3) h1
    injection he with he
    injection he with e1 e2
    subst e1 e2
    rw [(hp (j / 3) h1).1] at hr
    have h3 := hr (j % 3) u h2
    rw [Nat.add_assoc, show j / 3 * 3 + j % 3 = j from by omega] at h3
    exact h3
  · obtain ⟨i, hi, rfl⟩ := List.getElem_of_mem ha
    exact (hp i hi).2
end Go.Proofs.YtbmiifglpjeegaaDoor
