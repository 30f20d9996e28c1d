/- Arguments that are slices of dues. -/
import Derived.Test.YtgnlkcdpklgikaaRows
import Derived.Test.YtgnlkcdpklgikaaVc
import Derived.Test.YtgnlkcdpklgikaaAr
import Derived.Test.YtgnlkcdpklgikaaLw
import Derived.Deep.DeepHandedRow
import Derived.OpenShut
set_option linter.unusedVariables false
set_option linter.unusedSimpArgs false
namespace Go.Proofs.Ytgnlkcdpklgikaa
open Go.ChangeShapes Go.WideShapes Go.ChangeAt Go.RowKit Wd
open Du (Due)
theorem Try.cells_due : Try.prog.cellsOf 40 = 3 := by kernel_rfl
theorem Try.cells_u64 : Try.prog.cellsOf 38 = 1 := by kernel_rfl
theorem Try.cells_i64 : Try.prog.cellsOf 2 = 1 := by kernel_rfl
theorem u64_nat {n : Int} (h : Lit.wf (.int .u64 n) = true) : 0 ≤ n := by
  have g1 : IntKind.u64.min = 0 := rfl
  simp only [Lit.wf, Bool.and_eq_true, decide_eq_true_eq] at h
  omega
theorem due_cells {H : Type} {enc : TypeId × Value → H} {w : World} {base : Nat} {spare : Nat → Bool} {held : Bool} {fuel : Nat} {cs : List Value} {x : DataW H × List MemPlace} (h : DataW.trod enc Try.prog w base spare held fuel 40 cs = some x) :
    ∃ p : Due, cs = dc p := by
  obtain ⟨xs, n, _, _, hl, hlen, hf⟩ := DataW.trod_struct Try.underlying40 h
  rw [Try.cells_due] at hl
  match cs, hl with
  | [c0, c1, c2], _ =>
    match xs, hlen with
    | [y0, y1, y2], _ =>
      have h0 := hf 0 _ rfl
      have h1 := hf 1 _ rfl
      have h2 := hf 2 _ rfl
      simp only [Try.cells_u64, Try.cells_i64, List.drop_zero, List.drop_succ_cons, List.take_succ_cons, List.take_zero, List.getElem?_cons_zero, List.getElem?_cons_succ] at h0 h1 h2
      obtain ⟨n0, e0, -, w0⟩ := DataW.trod_int Try.underlying38 h0
      obtain ⟨n1, e1, -, w1⟩ := DataW.trod_int Try.underlying38 h1
      obtain ⟨n2, e2, -, w2⟩ := DataW.trod_int Try.underlying2 h2
      injection e0 with e0 _
      injection e1 with e1 _
      injection e2 with e2 _
      subst e0 e1 e2
      obtain ⟨m0, rfl⟩ := Int.eq_ofNat_of_zero_le (u64_nat w0)
      obtain ⟨m1, rfl⟩ := Int.eq_ofNat_of_zero_le (u64_nat w1)
      exact ⟨⟨m0, m1, n2⟩, rfl⟩
theorem choose_list {α : Type} {p : Nat → α → Prop} : ∀ n : Nat, (∀ i, i < n → ∃ a, p i a) → ∃ l : List α, l.length = n ∧ ∀ i (h : i < l.length), p i l[i]
  | 0, _ => ⟨[], rfl, fun i h => absurd h (Nat.not_lt_zero i)⟩
  | n + 1, h => by
    obtain ⟨l, hl, hp⟩ := choose_list n fun i hi => h i (by omega)
    obtain ⟨a, ha⟩ := h n (by omega)
    refine ⟨l ++ [a], by simp [hl], fun i hi => ?_⟩
    rw [List.length_append, List.length_singleton] at hi
    rcases Nat.lt_or_ge i l.length with h1 | h1
    · rw [List.getElem_append_left h1]; exact hp i h1
    · obtain rfl : i = l.length := by omega
      rw [List.getElem_append_right (Nat.le_refl _)]
      simp only [Nat.sub_self, List.getElem_cons_zero]
      rw [hl]
      exact ha
theorem dcs_get' (l : List Due) (j : Nat) (u : Value) (h : (dcs l)[j]? = some u) : ∃ h1 : j / 3 < l.length, (dc l[j / 3])[j % 3]? = some u := by
  have hj := (List.getElem?_eq_some_iff.1 h).1
  rw [dcs_length] at hj
  have h1 : j / 3 < l.length := by omega
  refine ⟨h1, ?_⟩
  rw [← dcs_at l (j / 3) h1, List.getElem?_take, if_pos (Nat.mod_lt _ (by decide)), List.getElem?_drop, show j / 3 * 3 + j % 3 = j from by omega]
  exact h
theorem arg_dues {H : Type} {enc : TypeId × Value → H} {W : World} {v : Value} {d : DataW H} {ps : List MemPlace} {r : Reach} {b0 : Nat}
    (hw : Value.okWide Try.prog W r b0 22 v) (h : DataW.Trod enc Try.prog W 0 (fun _ => true) true 22 v d ps) :
    ∃ (A : Option Addr) (c : Nat) (l : List Due), v = .slice A l.length c ∧ RA W A (dcs l) ∧ (A = none → c = 0) ∧ l.length ≤ c := by
  obtain ⟨A, len, c, X, rfl, hA, hc, hm, hX, _⟩ := arg_rows (H := H) (enc := enc) Try.underlying22 3 Try.cells_due (by decide) hw h
  obtain ⟨ax, hl, hp⟩ := choose_list (p := fun i (a : Due) => X i = dc a) len fun i hi => by
    obtain ⟨_, _, fuel, x, ht⟩ := hX i hi
    exact due_cells ht
  subst hl
  refine ⟨A, c, ax, rfl, fun hne => ?_, fun h => (hA h).1, hc⟩
  have h0 : 0 < ax.length := by cases ax with | nil => exact absurd rfl hne | cons _ _ => simp
  obtain ⟨_, ⟨b, o, rfl, hlt, _⟩, _⟩ := hX 0 h0
  refine ⟨b, o, rfl, hlt, fun j u hj => ?_⟩
  obtain ⟨h1, h2⟩ := dcs_get' ax j u hj
  obtain ⟨_, ⟨b', o', he, _, hr⟩, _⟩ := hX (j / 3) h1
  injection he with he
  injection he with e1 e2
  subst e1 e2
  rw [hp (j / 3) h1] at hr
  have h3 := hr (j % 3) u h2
  rw [Nat.add_assoc, show j / 3 * 3 + j % 3 = j from by omega] at h3
  exact h3
end Go.Proofs.Ytgnlkcdpklgikaa
