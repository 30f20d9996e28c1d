/- Turns in plain Lean: one more is put in its place. No program is in sight. -/
import Derived.Test.YtgnlkcdpklgikaaVx
set_option linter.unusedVariables false
set_option linter.unusedSimpArgs false
namespace Go.Proofs.Ytgnlkcdpklgikaa
namespace Du
def putAt (i : Nat) (y : Due) (l : List Due) : List Due := l.take i ++ y :: l.drop i
theorem good_of {l : List Due} (h1 : ∀ d ∈ l, may d) (h2 : l.Pairwise ahead) : good l l.length := fun j hj hl =>
  ⟨h1 _ (List.getElem_mem hl), fun h0 => List.pairwise_iff_getElem.1 h2 (j - 1) j (by omega) hl (by omega)⟩
theorem put_pair {l : List Due} {y : Due} {i : Nat} (hl : l.Pairwise ahead) (ha : ∀ x ∈ l.take i, ahead x y) (hb : ∀ x ∈ l.drop i, ¬ ahead x y) (hn : ∀ h : i < l.length, ¬ (l[i].t = y.t ∧ l[i].s = y.s)) : (putAt i y l).Pairwise ahead := by
  have hy : ∀ x ∈ l.drop i, ahead y x := fun x hx => by
    obtain ⟨j, hj, rfl⟩ := List.getElem_of_mem hx
    have h1 := hb _ hx
    rw [List.length_drop] at hj
    rw [List.getElem_drop] at h1 ⊢
    have h0 := hb (l[i]'(by omega)) (by rw [show l.drop i = l[i]'(by omega) :: l.drop (i + 1) from List.drop_eq_getElem_cons (by omega)]; exact List.mem_cons_self)
    have hni := hn (by omega)
    have hyi : ahead y (l[i]'(by omega)) := by unfold ahead at h0 ⊢; omega
    cases j with
    | zero => simpa using hyi
    | succ j => exact hyi.trans (List.pairwise_iff_getElem.1 hl i (i + (j + 1)) (by omega) (by omega) (by omega))
  unfold putAt
  rw [List.pairwise_append]
  refine ⟨hl.sublist (List.take_sublist _ _), ?_, ?_⟩
  · rw [List.pairwise_cons]
    exact ⟨hy, hl.sublist (List.drop_sublist _ _)⟩
  · intro a hax b hbx
    rcases List.mem_cons.1 hbx with rfl | h
    · exact ha a hax
    · exact (ha a hax).trans (hy b h)
theorem put_of {l : List Due} {y : Due} {i T : Nat} (h : y.t ≠ T) : of T (putAt i y l) = of T l := by
  unfold of putAt
  rw [List.filter_append, List.filter_cons_of_neg (by simp [h]), ← List.filter_append, List.take_append_drop]
theorem put_may {l : List Due} {y : Due} {i : Nat} (h1 : ∀ d ∈ l, may d) (h2 : may y) : ∀ d ∈ putAt i y l, may d := by
  intro d hd
  unfold putAt at hd
  rcases List.mem_append.1 hd with h | h
  · exact h1 d (List.mem_of_mem_take h)
  · rcases List.mem_cons.1 h with rfl | h
    · exact h2
    · exact h1 d (List.mem_of_mem_drop h)
end Du
end Go.Proofs.Ytgnlkcdpklgikaa
