/- Turns in plain Lean: the theorem of freshness. No program is in sight. -/
import Derived.Test.YtgnlkcdpklgikaaVb
set_option linter.unusedVariables false
set_option linter.unusedSimpArgs false
namespace Go.Proofs.Ytgnlkcdpklgikaa
namespace Du
def cntLe (x : Int) (l : List Due) : Nat := l.countP fun d => decide (d.a ≤ x)
theorem sel_perm : ∀ (k : Nat) (m : List Due), ∃ r, (sel k m ++ r).Perm m := by
  intro k
  induction k with
  | zero => intro m; exact ⟨m, by simp [sel]⟩
  | succ k ih =>
    intro m
    cases m with
    | nil => exact ⟨[], by simp [sel]⟩
    | cons d r =>
      obtain ⟨hi, -⟩ := minIdx_spec (l := d :: r) (by simp)
      obtain ⟨q, hq⟩ := ih ((d :: r).eraseIdx (minIdx (d :: r)))
      refine ⟨q, ?_⟩
      rw [sel, getElem!_pos (d :: r) _ hi, List.cons_append]
      exact (hq.cons _).trans (perm_erase hi).symm
theorem sel_mem {k : Nat} {m : List Due} {x : Due} (h : x ∈ sel k m) : x ∈ m := by
  obtain ⟨r, hr⟩ := sel_perm k m
  exact hr.mem_iff.1 (List.mem_append_left _ h)
theorem sel_nodup {k : Nat} {m : List Due} (h : m.Nodup) : (sel k m).Nodup := by
  obtain ⟨r, hr⟩ := sel_perm k m
  exact (List.nodup_append.1 (hr.nodup_iff.2 h)).1
theorem sel_nil (k : Nat) : sel k [] = [] := by cases k <;> rfl
/-- Of those not later than x, as many are taken as may be. -/
theorem sel_cnt (x : Int) : ∀ (k : Nat) (m : List Due), cntLe x (sel k m) = min k (cntLe x m) := by
  intro k
  induction k with
  | zero => intro m; simp [sel, cntLe]
  | succ k ih =>
    intro m
    cases m with
    | nil => simp [sel, cntLe]
    | cons d r =>
      obtain ⟨hi, hmin⟩ := minIdx_spec (l := d :: r) (by simp)
      have hp := perm_erase hi
      have hc : cntLe x (d :: r) = cntLe x ((d :: r)[minIdx (d :: r)] :: (d :: r).eraseIdx (minIdx (d :: r))) := hp.countP_eq _
      have ih2 := ih ((d :: r).eraseIdx (minIdx (d :: r)))
      rw [sel, getElem!_pos (d :: r) _ hi, hc]
      unfold cntLe at ih2 ⊢
      rw [List.countP_cons, List.countP_cons, ih2]
      by_cases hx : ((d :: r)[minIdx (d :: r)]).a ≤ x
      · simp only [hx, decide_true, if_true]
        omega
      · have h0 : ((d :: r).eraseIdx (minIdx (d :: r))).countP (fun d => decide (d.a ≤ x)) = 0 := by
          rw [List.countP_eq_zero]
          intro y hy
          obtain ⟨j, hj, rfl⟩ := List.getElem_of_mem ((List.eraseIdx_sublist _ _).subset hy)
          have := (hmin j hj).1
          simp only [decide_eq_true_eq]
          omega
        simp [hx, h0]
/-- One tenant's share. -/
def of (T : Nat) (l : List Due) : List Due := l.filter fun d => d.t == T
theorem of_of {T U : Nat} (h : T ≠ U) (l : List Due) : of T (l.filter fun d => !(d.t == U)) = of T l := by
  unfold of
  rw [List.filter_filter]
  congr 1
  funext d
  by_cases h1 : d.t = T
  · have : d.t ≠ U := by omega
    simp [h1, h]
  · simp [h1]
theorem refP_step (k : Nat) (ok : Due → Bool) (d : Due) (r : List Due) (hl : (d :: r).Pairwise ahead) :
    refP k ok none (d :: r) = sel k ((of d.t (d :: r)).filter ok) ++ refP k ok none ((d :: r).filter fun x => !(x.t == d.t)) := by
  have hge : ∀ p ∈ d :: r, d.t ≤ p.t := fun p hp => by
    rcases List.mem_cons.1 hp with rfl | h
    · exact Nat.le_refl _
    · have := (List.pairwise_cons.1 hl).1 p h
      unfold ahead at this
      omega
  obtain ⟨g1, g2⟩ := mono_split d.t (d :: r) (ahead_mono hl) hge
  rw [refP, if_neg (by simp), g1, refP_drop, ← g2, List.dropWhile_cons_of_pos (by simp)]
  rfl
/-- What the reference takes of one tenant. -/
theorem refP_of (k : Nat) (ok : Due → Bool) (T : Nat) : ∀ (n : Nat) (l : List Due), l.length ≤ n → l.Pairwise ahead → of T (refP k ok none l) = sel k ((of T l).filter ok) := by
  intro n
  induction n with
  | zero =>
    intro l hn _
    obtain rfl : l = [] := List.eq_nil_of_length_eq_zero (by omega)
    simp [refP, of, sel_nil]
  | succ n ih =>
    intro l hn hl
    cases l with
    | nil => simp [refP, of, sel_nil]
    | cons d r =>
      have hlen : ((d :: r).filter fun x => !(x.t == d.t)).length ≤ n := by
        rw [List.filter_cons_of_neg (by simp)]
        have := List.length_filter_le (fun x : Due => !(x.t == d.t)) r
        simp at hn
        omega
      have ih2 := ih _ hlen (hl.filter _)
      have hsub : ∀ x ∈ sel k ((of d.t (d :: r)).filter ok), x.t = d.t := fun x hx => by
        have h1 := (List.mem_filter.1 (sel_mem hx)).1
        have h2 := (List.mem_filter.1 h1).2
        simpa using h2
      rw [refP_step k ok d r hl]
      unfold of at ih2 ⊢
      rw [List.filter_append, ih2]
      by_cases hT : T = d.t
      · subst hT
        have e1 : ((d :: r).filter fun x => !(x.t == d.t)).filter (fun x => x.t == d.t) = [] := by
          rw [List.filter_filter, List.filter_eq_nil_iff]
          intro x _
          by_cases h : x.t = d.t <;> simp [h]
        rw [e1, List.filter_nil, sel_nil, List.append_nil, List.filter_eq_self]
        intro x hx
        simp [hsub x hx]
      · have e1 := of_of hT (d :: r)
        unfold of at e1
        rw [e1]
        have e2 : (sel k (((d :: r).filter fun x => x.t == d.t).filter ok)).filter (fun x => x.t == T) = [] := by
          rw [List.filter_eq_nil_iff]
          intro x hx
          have := hsub x hx
          simp
          omega
        rw [e2, List.nil_append]
theorem refP_mem (k : Nat) (ok : Due → Bool) {l : List Due} (hl : l.Pairwise ahead) {x : Due} (h : x ∈ refP k ok none l) : x ∈ l := by
  have h1 : x ∈ of x.t (refP k ok none l) := List.mem_filter.2 ⟨h, by simp⟩
  rw [refP_of k ok x.t l.length l (Nat.le_refl _) hl] at h1
  exact (List.mem_filter.1 (List.mem_filter.1 (sel_mem h1)).1).1
theorem nodup_of {l : List Due} (h : l.Pairwise ahead) : l.Nodup := by
  show l.Pairwise (· ≠ ·)
  refine h.imp fun {a b} h he => ?_
  subst he
  exact ahead.irrefl a h
/-- A tenant's share that is late at x, and is not taken. -/
theorem left_over (k : Nat) (now x : Int) (hx : x ≤ now) (T : Nat) {l : List Due} (hl : l.Pairwise ahead) :
    (of T l).countP (fun d => decide (d ∉ refP k (fun y => !decide (now < y.a)) none l) && decide (d.a ≤ x)) = cntLe x (of T l) - k := by
  obtain ⟨ok, hok⟩ : ∃ ok : Due → Bool, ok = fun y => !decide (now < y.a) := ⟨_, rfl⟩
  rw [← hok]
  obtain ⟨P, hP⟩ : ∃ P, P = refP k ok none l := ⟨_, rfl⟩
  rw [← hP]
  have hof := refP_of k ok T l.length l (Nat.le_refl _) hl
  rw [← hP] at hof
  have hnd := nodup_of hl
  have hsplit : cntLe x (of T l) = (of T l).countP (fun d => decide (d ∈ P) && decide (d.a ≤ x)) + (of T l).countP (fun d => decide (d ∉ P) && decide (d.a ≤ x)) := by
    unfold cntLe
    induction (of T l) with
    | nil => rfl
    | cons d r ih =>
      rw [List.countP_cons, List.countP_cons, List.countP_cons, ih]
      by_cases h1 : d ∈ P <;> by_cases h2 : d.a ≤ x <;> simp [h1, h2] <;> omega
  have hperm : ((of T l).filter fun d => decide (d ∈ P)).Perm (of T P) := by
    have n1 : ((of T l).filter fun d => decide (d ∈ P)).Nodup := (hnd.filter _).filter _
    have n2 : (of T P).Nodup := by
      rw [hof]
      exact sel_nodup ((hnd.filter _).filter _)
    rw [List.perm_ext_iff_of_nodup n1 n2]
    intro d
    simp only [of, List.mem_filter, decide_eq_true_eq]
    refine ⟨fun h => ⟨h.2, h.1.2⟩, fun h => ⟨⟨?_, h.2⟩, h.1⟩⟩
    rw [hP] at h
    exact refP_mem k ok hl h.1
  have hin : (of T l).countP (fun d => decide (d ∈ P) && decide (d.a ≤ x)) = min k (cntLe x (of T l)) := by
    have e1 : (of T l).countP (fun d => decide (d ∈ P) && decide (d.a ≤ x)) = cntLe x ((of T l).filter fun d => decide (d ∈ P)) := by
      unfold cntLe
      rw [List.countP_filter]
      congr 1
      funext d
      exact Bool.and_comm _ _
    have e2 : cntLe x ((of T l).filter fun d => decide (d ∈ P)) = cntLe x (of T P) := hperm.countP_eq _
    rw [e1, e2, hof, sel_cnt]
    congr 1
    unfold cntLe
    rw [List.countP_filter]
    congr 1
    funext d
    rw [hok]
    by_cases h : d.a ≤ x
    · have : ¬ now < d.a := by omega
      simp [h, this]
    · simp [h]
  omega
end Du
end Go.Proofs.Ytgnlkcdpklgikaa
