/- Turns: what Done leaves may be again; the freshness that Pick and Done keep. -/
import Derived.Test.YtgnlkcdpklgikaaVw
import Derived.Test.YtgnlkcdpklgikaaVr
set_option linter.unusedVariables false
set_option linter.unusedSimpArgs false
namespace Go.Proofs.Ytgnlkcdpklgikaa
namespace Du
theorem uniq {l : List Due} (h : l.Pairwise ahead) {p q : Due} (hp : p ∈ l) (hq : q ∈ l) (ht : p.t = q.t) (hs : p.s = q.s) : p = q := by
  obtain ⟨i, hi, rfl⟩ := List.getElem_of_mem hp
  obtain ⟨j, hj, rfl⟩ := List.getElem_of_mem hq
  rcases Nat.lt_trichotomy i j with h1 | h1 | h1
  · have := List.pairwise_iff_getElem.1 h i j hi hj h1
    unfold ahead at this
    omega
  · subst h1; rfl
  · have := List.pairwise_iff_getElem.1 h j i hj hi h1
    unfold ahead at this
    omega
theorem hit_mem {l P : List Due} (h : l.Pairwise ahead) (hP : ∀ p ∈ P, p ∈ l) {y : Due} (hy : y ∈ l) : hit P y = decide (y ∈ P) := by
  unfold hit
  rw [Bool.eq_iff_iff, List.any_eq_true, decide_eq_true_eq]
  constructor
  · rintro ⟨p, hp, h1⟩
    unfold like at h1
    have h2 := of_decide_eq_true h1
    rw [← uniq h (hP p hp) hy h2.1 h2.2]
    exact hp
  · exact fun h1 => ⟨y, h1, by unfold like; exact decide_eq_true ⟨rfl, rfl⟩⟩
theorem fwd_t (now gap : Int) (ps : List Due) (y : Due) : (fwd now gap ps y).t = y.t := by unfold fwd; split <;> rfl
theorem fwd_s (now gap : Int) (ps : List Due) (y : Due) : (fwd now gap ps y).s = y.s := by unfold fwd; split <;> rfl
theorem runs_map (f : Due → Due) (hf : ∀ d, (f d).t = d.t) (l : List Due) : ∀ k, runs (l.map f) k = runs l k := by
  have hm : ∀ k, ((l.map f)[k]?).map Due.t = (l[k]?).map Due.t := fun k => by
    rw [List.getElem?_map]
    cases l[k]? with
    | none => rfl
    | some d => simp [hf]
  intro k
  induction k with
  | zero => rfl
  | succ k ih => rw [runs, runs, hm, hm, ih]
theorem done_may {now gap : Int} {ps l : List Due} (h : May l) (hn : time now) (hg : 1 ≤ gap) : May (done now gap ps l) := by
  obtain ⟨h1, h2, h3⟩ := h
  have hlen : (done now gap ps l).length = l.length := by simp [done]
  refine ⟨fun j hj hl => ?_, fun j hj => ?_, by rw [hlen]; exact h3⟩
  · have hjl : j < l.length := by rw [hlen] at hl; exact hl
    obtain ⟨m1, m2⟩ := h1 j hjl hjl
    have e : (done now gap ps l)[j] = fwd now gap ps l[j] := by simp [done]
    refine ⟨?_, fun h0 => ?_⟩
    · rw [e]
      refine ⟨by rw [fwd_t]; exact m1.1, by rw [fwd_s]; exact m1.2.1, ?_⟩
      unfold fwd
      split
      · unfold time at hn ⊢
        simp only
        omega
      · exact m1.2.2
    · have e2 : (done now gap ps l)[j - 1]'(by omega) = fwd now gap ps (l[j - 1]'(by omega)) := by simp [done]
      rw [e, e2]
      have := m2 h0
      unfold ahead at this ⊢
      rw [fwd_t, fwd_t, fwd_s, fwd_s]
      exact this
  · unfold done
    rw [runs_map _ (fwd_t now gap ps)]
    exact h2 j (by rw [hlen] at hj; exact hj)
/-- Of each tenant, no more are j turns late than may be. -/
def Inv (now : Int) (k : Nat) (l : List Due) : Prop := ∀ (T j : Nat), cntLe (now - j) (of T l) ≤ (of T l).length - j * k
theorem inv_start {k : Nat} {l : List Due} (h : ∀ d ∈ l, 0 ≤ d.a) : Inv 0 k l := by
  intro T j
  cases j with
  | zero => rw [Nat.zero_mul, Nat.sub_zero]; exact List.countP_le_length
  | succ j =>
    have : cntLe (0 - ((j + 1 : Nat) : Int)) (of T l) = 0 := by
      unfold cntLe
      rw [List.countP_eq_zero]
      intro d hd
      have := h d (List.mem_filter.1 hd).1
      simp only [decide_eq_true_eq]
      omega
    omega
theorem inv_step {now gap : Int} {k : Nat} {l : List Due} (hl : l.Pairwise ahead) (hg : 1 ≤ gap) (hmx : now + gap ≤ 1099511627776) (h : Inv now k l) :
    Inv (now + 1) k (done now gap (refP k (fun y => !decide (now < y.a)) none l) l) := by
  intro T j
  obtain ⟨P, hP⟩ : ∃ P, P = refP k (fun y => !decide (now < y.a)) none l := ⟨_, rfl⟩
  rw [← hP]
  have hof : of T (done now gap P l) = (of T l).map (fwd now gap P) := by
    unfold of done
    rw [List.filter_map]
    congr 2
    funext d
    simp [fwd_t]
  rw [hof, List.length_map]
  cases j with
  | zero =>
    rw [Nat.zero_mul, Nat.sub_zero]
    refine Nat.le_trans List.countP_le_length (by rw [List.length_map]; exact Nat.le_refl _)
  | succ i =>
    have e1 : cntLe (now + 1 - ((i + 1 : Nat) : Int)) ((of T l).map (fwd now gap P)) = (of T l).countP (fun d => decide (d ∉ P) && decide (d.a ≤ now - i)) := by
      unfold cntLe
      rw [List.countP_map]
      refine List.countP_congr fun d hd => ?_
      have hdl := (List.mem_filter.1 hd).1
      have hh := hit_mem (P := P) hl (fun p hp => by rw [hP] at hp; exact refP_mem k _ hl hp) hdl
      simp only [Function.comp, decide_eq_true_eq, Bool.and_eq_true]
      unfold fwd
      rw [hh]
      by_cases hd2 : d ∈ P
      · simp only [hd2, decide_true, if_true, not_true_eq_false, false_and, iff_false]
        omega
      · simp only [hd2, decide_false, Bool.false_eq_true, if_false, not_false_eq_true, true_and]
        omega
    rw [e1, hP, left_over k now (now - i) (by omega) T hl]
    have h2 := h T i
    rw [Nat.add_mul, Nat.one_mul]
    omega
/-- THE THEOREM OF FRESHNESS. -/
theorem fresh {now : Int} {k : Nat} {l : List Due} (hk : 1 ≤ k) (h : Inv now k l) {d : Due} (hd : d ∈ l) :
    ¬ d.a < now - (((((of d.t l).length + k - 1) / k - 1 : Nat)) : Int) := by
  intro hlt
  have hmem : d ∈ of d.t l := List.mem_filter.2 ⟨hd, by simp⟩
  have hK : 1 ≤ (of d.t l).length := List.length_pos_of_mem hmem
  obtain ⟨K, hKe⟩ : ∃ K, K = (of d.t l).length := ⟨_, rfl⟩
  obtain ⟨q, hq⟩ : ∃ q, q = (K + k - 1) / k := ⟨_, rfl⟩
  rw [← hKe] at hlt hK
  rw [← hq] at hlt
  have hq1 : 1 ≤ q := by rw [hq]; exact (Nat.le_div_iff_mul_le (by omega)).2 (by omega)
  have hqk : K ≤ q * k := by
    have h1 := Nat.div_add_mod (K + k - 1) k
    have h2 := Nat.mod_lt (K + k - 1) (show 0 < k by omega)
    rw [← hq] at h1
    have h3 : k * q = q * k := Nat.mul_comm _ _
    omega
  have h1 := h d.t q
  rw [← hKe] at h1
  have h2 : 0 < cntLe (now - q) (of d.t l) := by
    unfold cntLe
    rw [List.countP_pos_iff]
    refine ⟨d, hmem, ?_⟩
    simp only [decide_eq_true_eq]
    omega
  omega
end Du
end Go.Proofs.Ytgnlkcdpklgikaa
