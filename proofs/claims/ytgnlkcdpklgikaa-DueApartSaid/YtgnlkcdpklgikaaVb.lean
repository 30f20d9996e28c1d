/- Turns in plain Lean: the first of each tenant in order are what the reference takes. No program is in sight. -/
import Derived.Test.YtgnlkcdpklgikaaVa
set_option linter.unusedVariables false
set_option linter.unusedSimpArgs false
namespace Go.Proofs.Ytgnlkcdpklgikaa
namespace Du
/-- What the reference takes of a list; `p`: the tenant ahead. -/
def refP (k : Nat) (ok : Due → Bool) : Option Nat → List Due → List Due
  | _, [] => []
  | p, d :: r => if p = some d.t then refP k ok p r else sel k (((d :: r).takeWhile fun x => x.t == d.t).filter ok) ++ refP k ok (some d.t) r
theorem refP_drop (k : Nat) (ok : Due → Bool) (T : Nat) (l : List Due) : refP k ok (some T) l = refP k ok none (l.dropWhile fun x => x.t == T) := by
  induction l with
  | nil => rfl
  | cons d r ih =>
    by_cases h : d.t = T
    · rw [List.dropWhile_cons_of_pos (by simp [h]), ← ih, refP, if_pos (by rw [h])]
    · rw [List.dropWhile_cons_of_neg (by simp [h]), refP, refP, if_neg (by simp; omega), if_neg (by simp)]
theorem mono_split (T : Nat) (l : List Due) (hs : l.Pairwise fun p q => p.t ≤ q.t) (ht : ∀ p ∈ l, T ≤ p.t) : (l.takeWhile fun x => x.t == T) = l.filter (fun x => x.t == T) ∧ (l.dropWhile fun x => x.t == T) = l.filter (fun x => !(x.t == T)) := by
  induction l with
  | nil => exact ⟨rfl, rfl⟩
  | cons d r ih =>
    obtain ⟨h1, h2⟩ := List.pairwise_cons.1 hs
    have ih := ih h2 fun p hp => ht p (by simp [hp])
    by_cases h : d.t = T
    · rw [List.takeWhile_cons_of_pos (by simp [h]), List.dropWhile_cons_of_pos (by simp [h]), List.filter_cons_of_pos (by simp [h]), List.filter_cons_of_neg (by simp [h])]
      exact ⟨by rw [ih.1], ih.2⟩
    · have hd := ht d (by simp)
      have hall : ∀ p ∈ r, ¬ p.t = T := fun p hp => by have := h1 p hp; omega
      rw [List.takeWhile_cons_of_neg (by simp [h]), List.dropWhile_cons_of_neg (by simp [h]), List.filter_cons_of_neg (by simp [h]), List.filter_cons_of_pos (by simp [h])]
      refine ⟨?_, ?_⟩
      · symm
        rw [List.filter_eq_nil_iff]
        intro p hp
        simp [hall p hp]
      · congr 1
        symm
        rw [List.filter_eq_self]
        intro p hp
        simp [hall p hp]
theorem firsts_same {k T n : Nat} {d : Due} {r : List Due} (h : d.t = T) : firsts k (some T) n (d :: r) = if n + 1 ≤ k then d :: firsts k (some T) (n + 1) r else firsts k (some T) (n + 1) r := by
  subst h
  simp [firsts]
theorem firsts_other {k n : Nat} {p : Option Nat} {d : Due} {r : List Due} (h : p ≠ some d.t) : firsts k p n (d :: r) = if 0 + 1 ≤ k then d :: firsts k (some d.t) (0 + 1) r else firsts k (some d.t) (0 + 1) r := by
  rw [firsts, if_neg h]
theorem firsts_run (k T : Nat) (B : List Due) (hB : ∀ p ∈ B, ¬ p.t = T) : ∀ (A : List Due) (n : Nat), (∀ p ∈ A, p.t = T) → firsts k (some T) n (A ++ B) = A.take (k - n) ++ firsts k none 0 B := by
  intro A
  induction A with
  | nil =>
    intro n _
    rw [List.take_nil, List.nil_append, List.nil_append]
    cases B with
    | nil => rfl
    | cons b B =>
      have h := hB b (by simp)
      rw [firsts_other (by simp; omega), firsts_other (by simp)]
  | cons a A ih =>
    intro n hA
    have ha := hA a (by simp)
    have hA2 : ∀ p ∈ A, p.t = T := fun p hp => hA p (by simp [hp])
    rw [List.cons_append, firsts_same ha]
    split
    · rename_i h
      obtain ⟨m, hm⟩ : ∃ m, k - n = m + 1 := ⟨k - n - 1, by omega⟩
      rw [ih (n + 1) hA2, hm, List.take_succ_cons, show k - (n + 1) = m from by omega]
      rfl
    · rw [ih (n + 1) hA2, show k - (n + 1) = 0 from by omega, show k - n = 0 from by omega]
      simp
theorem firsts_none (k T : Nat) (A B : List Due) (hA : ∀ p ∈ A, p.t = T) (hB : ∀ p ∈ B, ¬ p.t = T) : firsts k none 0 (A ++ B) = A.take k ++ firsts k none 0 B := by
  cases A with
  | nil => simp
  | cons a A =>
    have ha := hA a (by simp)
    have hA2 : ∀ p ∈ A, p.t = T := fun p hp => hA p (by simp [hp])
    rw [List.cons_append, firsts_other (by simp), ha]
    split
    · rename_i h
      obtain ⟨m, hm⟩ : ∃ m, k = m + 1 := ⟨k - 1, by omega⟩
      rw [firsts_run k T B hB A (0 + 1) hA2, hm, List.take_succ_cons, show m + 1 - (0 + 1) = m from by omega]
      rfl
    · rw [firsts_run k T B hB A (0 + 1) hA2, show k - (0 + 1) = 0 from by omega, show k = 0 from by omega]
      simp
theorem ahead_mono {l : List Due} (h : l.Pairwise ahead) : l.Pairwise fun p q => p.t ≤ q.t := h.imp fun h => by unfold ahead at h; omega
theorem lt_mono {l : List Due} (h : l.Pairwise lt) : l.Pairwise fun p q => p.t ≤ q.t := h.imp fun h => by unfold lt at h; omega
/-- THE THEOREM OF PICKS. -/
theorem picks (k : Nat) (ok : Due → Bool) : ∀ (n : Nat) (l srt : List Due), l.length ≤ n → l.Pairwise ahead → srt.Perm (l.filter ok) → srt.Pairwise lt → firsts k none 0 srt = refP k ok none l := by
  intro n
  induction n with
  | zero =>
    intro l srt hn hl hp hs
    obtain rfl : l = [] := List.eq_nil_of_length_eq_zero (by omega)
    obtain rfl : srt = [] := hp.eq_nil
    rfl
  | succ n ih =>
    intro l srt hn hl hp hs
    cases l with
    | nil =>
      obtain rfl : srt = [] := hp.eq_nil
      rfl
    | cons d r =>
      have hge : ∀ p ∈ d :: r, d.t ≤ p.t := fun p hp => by
        rcases List.mem_cons.1 hp with rfl | h
        · exact Nat.le_refl _
        · have := (List.pairwise_cons.1 hl).1 p h
          unfold ahead at this
          omega
      have hges : ∀ p ∈ srt, d.t ≤ p.t := fun p h => hge p (List.mem_filter.1 (hp.mem_iff.1 h)).1
      obtain ⟨g1, g2⟩ := mono_split d.t (d :: r) (ahead_mono hl) hge
      obtain ⟨s1, s2⟩ := mono_split d.t srt (lt_mono hs) hges
      have hsplit : srt = srt.filter (fun x => x.t == d.t) ++ srt.filter (fun x => !(x.t == d.t)) := by
        rw [← s1, ← s2]
        exact List.takeWhile_append_dropWhile.symm
      have hr : refP k ok none (d :: r) = sel k (((d :: r).filter fun x => x.t == d.t).filter ok) ++ refP k ok none ((d :: r).filter fun x => !(x.t == d.t)) := by
        rw [refP, if_neg (by simp), g1, refP_drop, ← g2, List.dropWhile_cons_of_pos (by simp)]
      have hlen : ((d :: r).filter fun x => !(x.t == d.t)).length ≤ n := by
        rw [List.filter_cons_of_neg (by simp)]
        have := List.length_filter_le (fun x : Due => !(x.t == d.t)) r
        simp at hn
        omega
      have c1 : (srt.filter (fun x => x.t == d.t)).Perm (((d :: r).filter fun x => x.t == d.t).filter ok) := by
        have h := hp.filter (fun x => x.t == d.t)
        rwa [List.filter_filter, show (fun x : Due => ((x.t == d.t) && ok x)) = (fun x => (ok x && (x.t == d.t))) from funext fun x => Bool.and_comm _ _, ← List.filter_filter] at h
      have c2 : (srt.filter (fun x => !(x.t == d.t))).Perm (((d :: r).filter fun x => !(x.t == d.t)).filter ok) := by
        have h := hp.filter (fun x => !(x.t == d.t))
        rwa [List.filter_filter, show (fun x : Due => (!(x.t == d.t) && ok x)) = (fun x => (ok x && !(x.t == d.t))) from funext fun x => Bool.and_comm _ _, ← List.filter_filter] at h
      rw [hr]
      conv => lhs; rw [hsplit]
      rw [firsts_none k d.t _ _ (fun p hp => by simpa using (List.mem_filter.1 hp).2) (fun p hp => by simpa using (List.mem_filter.1 hp).2)]
      rw [ih _ _ hlen (hl.filter _) c2 (hs.filter _)]
      congr 1
      symm
      refine sel_sorted k _ _ ((hl.filter _).filter _) (fun p hp q hq => ?_) c1 (hs.filter _)
      have h1 := (List.mem_filter.1 (List.mem_filter.1 hp).1).2
      have h2 := (List.mem_filter.1 (List.mem_filter.1 hq).1).2
      simp at h1 h2
      rw [h1, h2]
end Du
end Go.Proofs.Ytgnlkcdpklgikaa
