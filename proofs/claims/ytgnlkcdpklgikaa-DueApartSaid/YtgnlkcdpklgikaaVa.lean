/- Turns in plain Lean: which lists may be, which are picked. No program is in sight. -/
import Derived.WalkKit
set_option linter.unusedVariables false
set_option linter.unusedSimpArgs false
namespace Go.Proofs.Ytgnlkcdpklgikaa
namespace Du
/-- A due: the tenant, the subscription, the time. -/
structure Due where
  t : Nat
  s : Nat
  a : Int
theorem Due.ext' {p q : Due} (h1 : p.t = q.t) (h2 : p.s = q.s) (h3 : p.a = q.a) : p = q := by
  cases p; cases q; simp at h1 h2 h3; simp [h1, h2, h3]
instance : DecidableEq Due := fun p q =>
  if h : p.t = q.t ∧ p.s = q.s ∧ p.a = q.a then isTrue (Due.ext' h.1 h.2.1 h.2.2) else isFalse (fun e => h (by subst e; exact ⟨rfl, rfl, rfl⟩))
instance : Inhabited Due := ⟨⟨0, 0, 0⟩⟩
def time (a : Int) : Prop := 0 ≤ a ∧ a ≤ 1099511627776
instance (a : Int) : Decidable (time a) := inferInstanceAs (Decidable (_ ∧ _))
def may (d : Due) : Prop := d.t ≠ 0 ∧ d.s ≠ 0 ∧ time d.a
instance (d : Due) : Decidable (may d) := inferInstanceAs (Decidable (_ ∧ _))
def ahead (p q : Due) : Prop := p.t < q.t ∨ (p.t = q.t ∧ p.s < q.s)
instance (p q : Due) : Decidable (ahead p q) := inferInstanceAs (Decidable (_ ∨ _))
theorem ahead.trans {p q r : Due} (h : ahead p q) (k : ahead q r) : ahead p r := by
  unfold ahead at *
  omega
theorem ahead.irrefl (p : Due) : ¬ ahead p p := by unfold ahead; omega
/-- How long the run of one tenant is that ends ahead of k. -/
def runs (l : List Due) : Nat → Nat
  | 0 => 0
  | k + 1 => if 0 < k ∧ (l[k - 1]?).map Due.t = (l[k]?).map Due.t then runs l k + 1 else 1
/-- The first k may be. -/
def good (l : List Due) (k : Nat) : Prop := ∀ j, j < k → (h : j < l.length) → may l[j] ∧ (0 < j → ahead (l[j - 1]'(by omega)) l[j])
def slim (l : List Due) (k : Nat) : Prop := ∀ j, j ≤ k → runs l j ≤ 64
def May (l : List Due) : Prop := good l l.length ∧ slim l l.length ∧ l.length ≤ 4096
theorem good_zero (l : List Due) : good l 0 := fun j hj => absurd hj (Nat.not_lt_zero j)
theorem good_succ {l : List Due} {k : Nat} (h : good l k) (hk : k < l.length) (h1 : may l[k]) (h2 : 0 < k → ahead (l[k - 1]'(by omega)) l[k]) : good l (k + 1) := fun j hj hl => by
  rcases Nat.lt_or_ge j k with h3 | h3
  · exact h j h3 hl
  · obtain rfl : j = k := by omega
    exact ⟨h1, h2⟩
theorem good.bad1 {l : List Due} {k : Nat} (hk : k < l.length) (h1 : ¬ may l[k]) : ¬ good l l.length := fun h => h1 (h k hk hk).1
theorem good.bad2 {l : List Due} {k : Nat} (hk : k < l.length) (h0 : 0 < k) (h1 : ¬ ahead (l[k - 1]'(by omega)) l[k]) : ¬ good l l.length := fun h => h1 ((h k hk hk).2 h0)
theorem slim_zero (l : List Due) : slim l 0 := fun j hj => by
  obtain rfl : j = 0 := by omega
  exact Nat.zero_le _
theorem slim_succ {l : List Due} {k : Nat} (h : slim l k) (h1 : runs l (k + 1) ≤ 64) : slim l (k + 1) := fun j hj => by
  rcases Nat.lt_or_ge j (k + 1) with h3 | h3
  · exact h j (by omega)
  · obtain rfl : j = k + 1 := by omega
    exact h1
theorem runs_first {l : List Due} : runs l 1 = 1 := by simp [runs]
theorem runs_same {l : List Due} {k : Nat} (hk : k < l.length) (h0 : 0 < k) (h : (l[k - 1]'(by omega)).t = l[k].t) : runs l (k + 1) = runs l k + 1 := by
  rw [runs, if_pos ⟨h0, by rw [List.getElem?_eq_getElem (by omega), List.getElem?_eq_getElem hk]; simp [h]⟩]
theorem runs_new {l : List Due} {k : Nat} (hk : k < l.length) (h : k = 0 ∨ ¬ (l[k - 1]'(by omega)).t = l[k].t) : runs l (k + 1) = 1 := by
  rw [runs, if_neg]
  rintro ⟨h0, h1⟩
  rw [List.getElem?_eq_getElem (by omega), List.getElem?_eq_getElem hk] at h1
  simp at h1
  rcases h with rfl | h
  · omega
  · exact h h1
theorem good.pair {l : List Due} (h : good l l.length) : l.Pairwise ahead := by
  rw [List.pairwise_iff_getElem]
  intro i j hi hj hij
  obtain ⟨d, rfl⟩ : ∃ d, j = i + 1 + d := ⟨j - (i + 1), by omega⟩
  induction d with
  | zero => exact (h (i + 1) hj hj).2 (by omega)
  | succ d ih =>
    have h1 := (h (i + 1 + (d + 1)) hj hj).2 (by omega)
    exact (ih (by omega) (by omega)).trans h1

/-! ### Who is picked -/
/-- The order in which turns are taken. -/
def lt (p q : Due) : Prop := p.t < q.t ∨ (p.t = q.t ∧ (p.a < q.a ∨ (p.a = q.a ∧ p.s < q.s)))
instance (p q : Due) : Decidable (lt p q) := inferInstanceAs (Decidable (_ ∨ _))
/-- The first ones of each tenant: n have been seen of the tenant p. -/
def firsts (k : Nat) : Option Nat → Nat → List Due → List Due
  | _, _, [] => []
  | p, n, d :: r => if (if p = some d.t then n else 0) + 1 ≤ k then d :: firsts k (some d.t) ((if p = some d.t then n else 0) + 1) r else firsts k (some d.t) ((if p = some d.t then n else 0) + 1) r
/-- Where the earliest stands: the place, its time, over the rest from place j on. -/
def least : List Due → Nat → Nat → Int → Nat
  | [], _, b, _ => b
  | d :: r, j, b, v => if d.a < v then least r (j + 1) j d.a else least r (j + 1) b v
def minIdx (l : List Due) : Nat := match l with | [] => 0 | d :: r => least r 1 0 d.a
/-- k times the earliest. -/
def sel : Nat → List Due → List Due
  | 0, _ => []
  | _ + 1, [] => []
  | k + 1, d :: r => (d :: r)[minIdx (d :: r)]! :: sel k ((d :: r).eraseIdx (minIdx (d :: r)))
/-- The reference's picks from a list on; `p`: the tenant that stands ahead. -/
def rest (p : Option Nat) (l : List Due) : List Due := l.dropWhile fun d => p == some d.t
theorem least_spec : ∀ (r : List Due) (l : List Due) (j b : Nat) (v : Int), (∀ i, i < r.length → l[j + i]? = r[i]?) → b < j → (h : b < l.length) → l[b].a = v →
    (∀ i, (hi : i < l.length) → i < j → v ≤ l[i].a ∧ (i < b → v < l[i].a)) → l.length = j + r.length →
    ∃ h2 : least r j b v < l.length, ∀ i, (hi : i < l.length) → l[least r j b v].a ≤ l[i].a ∧ (i < least r j b v → l[least r j b v].a < l[i].a) := by
  intro r
  induction r with
  | nil =>
    intro l j b v _ hb h hv hall hlen
    refine ⟨h, fun i hi => ?_⟩
    simp only [least]
    rw [hv]
    exact hall i hi (by simp at hlen; omega)
  | cons d r ih =>
    intro l j b v hr hb h hv hall hlen
    have hd : l[j]? = some d := hr 0 (by simp)
    have hjl : j < l.length := (List.getElem?_eq_some_iff.1 hd).1
    have hdj : l[j] = d := (List.getElem?_eq_some_iff.1 hd).2
    have hr2 : ∀ i, i < r.length → l[j + 1 + i]? = r[i]? := fun i hi => by
      have := hr (i + 1) (by simpa using hi)
      rw [List.getElem?_cons_succ] at this
      rw [← this]
      congr 1
      omega
    have hlen2 : l.length = j + 1 + r.length := by simp at hlen; omega
    unfold least
    split
    · rename_i hlt
      refine ih l (j + 1) j d.a hr2 (by omega) hjl (by rw [hdj]) (fun i hi hij => ?_) hlen2
      rcases Nat.lt_or_ge i j with h3 | h3
      · have := (hall i hi h3).1
        exact ⟨by omega, fun _ => by omega⟩
      · obtain rfl : i = j := by omega
        rw [hdj]
        exact ⟨Int.le_refl _, fun h => absurd h (Nat.lt_irrefl _)⟩
    · rename_i hlt
      refine ih l (j + 1) b v hr2 (by omega) h hv (fun i hi hij => ?_) hlen2
      rcases Nat.lt_or_ge i j with h3 | h3
      · exact hall i hi h3
      · obtain rfl : i = j := by omega
        rw [hdj]
        exact ⟨by omega, fun h => by omega⟩
theorem minIdx_spec {l : List Due} (h : l ≠ []) : ∃ h2 : minIdx l < l.length, ∀ i, (hi : i < l.length) → l[minIdx l].a ≤ l[i].a ∧ (i < minIdx l → l[minIdx l].a < l[i].a) := by
  cases l with
  | nil => exact absurd rfl h
  | cons d r =>
    refine least_spec r (d :: r) 1 0 d.a (fun i hi => ?_) (by omega) (by simp) rfl (fun i hi hij => ?_) (by simp; omega)
    · rw [Nat.add_comm, List.getElem?_cons_succ]
    · obtain rfl : i = 0 := by omega
      exact ⟨Int.le_refl _, fun h => absurd h (Nat.lt_irrefl _)⟩
/-- A strictly ordered list is the only one of its kind. -/
theorem lt_irrefl (p : Due) : ¬ lt p p := by unfold lt; omega
theorem lt_tri (p q : Due) : lt p q ∨ p = q ∨ lt q p := by
  by_cases h : p = q
  · exact .inr (.inl h)
  · have : p.t ≠ q.t ∨ p.a ≠ q.a ∨ p.s ≠ q.s := by
      by_cases h1 : p.t = q.t
      · by_cases h2 : p.a = q.a
        · by_cases h3 : p.s = q.s
          · exact absurd (Due.ext' h1 h3 h2) h
          · exact .inr (.inr h3)
        · exact .inr (.inl h2)
      · exact .inl h1
    unfold lt
    omega
theorem lt_asymm {p q : Due} (h : lt p q) : ¬ lt q p := by unfold lt at *; omega
theorem lt_trans {p q r : Due} (h : lt p q) (k : lt q r) : lt p r := by unfold lt at *; omega
/-- The least one stands first. -/
theorem head_least {x : Due} {l m : List Due} (h : (x :: l).Pairwise lt) {y : Due} (hp : (x :: l).Perm m) (hy : y ∈ m) (hl : ∀ z ∈ m, ¬ lt z y) : x = y := by
  have hx : x ∈ m := hp.mem_iff.1 (by simp)
  have h1 := hl x hx
  have hy2 : y ∈ x :: l := hp.mem_iff.2 hy
  rcases List.mem_cons.1 hy2 with h2 | h2
  · exact h2.symm
  · exact absurd ((List.pairwise_cons.1 h).1 y h2) h1
theorem perm_erase {l : List Due} {i : Nat} (h : i < l.length) : l.Perm (l[i] :: l.eraseIdx i) := by
  induction l generalizing i with
  | nil => simp at h
  | cons d r ih =>
    cases i with
    | zero => exact List.Perm.refl _
    | succ i =>
      simp only [List.getElem_cons_succ, List.eraseIdx_cons_succ]
      exact ((ih (by simpa using h)).cons d).trans (List.Perm.swap _ _ _)
/-- Sorted, of one tenant: the first k are what the reference takes. -/
theorem sel_sorted : ∀ (k : Nat) (m srt : List Due), m.Pairwise ahead → (∀ p ∈ m, ∀ q ∈ m, p.t = q.t) → srt.Perm m → srt.Pairwise lt → sel k m = srt.take k := by
  intro k
  induction k with
  | zero => intro m srt _ _ _ _; simp [sel]
  | succ k ih =>
    intro m srt hm ht hp hs
    cases m with
    | nil =>
      have : srt = [] := List.Perm.eq_nil hp
      subst this
      rfl
    | cons d r =>
      cases srt with
      | nil => exact absurd hp.symm.eq_nil (by simp)
      | cons x srt =>
        obtain ⟨hi, hmin⟩ := minIdx_spec (l := d :: r) (by simp)
        obtain ⟨i, hie⟩ : ∃ i, i = minIdx (d :: r) := ⟨_, rfl⟩
        rw [sel, ← hie]
        simp only [← hie] at hi hmin
        rw [getElem!_pos (d :: r) i hi, List.take_succ_cons]
        have hx : x = (d :: r)[i] := by
          refine head_least hs hp (List.getElem_mem hi) fun z hz hlt => ?_
          obtain ⟨j, hj, rfl⟩ := List.getElem_of_mem hz
          have h1 := hmin j hj
          have h2 := ht _ (List.getElem_mem hj) _ (List.getElem_mem hi)
          unfold lt at hlt
          rcases Nat.lt_trichotomy j i with h3 | h3 | h3
          · have := h1.2 h3; omega
          · subst h3; omega
          · have h4 : ahead (d :: r)[i] (d :: r)[j] := List.pairwise_iff_getElem.1 hm i j hi hj h3
            unfold ahead at h4
            omega
        rw [← hx]
        congr 1
        have hp2 : srt.Perm ((d :: r).eraseIdx i) := by
          have h1 := hp.trans (perm_erase hi)
          rw [← hx] at h1
          exact h1.cons_inv
        refine ih _ _ (hm.sublist (List.eraseIdx_sublist _ _)) (fun p hp q hq => ht p ((List.eraseIdx_sublist _ _).subset hp) q ((List.eraseIdx_sublist _ _).subset hq)) hp2 (List.pairwise_cons.1 hs).2
end Du
end Go.Proofs.Ytgnlkcdpklgikaa
