/- How parts are compared, in plain Lean: by the reference's less, by the library's words. No program is in sight. -/
import Derived.Test.YtbmiifglpjeegaaDoorJv
import Derived.Lib.Bytealg
set_option linter.unusedVariables false
set_option linter.unusedSimpArgs false
namespace Go.Proofs.YtbmiifglpjeegaaDoor
namespace Tu
/-- The reference's less. -/
def less (p q : Part) : Bool := if p.isText = q.isText then decide (p.num < q.num) || tlt p.text q.text else q.isText
theorem less_cases {p q : Part} (hp : ok p) (hq : ok q) : (pcmp p q = -1 ∧ less p q = true) ∨ (pcmp p q = 1 ∧ less p q = false ∧ less q p = true) ∨ (pcmp p q = 0 ∧ less p q = false ∧ less q p = false) := by
  unfold pcmp less
  cases h1 : p.isText <;> cases h2 : q.isText
  · rw [ok_num hp h1, ok_num hq h2]
    simp only [if_true, tlt_irrefl, Bool.or_false, Bool.false_eq_true, if_false]
    rcases Nat.lt_trichotomy p.num q.num with h | h | h
    · exact .inl (by simp [h])
    · exact .inr (.inr (by simp [h]))
    · have h3 : ¬ p.num < q.num := by omega
      exact .inr (.inl (by simp [h, h3]))
  · exact .inl (by simp)
  · exact .inr (.inl (by simp))
  · rw [ok_text hp h1, ok_text hq h2]
    simp only [if_true, Nat.lt_irrefl, if_false, decide_false, Bool.false_or]
    rcases tlt_tri p.text q.text with h | h | h
    · exact .inl (by simp [h])
    · exact .inr (.inr (by simp [h, tlt_irrefl]))
    · exact .inr (.inl (by simp [h, tlt_asymm h]))
/-- Numbers compared. -/
def ncmp (n m : Nat) : Int := if n < m then -1 else if m < n then 1 else 0
theorem ncmp_cases (n m : Nat) : (n < m ∧ ncmp n m = -1) ∨ (n = m ∧ ncmp n m = 0) ∨ (m < n ∧ ncmp n m = 1) := by
  unfold ncmp
  rcases Nat.lt_trichotomy n m with h | h | h
  · exact .inl ⟨h, by simp [h]⟩
  · exact .inr (.inl ⟨h, by simp [h]⟩)
  · exact .inr (.inr ⟨h, by have : ¬ n < m := by omega
                            simp [h, this]⟩)
theorem scmp (x y : List UInt8) : Lib.compareBytes x y = if tlt x y then -1 else if tlt y x then 1 else 0 := by
  induction x generalizing y with
  | nil => cases y <;> rfl
  | cons a x ih =>
    cases y with
    | nil => rfl
    | cons b y =>
      simp only [Lib.compareBytes, tlt, ih]
      rcases Nat.lt_trichotomy a.toNat b.toNat with h | h | h
      · have h1 : a < b := UInt8.lt_iff_toNat_lt.2 h
        simp [h1, h]
      · have hab : a = b := UInt8.toNat_inj.1 h
        subst hab
        have h1 : ¬ a < a := fun h2 => by have := UInt8.lt_iff_toNat_lt.1 h2; omega
        simp [h1]
      · have h1 : ¬ a < b := fun h2 => by have := UInt8.lt_iff_toNat_lt.1 h2; omega
        have h2 : b < a := UInt8.lt_iff_toNat_lt.2 h
        have h3 : ¬ a.toNat < b.toNat := by omega
        simp [h1, h2, h, h3]
theorem pcmp_or {p q : Part} (h : p.isText = q.isText) : pcmp p q = if ncmp p.num q.num ≠ 0 then ncmp p.num q.num else Lib.compareBytes p.text q.text := by
  unfold pcmp
  rw [if_pos h, scmp]
  rcases ncmp_cases p.num q.num with ⟨h1, h2⟩ | ⟨h1, h2⟩ | ⟨h1, h2⟩
  · simp [h1, h2]
  · rw [h2]
    simp [h1]
  · have h3 : ¬ p.num < q.num := by omega
    simp [h1, h2, h3]
theorem pcmp_ne {p q : Part} (h : p.isText ≠ q.isText) : pcmp p q = if p.isText then 1 else -1 := by
  unfold pcmp
  rw [if_neg h]
theorem pcmp_rng (p q : Part) : -1 ≤ pcmp p q ∧ pcmp p q ≤ 1 := by
  unfold pcmp
  split
  · split
    · omega
    · split
      · omega
      · split
        · omega
        · split <;> omega
  · split <;> omega
theorem cmp_rng (l m : List Part) : -1 ≤ cmp l m ∧ cmp l m ≤ 1 := by
  induction l generalizing m with
  | nil => cases m <;> simp [cmp]
  | cons p l ih =>
    cases m with
    | nil => simp [cmp]
    | cons q m =>
      unfold cmp
      split
      · exact ih m
      · exact pcmp_rng p q
theorem cmp_left {l m : List Part} {k : Nat} (hl : l.length ≤ k) (hm : k < m.length) : cmp (l.drop k) (m.drop k) = -1 := by
  rw [List.drop_eq_nil_of_le hl, List.drop_eq_getElem_cons hm]
  rfl
theorem cmp_right {l m : List Part} {k : Nat} (hl : k < l.length) (hm : m.length ≤ k) : cmp (l.drop k) (m.drop k) = 1 := by
  rw [List.drop_eq_nil_of_le hm, List.drop_eq_getElem_cons hl]
  rfl
theorem cmp_both {l m : List Part} {k : Nat} (hl : k < l.length) (hm : k < m.length) : cmp (l.drop k) (m.drop k) = if pcmp l[k] m[k] = 0 then cmp (l.drop (k + 1)) (m.drop (k + 1)) else pcmp l[k] m[k] := by
  rw [List.drop_eq_getElem_cons hl, List.drop_eq_getElem_cons hm]
  rfl
theorem cmp_end {l m : List Part} {k : Nat} (hl : l.length ≤ k) (hm : m.length ≤ k) : cmp (l.drop k) (m.drop k) = 0 := by
  rw [List.drop_eq_nil_of_le hl, List.drop_eq_nil_of_le hm]
  rfl
theorem begins (x y : List UInt8) : (y.take x.length == x) = decide (x <+: y) := by
  rw [Bool.eq_iff_iff, beq_iff_eq, decide_eq_true_eq, List.prefix_iff_eq_take]
  exact eq_comm
theorem beginsP (x y : List Part) : decide (y.take x.length = x) = decide (x <+: y) := by
  rw [Bool.eq_iff_iff, decide_eq_true_eq, decide_eq_true_eq, List.prefix_iff_eq_take]
  exact eq_comm
end Tu
end Go.Proofs.YtbmiifglpjeegaaDoor
