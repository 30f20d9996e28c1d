/- Keys made of parts, in plain Lean: how a part is written, that what is written is read in one way alone, and that keys are ordered as their parts are. No program is in sight. -/
import Derived.WalkKit
set_option linter.unusedVariables false
set_option linter.unusedSimpArgs false
namespace Go.Proofs.YtbmiifglpjeegaaDoor
namespace Tu
/-- A part. -/
structure Part where
  text : List UInt8
  num : Nat
  isText : Bool
theorem Part.ext' {p q : Part} (h1 : p.text = q.text) (h2 : p.num = q.num) (h3 : p.isText = q.isText) : p = q := by
  cases p; cases q; simp at h1 h2 h3; simp [h1, h2, h3]
instance : DecidableEq Part := fun p q =>
  if h : p.text = q.text ∧ p.num = q.num ∧ p.isText = q.isText then isTrue (Part.ext' h.1 h.2.1 h.2.2) else isFalse (fun e => h (by subst e; exact ⟨rfl, rfl, rfl⟩))
/-- May a part be? -/
def may (p : Part) : Bool := if p.isText then p.num == 0 else p.text == []
/-- A text, each zero marked. -/
def esc (l : List UInt8) : List UInt8 := l.flatMap fun c => if c = 0 then [0, 255] else [c]
/-- A number's bytes, the highest first; none of 0. -/
def digs (n : Nat) : List UInt8 := if h : n = 0 then [] else digs (n / 256) ++ [UInt8.ofNat n]
  termination_by n
  decreasing_by omega
def val (l : List UInt8) : Nat := l.foldl (fun n c => n * 256 + c.toNat) 0
/-- A part as it is written. -/
def one (p : Part) : List UInt8 := if p.isText then 32 :: (esc p.text ++ [0, 1]) else UInt8.ofNat (16 + (digs p.num).length) :: digs p.num
def enc (l : List Part) : List UInt8 := l.flatMap one
/-- Why parts may not be: 0, 1 (ErrArg), 3 (ErrLong). -/
def check (l : List Part) : Nat := if l.all may then (if 8 < l.length ∨ 1024 < (enc l).length then 3 else 0) else 1
def ok (p : Part) : Prop := may p = true ∧ p.num < 18446744073709551616

/-! ### Numbers -/
theorem digs_zero : digs 0 = [] := by rw [digs]; simp
theorem digs_pos {n : Nat} (h : n ≠ 0) : digs n = digs (n / 256) ++ [UInt8.ofNat n] := by rw [digs]; simp [h]
theorem val_nil : val [] = 0 := rfl
theorem val_snoc (l : List UInt8) (c : UInt8) : val (l ++ [c]) = val l * 256 + c.toNat := by simp [val]
theorem val_digs (n : Nat) : val (digs n) = n := by
  induction n using Nat.strongRecOn with
  | _ n ih =>
    by_cases h : n = 0
    · subst h; rw [digs_zero]; rfl
    · rw [digs_pos h, val_snoc, ih (n / 256) (by omega)]
      have : (UInt8.ofNat n).toNat = n % 256 := by simp
      rw [this]
      omega
theorem digs_head (n : Nat) : ∀ c r, digs n = c :: r → c ≠ 0 := by
  induction n using Nat.strongRecOn with
  | _ n ih =>
    intro c r h
    by_cases h0 : n = 0
    · subst h0; rw [digs_zero] at h; cases h
    · rw [digs_pos h0] at h
      by_cases h1 : n / 256 = 0
      · rw [h1, digs_zero] at h
        simp only [List.nil_append, List.cons.injEq] at h
        intro hc
        rw [hc] at h
        have h2 : (UInt8.ofNat n).toNat = n % 256 := by simp
        rw [h.1] at h2
        have h3 : (0 : UInt8).toNat = 0 := rfl
        omega
      · have h2 : digs (n / 256) ≠ [] := by rw [digs_pos h1]; simp
        cases hd : digs (n / 256) with
        | nil => exact absurd hd h2
        | cons x y =>
          rw [hd] at h
          simp only [List.cons_append, List.cons.injEq] at h
          rw [← h.1]
          exact ih (n / 256) (by omega) x y hd
theorem snocInd {α : Type} {P : List α → Prop} (h0 : P []) (h1 : ∀ l a, P l → P (l ++ [a])) (l : List α) : P l := by
  have h : ∀ r : List α, P r.reverse := by
    intro r
    induction r with
    | nil => exact h0
    | cons a r ih => rw [List.reverse_cons]; exact h1 _ _ ih
  have := h l.reverse
  rwa [List.reverse_reverse] at this
theorem val_append (l m : List UInt8) : val (l ++ m) = val l * 256 ^ m.length + val m := by
  refine snocInd (P := fun m => val (l ++ m) = val l * 256 ^ m.length + val m) ?_ ?_ m
  · simp [val]
  · intro m c ih
    show val (l ++ (m ++ [c])) = _
    rw [← List.append_assoc, val_snoc, ih, val_snoc, List.length_append, List.length_singleton, Nat.pow_succ, Nat.add_mul, Nat.mul_assoc, Nat.add_assoc]
theorem val_lt (l : List UInt8) : val l < 256 ^ l.length := by
  refine snocInd (P := fun l => val l < 256 ^ l.length) (by simp [val]) ?_ l
  intro l c ih
  rw [val_snoc, List.length_append, List.length_singleton, Nat.pow_succ]
  have := c.toNat_lt
  have h2 : (val l + 1) * 256 ≤ 256 ^ l.length * 256 := Nat.mul_le_mul_right _ ih
  omega
theorem val_cons (c : UInt8) (l : List UInt8) : val (c :: l) = c.toNat * 256 ^ l.length + val l := by
  have := val_append [c] l
  simpa [val] using this
/-- Bytes that do not begin with a zero are a number's. -/
theorem digs_val (l : List UInt8) (h : ∀ c r, l = c :: r → c ≠ 0) : digs (val l) = l := by
  refine snocInd (P := fun l => (∀ c r, l = c :: r → c ≠ 0) → digs (val l) = l) ?_ ?_ l h
  · intro _; exact digs_zero
  · intro l c ih h
    have hl : ∀ c r, l = c :: r → c ≠ 0 := by
      rintro x r rfl
      exact h x (r ++ [c]) rfl
    have hv : val (l ++ [c]) = val l * 256 + c.toNat := val_snoc l c
    have hc := c.toNat_lt
    have hne : val (l ++ [c]) ≠ 0 := by
      cases l with
      | nil =>
        have := h c [] rfl
        intro h0
        rw [hv, val_nil] at h0
        apply this
        apply UInt8.toNat_inj.1
        simp
        omega
      | cons x r =>
        have hx := hl x r rfl
        intro h0
        rw [hv, val_cons] at h0
        have h1 : x.toNat ≠ 0 := fun he => hx (UInt8.toNat_inj.1 (by simpa using he))
        have h2 : 0 < 256 ^ r.length := Nat.pow_pos (by decide)
        have h3 : 1 * 1 ≤ x.toNat * 256 ^ r.length := Nat.mul_le_mul (by omega) h2
        omega
    rw [digs_pos hne, hv]
    have e1 : (val l * 256 + c.toNat) / 256 = val l := by omega
    rw [e1, ih hl]
    congr 1
    congr 1
    apply UInt8.toNat_inj.1
    simp
theorem digs_len (n k : Nat) : (digs n).length ≤ k ↔ n < 256 ^ k := by
  constructor
  · intro h
    have h1 := val_lt (digs n)
    rw [val_digs] at h1
    exact Nat.lt_of_lt_of_le h1 (Nat.pow_le_pow_right (by decide) h)
  · intro h
    rcases Nat.lt_or_ge k (digs n).length with hlt | hge
    · exfalso
      cases hd : digs n with
      | nil => rw [hd] at hlt; simp at hlt
      | cons c r =>
        have hc := digs_head n c r hd
        have hv := val_digs n
        rw [hd, val_cons] at hv
        rw [hd, List.length_cons] at hlt
        have h1 : c.toNat ≠ 0 := fun he => hc (UInt8.toNat_inj.1 (by simpa using he))
        have h2 : 256 ^ k ≤ 256 ^ r.length := Nat.pow_le_pow_right (by decide) (by omega)
        have h3 : 1 * 256 ^ r.length ≤ c.toNat * 256 ^ r.length := Nat.mul_le_mul_right _ (by omega)
        omega
    · exact hge
theorem digs_len8 {n : Nat} (h : n < 18446744073709551616) : (digs n).length ≤ 8 := (digs_len n 8).2 (by simpa using h)
theorem val_lt8 {l : List UInt8} (h : l.length ≤ 8) : val l < 18446744073709551616 := Nat.lt_of_lt_of_le (val_lt l) (by simpa using Nat.pow_le_pow_right (n := 256) (by decide) h)
/-- The j-th byte. -/
theorem digs_get (n : Nat) : ∀ j, j < (digs n).length → (digs n)[j]? = some (UInt8.ofNat (n / 256 ^ ((digs n).length - 1 - j))) := by
  induction n using Nat.strongRecOn with
  | _ n ih =>
    intro j hj
    by_cases h0 : n = 0
    · subst h0; rw [digs_zero] at hj; simp at hj
    · rw [digs_pos h0] at hj ⊢
      rw [List.length_append, List.length_singleton] at hj ⊢
      rcases Nat.lt_or_ge j (digs (n / 256)).length with h1 | h1
      · rw [List.getElem?_append_left h1, ih (n / 256) (by omega) j h1]
        have e : (digs (n / 256)).length + 1 - 1 - j = ((digs (n / 256)).length - 1 - j) + 1 := by omega
        rw [e, Nat.pow_succ, Nat.mul_comm, ← Nat.div_div_eq_div_mul]
      · have e : j = (digs (n / 256)).length := by omega
        subst e
        rw [List.getElem?_append_right (Nat.le_refl _)]
        simp

/-! ### Bytes in order -/
/-- x is ahead of y, and differs from it within both. -/
def Bef (x y : List UInt8) : Prop := ∃ p a b x' y', x = p ++ a :: x' ∧ y = p ++ b :: y' ∧ a.toNat < b.toNat
theorem Bef.here {a b : UInt8} {x y : List UInt8} (h : a.toNat < b.toNat) : Bef (a :: x) (b :: y) := ⟨[], a, b, x, y, rfl, rfl, h⟩
theorem Bef.cons {x y : List UInt8} (h : Bef x y) (c : UInt8) : Bef (c :: x) (c :: y) := by
  obtain ⟨p, a, b, x', y', rfl, rfl, hab⟩ := h
  exact ⟨c :: p, a, b, x', y', rfl, rfl, hab⟩
theorem Bef.pre {x y : List UInt8} (h : Bef x y) (p : List UInt8) : Bef (p ++ x) (p ++ y) := by
  induction p with
  | nil => exact h
  | cons c p ih => exact ih.cons c
theorem Bef.tail {x y : List UInt8} (h : Bef x y) (r s : List UInt8) : Bef (x ++ r) (y ++ s) := by
  obtain ⟨p, a, b, x', y', rfl, rfl, hab⟩ := h
  exact ⟨p, a, b, x' ++ r, y' ++ s, by simp, by simp, hab⟩
theorem Bef.ne {x y : List UInt8} (h : Bef x y) : ∀ r s, x ++ r ≠ y ++ s := by
  obtain ⟨p, a, b, x', y', rfl, rfl, hab⟩ := h
  intro r s he
  rw [List.append_assoc, List.append_assoc] at he
  have := List.append_cancel_left he
  simp only [List.cons_append, List.cons.injEq] at this
  rw [this.1] at hab
  omega
theorem bef_digs {n m : Nat} (hl : (digs n).length = (digs m).length) (h : n < m) : Bef (digs n) (digs m) := by
  have key : ∀ (x y : List UInt8), x.length = y.length → val x < val y → Bef x y := by
    intro x
    induction x with
    | nil => intro y hy hv; cases y with
      | nil => simp at hv
      | cons b y => simp at hy
    | cons a x ih =>
      intro y hy hv
      cases y with
      | nil => simp at hy
      | cons b y =>
        simp only [List.length_cons] at hy
        have hy' : x.length = y.length := by omega
        rw [val_cons, val_cons, ← hy'] at hv
        have h1 := val_lt x
        have h2 := val_lt y
        rw [← hy'] at h2
        rcases Nat.lt_trichotomy a.toNat b.toNat with h3 | h3 | h3
        · exact Bef.here h3
        · have hab : a = b := UInt8.toNat_inj.1 h3
          subst hab
          exact (ih y hy' (by omega)).cons a
        · exfalso
          have h4 : (b.toNat + 1) * 256 ^ x.length ≤ a.toNat * 256 ^ x.length := Nat.mul_le_mul_right _ h3
          rw [Nat.add_mul] at h4
          omega
  exact key _ _ hl (by rw [val_digs, val_digs]; exact h)
/-- A text ahead of another one. -/
def tlt : List UInt8 → List UInt8 → Bool
  | [], [] => false
  | [], _ :: _ => true
  | _ :: _, [] => false
  | a :: x, b :: y => if a.toNat < b.toNat then true else if b.toNat < a.toNat then false else tlt x y
theorem tlt_irrefl (x : List UInt8) : tlt x x = false := by
  induction x with
  | nil => rfl
  | cons a x ih => simp [tlt, ih]
theorem tlt_tri (x y : List UInt8) : tlt x y = true ∨ x = y ∨ tlt y x = true := by
  induction x generalizing y with
  | nil => cases y with
    | nil => exact .inr (.inl rfl)
    | cons b y => exact .inl rfl
  | cons a x ih =>
    cases y with
    | nil => exact .inr (.inr rfl)
    | cons b y =>
      rcases Nat.lt_trichotomy a.toNat b.toNat with h | h | h
      · exact .inl (by simp [tlt, h])
      · have hab : a = b := UInt8.toNat_inj.1 h
        subst hab
        rcases ih y with h1 | h1 | h1
        · exact .inl (by simp [tlt, h1])
        · exact .inr (.inl (by rw [h1]))
        · exact .inr (.inr (by simp [tlt, h1]))
      · exact .inr (.inr (by simp [tlt, h]))
theorem tlt_asymm {x y : List UInt8} (h : tlt x y = true) : tlt y x = false := by
  induction x generalizing y with
  | nil => cases y with
    | nil => rfl
    | cons b y => rfl
  | cons a x ih =>
    cases y with
    | nil => simp [tlt] at h
    | cons b y =>
      simp only [tlt] at h ⊢
      by_cases h1 : a.toNat < b.toNat
      · have h2 : ¬ b.toNat < a.toNat := by omega
        simp [h1, h2]
      · by_cases h2 : b.toNat < a.toNat
        · simp [h1, h2] at h
        · simp [h1, h2] at h ⊢
          exact ih h
theorem Bef.tlt {x y : List UInt8} (h : Bef x y) : tlt x y = true := by
  obtain ⟨p, a, b, x', y', rfl, rfl, hab⟩ := h
  induction p with
  | nil => simp [Tu.tlt, hab]
  | cons c p ih => simp [Tu.tlt, ih]
theorem tlt_ext (x : List UInt8) (b : UInt8) (y : List UInt8) : tlt x (x ++ b :: y) = true := by
  induction x with
  | nil => rfl
  | cons a x ih => simp [tlt, ih]
/-- Where a text is ahead of another one, what is written of it is. -/
theorem bef_esc {x y : List UInt8} (h : tlt x y = true) (r s : List UInt8) : Bef (esc x ++ 0 :: 1 :: r) (esc y ++ 0 :: 1 :: s) := by
  induction x generalizing y with
  | nil =>
    cases y with
    | nil => simp [tlt] at h
    | cons b y =>
      by_cases hb : b = 0
      · subst hb
        exact ⟨[0], 1, 255, r, esc y ++ 0 :: 1 :: s, rfl, rfl, by decide⟩
      · have hb2 : 0 < b.toNat := by
          rcases Nat.eq_zero_or_pos b.toNat with h0 | h0
          · exact absurd (UInt8.toNat_inj.1 (by simpa using h0)) hb
          · exact h0
        refine ⟨[], 0, b, 1 :: r, esc y ++ 0 :: 1 :: s, rfl, ?_, by simpa using hb2⟩
        simp [esc, hb]
  | cons a x ih =>
    cases y with
    | nil => simp [tlt] at h
    | cons b y =>
      simp only [tlt] at h
      by_cases h1 : a.toNat < b.toNat
      · have hb : b ≠ 0 := by rintro rfl; simp at h1
        by_cases ha : a = 0
        · subst ha
          refine ⟨[], 0, b, 255 :: (esc x ++ 0 :: 1 :: r), esc y ++ 0 :: 1 :: s, rfl, ?_, by simpa using h1⟩
          simp [esc, hb]
        · refine ⟨[], a, b, esc x ++ 0 :: 1 :: r, esc y ++ 0 :: 1 :: s, ?_, ?_, h1⟩ <;> simp [esc, ha, hb]
      · by_cases h2 : b.toNat < a.toNat
        · simp [h1, h2] at h
        · have hab : a = b := UInt8.toNat_inj.1 (by omega)
          subst hab
          simp at h
          have h3 := ih h
          have e : ∀ z t : List UInt8, esc (a :: z) ++ t = (if a = 0 then [0, 255] else [a]) ++ (esc z ++ t) := by
            intro z t; simp [esc]
          rw [e, e]
          exact h3.pre _
/-! ### Parts in order -/
def pcmp (p q : Part) : Int := if p.isText = q.isText then (if p.num < q.num then -1 else if q.num < p.num then 1 else if tlt p.text q.text then -1 else if tlt q.text p.text then 1 else 0) else if p.isText then 1 else -1
def cmp : List Part → List Part → Int
  | [], [] => 0
  | [], _ :: _ => -1
  | _ :: _, [] => 1
  | p :: a, q :: b => if pcmp p q = 0 then cmp a b else pcmp p q
theorem ok_text {p : Part} (h : ok p) (ht : p.isText = true) : p.num = 0 := by
  have := h.1
  unfold may at this
  rw [if_pos ht] at this
  simpa using this
theorem ok_num {p : Part} (h : ok p) (ht : p.isText = false) : p.text = [] := by
  have := h.1
  unfold may at this
  rw [if_neg (by simp [ht])] at this
  simpa using this
theorem bef_one {p q : Part} (hp : ok p) (hq : ok q) : (p = q ∧ pcmp p q = 0) ∨ (Bef (one p) (one q) ∧ pcmp p q = -1) ∨ (Bef (one q) (one p) ∧ pcmp p q = 1) := by
  have num : ∀ p : Part, p.isText = false → one p = UInt8.ofNat (16 + (digs p.num).length) :: digs p.num := fun p h => by unfold one; rw [if_neg (by simp [h])]
  have txt : ∀ p : Part, p.isText = true → one p = 32 :: (esc p.text ++ [0, 1]) := fun p h => by unfold one; rw [if_pos h]
  have tag : ∀ p : Part, ok p → (UInt8.ofNat (16 + (digs p.num).length)).toNat = 16 + (digs p.num).length := fun p h => by
    have := digs_len8 h.2
    simp
    omega
  have lt : ∀ p q : Part, ok p → ok q → p.isText = false → q.isText = false → p.num < q.num → Bef (one p) (one q) := by
    intro p q hp hq h1 h2 h
    rw [num p h1, num q h2]
    have hle : (digs p.num).length ≤ (digs q.num).length := (digs_len _ _).2 (Nat.lt_trans h (by have := val_lt (digs q.num); rwa [val_digs] at this))
    rcases Nat.lt_or_ge (digs p.num).length (digs q.num).length with h3 | h3
    · exact Bef.here (by rw [tag p hp, tag q hq]; omega)
    · have e : (digs p.num).length = (digs q.num).length := by omega
      rw [e]
      exact (bef_digs e h).cons _
  cases h1 : p.isText with
  | false =>
    cases h2 : q.isText with
    | false =>
      have e1 := ok_num hp h1
      have e2 := ok_num hq h2
      unfold pcmp
      rw [h1, h2, e1, e2]
      rcases Nat.lt_trichotomy p.num q.num with h | h | h
      · exact .inr (.inl ⟨lt p q hp hq h1 h2 h, by simp [h]⟩)
      · refine .inl ⟨Part.ext' (by rw [e1, e2]) h (by rw [h1, h2]), by simp [h, tlt]⟩
      · have h3 : ¬ p.num < q.num := by omega
        exact .inr (.inr ⟨lt q p hq hp h2 h1 h, by simp [h, h3]⟩)
    | true =>
      have := digs_len8 hp.2
      refine .inr (.inl ⟨?_, by simp [pcmp, h1, h2]⟩)
      rw [num p h1, txt q h2]
      exact Bef.here (by rw [tag p hp]; show _ < 32; omega)
  | true =>
    cases h2 : q.isText with
    | false =>
      have := digs_len8 hq.2
      refine .inr (.inr ⟨?_, by simp [pcmp, h1, h2]⟩)
      rw [num q h2, txt p h1]
      exact Bef.here (by rw [tag q hq]; show _ < 32; omega)
    | true =>
      have e1 := ok_text hp h1
      have e2 := ok_text hq h2
      unfold pcmp
      rw [txt p h1, txt q h2, h1, h2, e1, e2]
      rcases tlt_tri p.text q.text with h | h | h
      · exact .inr (.inl ⟨(bef_esc h [] []).cons 32, by simp [h]⟩)
      · refine .inl ⟨Part.ext' h (by rw [e1, e2]) (by rw [h1, h2]), by simp [h, tlt_irrefl]⟩
      · have h3 := tlt_asymm h
        exact .inr (.inr ⟨(bef_esc h [] []).cons 32, by simp [h, h3]⟩)
theorem one_ne (p : Part) : one p ≠ [] := by unfold one; split <;> simp
theorem enc_cons (p : Part) (a : List Part) : enc (p :: a) = one p ++ enc a := by simp [enc]
theorem enc_append (a b : List Part) : enc (a ++ b) = enc a ++ enc b := by simp [enc]
/-- THE THEOREM OF KEYS. -/
theorem tri {a b : List Part} (ha : ∀ p ∈ a, ok p) (hb : ∀ p ∈ b, ok p) :
    (a = b ∧ cmp a b = 0) ∨ (cmp a b = -1 ∧ ∃ c r, b = a ++ c :: r) ∨ (cmp a b = 1 ∧ ∃ c r, a = b ++ c :: r) ∨ (cmp a b = -1 ∧ Bef (enc a) (enc b) ∧ ¬ a <+: b) ∨ (cmp a b = 1 ∧ Bef (enc b) (enc a) ∧ ¬ a <+: b) := by
  induction a generalizing b with
  | nil =>
    cases b with
    | nil => exact .inl ⟨rfl, rfl⟩
    | cons q b => exact .inr (.inl ⟨rfl, q, b, rfl⟩)
  | cons p a ih =>
    cases b with
    | nil => exact .inr (.inr (.inl ⟨rfl, p, a, rfl⟩))
    | cons q b =>
      have hnp : p ≠ q → ¬ (p :: a) <+: (q :: b) := fun hne h => hne (List.cons_prefix_cons.1 h).1
      have hpq : ∀ {c : Int}, Bef (one p) (one q) ∨ Bef (one q) (one p) → p ≠ q := by
        rintro c h rfl
        rcases h with h | h
        · exact h.ne [] [] rfl
        · exact h.ne [] [] rfl
      rcases bef_one (ha p (by simp)) (hb q (by simp)) with ⟨rfl, h⟩ | ⟨h1, h⟩ | ⟨h1, h⟩
      · have hc : cmp (p :: a) (p :: b) = cmp a b := by simp [cmp, h]
        rw [hc, enc_cons, enc_cons]
        rcases ih (b := b) (fun x hx => ha x (by simp [hx])) (fun x hx => hb x (by simp [hx])) with ⟨rfl, h2⟩ | ⟨h2, c, r, h3⟩ | ⟨h2, c, r, h3⟩ | ⟨h2, h3, h4⟩ | ⟨h2, h3, h4⟩
        · exact .inl ⟨rfl, h2⟩
        · exact .inr (.inl ⟨h2, c, r, by rw [h3]; rfl⟩)
        · exact .inr (.inr (.inl ⟨h2, c, r, by rw [h3]; rfl⟩))
        · exact .inr (.inr (.inr (.inl ⟨h2, h3.pre _, fun h5 => h4 (List.cons_prefix_cons.1 h5).2⟩)))
        · exact .inr (.inr (.inr (.inr ⟨h2, h3.pre _, fun h5 => h4 (List.cons_prefix_cons.1 h5).2⟩)))
      · have hc : cmp (p :: a) (q :: b) = -1 := by simp [cmp, h]
        rw [hc, enc_cons, enc_cons]
        exact .inr (.inr (.inr (.inl ⟨rfl, h1.tail _ _, hnp (hpq (c := 0) (.inl h1))⟩)))
      · have hc : cmp (p :: a) (q :: b) = 1 := by simp [cmp, h]
        rw [hc, enc_cons, enc_cons]
        exact .inr (.inr (.inr (.inr ⟨rfl, h1.tail _ _, hnp (hpq (c := 0) (.inr h1))⟩)))
theorem enc_ext (a : List Part) (c : Part) (r : List Part) : ∃ x y, enc (a ++ c :: r) = enc a ++ x :: y := by
  rw [enc_append, enc_cons]
  cases h : one c with
  | nil => exact absurd h (one_ne c)
  | cons x y => exact ⟨x, y ++ enc r, by simp⟩
theorem enc_inj {a b : List Part} (ha : ∀ p ∈ a, ok p) (hb : ∀ p ∈ b, ok p) (h : enc a = enc b) : a = b := by
  rcases tri ha hb with ⟨h1, _⟩ | ⟨_, c, r, rfl⟩ | ⟨_, c, r, rfl⟩ | ⟨_, h1, _⟩ | ⟨_, h1, _⟩
  · exact h1
  · obtain ⟨x, y, hx⟩ := enc_ext a c r
    rw [hx] at h
    have := congrArg List.length h
    simp at this
  · obtain ⟨x, y, hx⟩ := enc_ext b c r
    rw [hx] at h
    have := congrArg List.length h
    simp at this
  · exact absurd (by rw [h]) (h1.ne [] [])
  · exact absurd (by rw [h]) (h1.ne [] [])
/-- Keys in order, as the law asks: less, alike, beginning. -/
theorem keys {a b : List Part} (ha : ∀ p ∈ a, ok p) (hb : ∀ p ∈ b, ok p) : (tlt (enc a) (enc b) = decide (cmp a b < 0)) ∧ (decide (enc a = enc b) = decide (cmp a b = 0)) ∧ (enc a <+: enc b ↔ a <+: b) := by
  rcases tri ha hb with ⟨rfl, h⟩ | ⟨h, c, r, rfl⟩ | ⟨h, c, r, rfl⟩ | ⟨h, h1, h2⟩ | ⟨h, h1, h2⟩
  · rw [h, tlt_irrefl]; simp
  · obtain ⟨x, y, hx⟩ := enc_ext a c r
    rw [h, hx, tlt_ext]
    refine ⟨rfl, by simp, ?_⟩
    simp
  · obtain ⟨x, y, hx⟩ := enc_ext b c r
    rw [h, hx]
    refine ⟨?_, by simp, ?_⟩
    · rw [tlt_asymm (tlt_ext _ _ _)]; rfl
    · constructor
      · intro h3; have := h3.length_le; simp at this; omega
      · intro h3; have := h3.length_le; simp at this; omega
  · rw [h, h1.tlt]
    refine ⟨rfl, ?_, ?_⟩
    · have : enc a ≠ enc b := by have := h1.ne [] []; simpa using this
      simp [this]
    · refine ⟨fun h3 => ?_, fun h3 => absurd h3 h2⟩
      obtain ⟨t, ht⟩ := h3
      exact absurd (by simpa using ht) (h1.ne t [])
  · rw [h, tlt_asymm h1.tlt]
    refine ⟨rfl, ?_, ?_⟩
    · have : enc a ≠ enc b := by have := h1.ne [] []; simp at this; exact fun h => this h.symm
      simp [this]
    · refine ⟨fun h3 => ?_, fun h3 => absurd h3 h2⟩
      obtain ⟨t, ht⟩ := h3
      exact absurd (by simpa using ht.symm) (h1.ne [] t)
end Tu
end Go.Proofs.YtbmiifglpjeegaaDoor
