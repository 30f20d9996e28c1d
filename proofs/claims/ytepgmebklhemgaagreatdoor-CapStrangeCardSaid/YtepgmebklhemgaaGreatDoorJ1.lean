/- Keys made of parts, in plain Lean: how a part is written, that what is written is read in one way alone, and that keys are ordered as their parts are. No program is in sight. -/
import Derived.WalkKit
import Derived.Test.YtepgmebklhemgaaGreatDoorChecked
import Derived.Test.YtepgmebklhemgaaGreatDoorA1
import Derived.Test.YtepgmebklhemgaaGreatDoorA3
import Derived.Test.YtepgmebklhemgaaGreatDoorA4
import Derived.Lib.UnsafeStr
import Derived.Lib.Builder
set_option linter.unusedVariables false
set_option linter.unusedSimpArgs false
namespace Go.Proofs.YtepgmebklhemgaaGreatDoor
namespace Tu
/-- A part. -/
structure Part where
  text : List UInt8
  num : Nat
  isText : Bool
theorem Part.ext' {p q : Part} (h1 : p.text = q.text) (h2 : p.num = q.num) (h3 : p.isText = q.isText) : p = q := by
  cases p; cases q; simp at h1 h2 h3; simp [h1, h2, h3]
instance : DecidableEq Part := fun p q =>
  if h : p.text = q.text ∧ p.num = q.num ∧ p.isText = q.isText then isTrue (Part.ext' h.1 h.2.1 h.2.2) else isFalse (fun e => h (by subst e; exact ⟨rfl, rfl, rfl⟩))
/-- May a part be? -/
def may (p : Part) : Bool := if p.isText then p.num == 0 else p.text == []
/-- A text, each zero marked. -/
def esc (l : List UInt8) : List UInt8 := l.flatMap fun c => if c = 0 then [0, 255] else [c]
/-- A number's bytes, the highest first; none of 0. -/
def digs (n : Nat) : List UInt8 := if h : n = 0 then [] else digs (n / 256) ++ [UInt8.ofNat n]
  termination_by n
  decreasing_by omega
def val (l : List UInt8) : Nat := l.foldl (fun n c => n * 256 + c.toNat) 0
/-- A part as it is written. -/
def one (p : Part) : List UInt8 := if p.isText then 32 :: (esc p.text ++ [0, 1]) else UInt8.ofNat (16 + (digs p.num).length) :: digs p.num
def enc (l : List Part) : List UInt8 := l.flatMap one
/-- Why parts may not be: 0, 1 (ErrArg), 3 (ErrLong). -/
def check (l : List Part) : Nat := if l.all may then (if 8 < l.length ∨ 1024 < (enc l).length then 3 else 0) else 1
def ok (p : Part) : Prop := may p = true ∧ p.num < 18446744073709551616

/-! ### Numbers -/
theorem digs_zero : digs 0 = [] := by rw [digs]; simp
theorem digs_pos {n : Nat} (h : n ≠ 0) : digs n = digs (n / 256) ++ [UInt8.ofNat n] := by rw [digs]; simp [h]
theorem val_nil : val [] = 0 := rfl
theorem val_snoc (l : List UInt8) (c : UInt8) : val (l ++ [c]) = val l * 256 + c.toNat := by simp [val]
theorem val_digs (n : Nat) : val (digs n) = n := by
  induction n using Nat.strongRecOn with
  | _ n ih =>
    by_cases h : n = 0
    · subst h; rw [digs_zero]; rfl
    · rw [digs_pos h, val_snoc, ih (n / 256) (by omega)]
      have : (UInt8.ofNat n).toNat = n % 256 := by simp
      rw [this]
      omega
theorem digs_head (n : Nat) : ∀ c r, digs n = c :: r → c ≠ 0 := by
  induction n using Nat.strongRecOn with
  | _ n ih =>
    intro c r h
    by_cases h0 : n = 0
    · subst h0; rw [digs_zero] at h; cases h
    · rw [digs_pos h0] at h
      by_cases h1 : n / 256 = 0
      · rw [h1, digs_zero] at h
        simp only [List.nil_append, List.cons.injEq] at h
        intro hc
        rw [hc] at h
        have h2 : (UInt8.ofNat n).toNat = n % 256 := by simp
        rw [h.1] at h2
        have h3 : (0 : UInt8).toNat = 0 := rfl
        omega
      · have h2 : digs (n / 256) ≠ [] := by rw [digs_pos h1]; simp
        cases hd : digs (n / 256) with
        | nil => exact absurd hd h2
        | cons x y =>
          rw [hd] at h
          simp only [List.cons_append, List.cons.injEq] at h
          rw [← h.1]
          exact ih (n / 256) (by omega) x y hd
theorem snocInd {α : Type} {P : List α → Prop} (h0 : P []) (h1 : ∀ l a, P l → P (l ++ [a])) (l : List α) : P l := by
  have h : ∀ r : List α, P r.reverse := by
    intro r
    induction r with
    | nil => exact h0
    | cons a r ih => rw [List.reverse_cons]; exact h1 _ _ ih
  have := h l.reverse
  rwa [List.reverse_reverse] at this
theorem val_append (l m : List UInt8) : val (l ++ m) = val l * 256 ^ m.length + val m := by
  refine snocInd (P := fun m => val (l ++ m) = val l * 256 ^ m.length + val m) ?_ ?_ m
  · simp [val]
  · intro m c ih
    show val (l ++ (m ++ [c])) = _
    rw [← List.append_assoc, val_snoc, ih, val_snoc, List.length_append, List.length_singleton, Nat.pow_succ, Nat.add_mul, Nat.mul_assoc, Nat.add_assoc]
theorem val_lt (l : List UInt8) : val l < 256 ^ l.length := by
  refine snocInd (P := fun l => val l < 256 ^ l.length) (by simp [val]) ?_ l
  intro l c ih
  rw [val_snoc, List.length_append, List.length_singleton, Nat.pow_succ]
  have := c.toNat_lt
  have h2 : (val l + 1) * 256 ≤ 256 ^ l.length * 256 := Nat.mul_le_mul_right _ ih
  omega
theorem val_cons (c : UInt8) (l : List UInt8) : val (c :: l) = c.toNat * 256 ^ l.length + val l := by
  have := val_append [c] l
  simpa [val] using this
/-- Bytes that do not begin with a zero are a number's. -/
theorem digs_val (l : List UInt8) (h : ∀ c r, l = c :: r → c ≠ 0) : digs (val l) = l := by
  refine snocInd (P := fun l => (∀ c r, l = c :: r → c ≠ 0) → digs (val l) = l) ?_ ?_ l h
  · intro _; exact digs_zero
  · intro l c ih h
    have hl : ∀ c r, l = c :: r → c ≠ 0 := by
      rintro x r rfl
      exact h x (r ++ [c]) rfl
    have hv : val (l ++ [c]) = val l * 256 + c.toNat := val_snoc l c
    have hc := c.toNat_lt
    have hne : val (l ++ [c]) ≠ 0 := by
      cases l with
      | nil =>
        have := h c [] rfl
        intro h0
        rw [hv, val_nil] at h0
        apply this
        apply UInt8.toNat_inj.1
        simp
        omega
      | cons x r =>
        have hx := hl x r rfl
        intro h0
        rw [hv, val_cons] at h0
        have h1 : x.toNat ≠ 0 := fun he => hx (UInt8.toNat_inj.1 (by simpa using he))
        have h2 : 0 < 256 ^ r.length := Nat.pow_pos (by decide)
        have h3 : 1 * 1 ≤ x.toNat * 256 ^ r.length := Nat.mul_le_mul (by omega) h2
        omega
    rw [digs_pos hne, hv]
    have e1 : (val l * 256 + c.toNat) / 256 = val l := by omega
    rw [e1, ih hl]
    congr 1
    congr 1
    apply UInt8.toNat_inj.1
    simp
theorem digs_len (n k : Nat) : (digs n).length ≤ k ↔ n < 256 ^ k := by
  constructor
  · intro h
    have h1 := val_lt (digs n)
    rw [val_digs] at h1
    exact Nat.lt_of_lt_of_le h1 (Nat.pow_le_pow_right (by decide) h)
  · intro h
    rcases Nat.lt_or_ge k (digs n).length with hlt | hge
    · exfalso
      cases hd : digs n with
      | nil => rw [hd] at hlt; simp at hlt
      | cons c r =>
        have hc := digs_head n c r hd
        have hv := val_digs n
        rw [hd, val_cons] at hv
        rw [hd, List.length_cons] at hlt
        have h1 : c.toNat ≠ 0 := fun he => hc (UInt8.toNat_inj.1 (by simpa using he))
        have h2 : 256 ^ k ≤ 256 ^ r.length := Nat.pow_le_pow_right (by decide) (by omega)
        have h3 : 1 * 256 ^ r.length ≤ c.toNat * 256 ^ r.length := Nat.mul_le_mul_right _ (by omega)
        omega
    · exact hge
theorem digs_len8 {n : Nat} (h : n < 18446744073709551616) : (digs n).length ≤ 8 := (digs_len n 8).2 (by simpa using h)
theorem val_lt8 {l : List UInt8} (h : l.length ≤ 8) : val l < 18446744073709551616 := Nat.lt_of_lt_of_le (val_lt l) (by simpa using Nat.pow_le_pow_right (n := 256) (by decide) h)
/-- The j-th byte. -/
theorem digs_get (n : Nat) : ∀ j, j < (digs n).length → (digs n)[j]? = some (UInt8.ofNat (n / 256 ^ ((digs n).length - 1 - j))) := by
  induction n using Nat.strongRecOn with
  | _ n ih =>
    intro j hj
    by_cases h0 : n = 0
    · subst h0; rw [digs_zero] at hj; simp at hj
    · rw [digs_pos h0] at hj ⊢
      rw [List.length_append, List.length_singleton] at hj ⊢
      rcases Nat.lt_or_ge j (digs (n / 256)).length with h1 | h1
      · rw [List.getElem?_append_left h1, ih (n / 256) (by omega) j h1]
        have e : (digs (n / 256)).length + 1 - 1 - j = ((digs (n / 256)).length - 1 - j) + 1 := by omega
        rw [e, Nat.pow_succ, Nat.mul_comm, ← Nat.div_div_eq_div_mul]
      · have e : j = (digs (n / 256)).length := by omega
        subst e
        rw [List.getElem?_append_right (Nat.le_refl _)]
        simp

/-! ### Bytes in order -/
/-- x is ahead of y, and differs from it within both. -/
def Bef (x y : List UInt8) : Prop := ∃ p a b x' y', x = p ++ a :: x' ∧ y = p ++ b :: y' ∧ a.toNat < b.toNat
theorem Bef.here {a b : UInt8} {x y : List UInt8} (h : a.toNat < b.toNat) : Bef (a :: x) (b :: y) := ⟨[], a, b, x, y, rfl, rfl, h⟩
theorem Bef.cons {x y : List UInt8} (h : Bef x y) (c : UInt8) : Bef (c :: x) (c :: y) := by
  obtain ⟨p, a, b, x', y', rfl, rfl, hab⟩ := h
  exact ⟨c :: p, a, b, x', y', rfl, rfl, hab⟩
theorem Bef.pre {x y : List UInt8} (h : Bef x y) (p : List UInt8) : Bef (p ++ x) (p ++ y) := by
  induction p with
  | nil => exact h
  | cons c p ih => exact ih.cons c
theorem Bef.tail {x y : List UInt8} (h : Bef x y) (r s : List UInt8) : Bef (x ++ r) (y ++ s) := by
  obtain ⟨p, a, b, x', y', rfl, rfl, hab⟩ := h
  exact ⟨p, a, b, x' ++ r, y' ++ s, by simp, by simp, hab⟩
theorem Bef.ne {x y : List UInt8} (h : Bef x y) : ∀ r s, x ++ r ≠ y ++ s := by
  obtain ⟨p, a, b, x', y', rfl, rfl, hab⟩ := h
  intro r s he
  rw [List.append_assoc, List.append_assoc] at he
  have := List.append_cancel_left he
  simp only [List.cons_append, List.cons.injEq] at this
  rw [this.1] at hab
  omega
theorem bef_digs {n m : Nat} (hl : (digs n).length = (digs m).length) (h : n < m) : Bef (digs n) (digs m) := by
  have key : ∀ (x y : List UInt8), x.length = y.length → val x < val y → Bef x y := by
    intro x
    induction x with
    | nil => intro y hy hv; cases y with
      | nil => simp at hv
      | cons b y => simp at hy
    | cons a x ih =>
      intro y hy hv
      cases y with
      | nil => simp at hy
      | cons b y =>
        simp only [List.length_cons] at hy
        have hy' : x.length = y.length := by omega
        rw [val_cons, val_cons, ← hy'] at hv
        have h1 := val_lt x
        have h2 := val_lt y
        rw [← hy'] at h2
        rcases Nat.lt_trichotomy a.toNat b.toNat with h3 | h3 | h3
        · exact Bef.here h3
        · have hab : a = b := UInt8.toNat_inj.1 h3
          subst hab
          exact (ih y hy' (by omega)).cons a
        · exfalso
          have h4 : (b.toNat + 1) * 256 ^ x.length ≤ a.toNat * 256 ^ x.length := Nat.mul_le_mul_right _ h3
          rw [Nat.add_mul] at h4
          omega
  exact key _ _ hl (by rw [val_digs, val_digs]; exact h)
/-- A text ahead of another one. -/
def tlt : List UInt8 → List UInt8 → Bool
  | [], [] => false
  | [], _ :: _ => true
  | _ :: _, [] => false
  | a :: x, b :: y => if a.toNat < b.toNat then true else if b.toNat < a.toNat then false else tlt x y
theorem tlt_irrefl (x : List UInt8) : tlt x x = false := by
  induction x with
  | nil => rfl
  | cons a x ih => simp [tlt, ih]
theorem tlt_tri (x y : List UInt8) : tlt x y = true ∨ x = y ∨ tlt y x = true := by
  induction x generalizing y with
  | nil => cases y with
    | nil => exact .inr (.inl rfl)
    | cons b y => exact .inl rfl
  | cons a x ih =>
    cases y with
    | nil => exact .inr (.inr rfl)
    | cons b y =>
      rcases Nat.lt_trichotomy a.toNat b.toNat with h | h | h
      · exact .inl (by simp [tlt, h])
      · have hab : a = b := UInt8.toNat_inj.1 h
        subst hab
        rcases ih y with h1 | h1 | h1
        · exact .inl (by simp [tlt, h1])
        · exact .inr (.inl (by rw [h1]))
        · exact .inr (.inr (by simp [tlt, h1]))
      · exact .inr (.inr (by simp [tlt, h]))
theorem tlt_asymm {x y : List UInt8} (h : tlt x y = true) : tlt y x = false := by
  induction x generalizing y with
  | nil => cases y with
    | nil => rfl
    | cons b y => rfl
  | cons a x ih =>
    cases y with
    | nil => simp [tlt] at h
    | cons b y =>
      simp only [tlt] at h ⊢
      by_cases h1 : a.toNat < b.toNat
      · have h2 : ¬ b.toNat < a.toNat := by omega
        simp [h1, h2]
      · by_cases h2 : b.toNat < a.toNat
        · simp [h1, h2] at h
        · simp [h1, h2] at h ⊢
          exact ih h
theorem Bef.tlt {x y : List UInt8} (h : Bef x y) : tlt x y = true := by
  obtain ⟨p, a, b, x', y', rfl, rfl, hab⟩ := h
  induction p with
  | nil => simp [Tu.tlt, hab]
  | cons c p ih => simp [Tu.tlt, ih]
theorem tlt_ext (x : List UInt8) (b : UInt8) (y : List UInt8) : tlt x (x ++ b :: y) = true := by
  induction x with
  | nil => rfl
  | cons a x ih => simp [tlt, ih]
/-- Where a text is ahead of another one, what is written of it is. -/
theorem bef_esc {x y : List UInt8} (h : tlt x y = true) (r s : List UInt8) : Bef (esc x ++ 0 :: 1 :: r) (esc y ++ 0 :: 1 :: s) := by
  induction x generalizing y with
  | nil =>
    cases y with
    | nil => simp [tlt] at h
    | cons b y =>
      by_cases hb : b = 0
      · subst hb
        exact ⟨[0], 1, 255, r, esc y ++ 0 :: 1 :: s, rfl, rfl, by decide⟩
      · have hb2 : 0 < b.toNat := by
          rcases Nat.eq_zero_or_pos b.toNat with h0 | h0
          · exact absurd (UInt8.toNat_inj.1 (by simpa using h0)) hb
          · exact h0
        refine ⟨[], 0, b, 1 :: r, esc y ++ 0 :: 1 :: s, rfl, ?_, by simpa using hb2⟩
        simp [esc, hb]
  | cons a x ih =>
    cases y with
    | nil => simp [tlt] at h
    | cons b y =>
      simp only [tlt] at h
      by_cases h1 : a.toNat < b.toNat
      · have hb : b ≠ 0 := by rintro rfl; simp at h1
        by_cases ha : a = 0
        · subst ha
          refine ⟨[], 0, b, 255 :: (esc x ++ 0 :: 1 :: r), esc y ++ 0 :: 1 :: s, rfl, ?_, by simpa using h1⟩
          simp [esc, hb]
        · refine ⟨[], a, b, esc x ++ 0 :: 1 :: r, esc y ++ 0 :: 1 :: s, ?_, ?_, h1⟩ <;> simp [esc, ha, hb]
      · by_cases h2 : b.toNat < a.toNat
        · simp [h1, h2] at h
        · have hab : a = b := UInt8.toNat_inj.1 (by omega)
          subst hab
          simp at h
          have h3 := ih h
          have e : ∀ z t : List UInt8, esc (a :: z) ++ t = (if a = 0 then [0, 255] else [a]) ++ (esc z ++ t) := by
            intro z t; simp [esc]
          rw [e, e]
          exact h3.pre _
/-! ### Parts in order -/
def pcmp (p q : Part) : Int := if p.isText = q.isText then (if p.num < q.num then -1 else if q.num < p.num then 1 else if tlt p.text q.text then -1 else if tlt q.text p.text then 1 else 0) else if p.isText then 1 else -1
def cmp : List Part → List Part → Int
  | [], [] => 0
  | [], _ :: _ => -1
  | _ :: _, [] => 1
  | p :: a, q :: b => if pcmp p q = 0 then cmp a b else pcmp p q
theorem ok_text {p : Part} (h : ok p) (ht : p.isText = true) : p.num = 0 := by
  have := h.1
  unfold may at this
  rw [if_pos ht] at this
  simpa using this
theorem ok_num {p : Part} (h : ok p) (ht : p.isText = false) : p.text = [] := by
  have := h.1
  unfold may at this
  rw [if_neg (by simp [ht])] at this
  simpa using this
theorem bef_one {p q : Part} (hp : ok p) (hq : ok q) : (p = q ∧ pcmp p q = 0) ∨ (Bef (one p) (one q) ∧ pcmp p q = -1) ∨ (Bef (one q) (one p) ∧ pcmp p q = 1) := by
  have num : ∀ p : Part, p.isText = false → one p = UInt8.ofNat (16 + (digs p.num).length) :: digs p.num := fun p h => by unfold one; rw [if_neg (by simp [h])]
  have txt : ∀ p : Part, p.isText = true → one p = 32 :: (esc p.text ++ [0, 1]) := fun p h => by unfold one; rw [if_pos h]
  have tag : ∀ p : Part, ok p → (UInt8.ofNat (16 + (digs p.num).length)).toNat = 16 + (digs p.num).length := fun p h => by
    have := digs_len8 h.2
    simp
    omega
  have lt : ∀ p q : Part, ok p → ok q → p.isText = false → q.isText = false → p.num < q.num → Bef (one p) (one q) := by
    intro p q hp hq h1 h2 h
    rw [num p h1, num q h2]
    have hle : (digs p.num).length ≤ (digs q.num).length := (digs_len _ _).2 (Nat.lt_trans h (by have := val_lt (digs q.num); rwa [val_digs] at this))
    rcases Nat.lt_or_ge (digs p.num).length (digs q.num).length with h3 | h3
    · exact Bef.here (by rw [tag p hp, tag q hq]; omega)
    · have e : (digs p.num).length = (digs q.num).length := by omega
      rw [e]
      exact (bef_digs e h).cons _
  cases h1 : p.isText with
  | false =>
    cases h2 : q.isText with
    | false =>
      have e1 := ok_num hp h1
      have e2 := ok_num hq h2
      unfold pcmp
      rw [h1, h2, e1, e2]
      rcases Nat.lt_trichotomy p.num q.num with h | h | h
      · exact .inr (.inl ⟨lt p q hp hq h1 h2 h, by simp [h]⟩)
      · refine .inl ⟨Part.ext' (by rw [e1, e2]) h (by rw [h1, h2]), by simp [h, tlt]⟩
      · have h3 : ¬ p.num < q.num := by omega
        exact .inr (.inr ⟨lt q p hq hp h2 h1 h, by simp [h, h3]⟩)
    | true =>
      have := digs_len8 hp.2
      refine .inr (.inl ⟨?_, by simp [pcmp, h1, h2]⟩)
      rw [num p h1, txt q h2]
      exact Bef.here (by rw [tag p hp]; show _ < 32; omega)
  | true =>
    cases h2 : q.isText with
    | false =>
      have := digs_len8 hq.2
      refine .inr (.inr ⟨?_, by simp [pcmp, h1, h2]⟩)
      rw [num q h2, txt p h1]
      exact Bef.here (by rw [tag q hq]; show _ < 32; omega)
    | true =>
      have e1 := ok_text hp h1
      have e2 := ok_text hq h2
      unfold pcmp
      rw [txt p h1, txt q h2, h1, h2, e1, e2]
      rcases tlt_tri p.text q.text with h | h | h
      · exact .inr (.inl ⟨(bef_esc h [] []).cons 32, by simp [h]⟩)
      · refine .inl ⟨Part.ext' h (by rw [e1, e2]) (by rw [h1, h2]), by simp [h, tlt_irrefl]⟩
      · have h3 := tlt_asymm h
        exact .inr (.inr ⟨(bef_esc h [] []).cons 32, by simp [h, h3]⟩)
theorem one_ne (p : Part) : one p ≠ [] := by unfold one; split <;> simp
theorem enc_cons (p : Part) (a : List Part) : enc (p :: a) = one p ++ enc a := by simp [enc]
theorem enc_append (a b : List Part) : enc (a ++ b) = enc a ++ enc b := by simp [enc]
/-- THE THEOREM OF KEYS. -/
theorem tri {a b : List Part} (ha : ∀ p ∈ a, ok p) (hb : ∀ p ∈ b, ok p) :
    (a = b ∧ cmp a b = 0) ∨ (cmp a b = -1 ∧ ∃ c r, b = a ++ c :: r) ∨ (cmp a b = 1 ∧ ∃ c r, a = b ++ c :: r) ∨ (cmp a b = -1 ∧ Bef (enc a) (enc b) ∧ ¬ a <+: b) ∨ (cmp a b = 1 ∧ Bef (enc b) (enc a) ∧ ¬ a <+: b) := by
  induction a generalizing b with
  | nil =>
    cases b with
    | nil => exact .inl ⟨rfl, rfl⟩
    | cons q b => exact .inr (.inl ⟨rfl, q, b, rfl⟩)
  | cons p a ih =>
    cases b with
    | nil => exact .inr (.inr (.inl ⟨rfl, p, a, rfl⟩))
    | cons q b =>
      have hnp : p ≠ q → ¬ (p :: a) <+: (q :: b) := fun hne h => hne (List.cons_prefix_cons.1 h).1
      have hpq : ∀ {c : Int}, Bef (one p) (one q) ∨ Bef (one q) (one p) → p ≠ q := by
        rintro c h rfl
        rcases h with h | h
        · exact h.ne [] [] rfl
        · exact h.ne [] [] rfl
      rcases bef_one (ha p (by simp)) (hb q (by simp)) with ⟨rfl, h⟩ | ⟨h1, h⟩ | ⟨h1, h⟩
      · have hc : cmp (p :: a) (p :: b) = cmp a b := by simp [cmp, h]
        rw [hc, enc_cons, enc_cons]
        rcases ih (b := b) (fun x hx => ha x (by simp [hx])) (fun x hx => hb x (by simp [hx])) with ⟨rfl, h2⟩ | ⟨h2, c, r, h3⟩ | ⟨h2, c, r, h3⟩ | ⟨h2, h3, h4⟩ | ⟨h2, h3, h4⟩
        · exact .inl ⟨rfl, h2⟩
        · exact .inr (.inl ⟨h2, c, r, by rw [h3]; rfl⟩)
        · exact .inr (.inr (.inl ⟨h2, c, r, by rw [h3]; rfl⟩))
        · exact .inr (.inr (.inr (.inl ⟨h2, h3.pre _, fun h5 => h4 (List.cons_prefix_cons.1 h5).2⟩)))
        · exact .inr (.inr (.inr (.inr ⟨h2, h3.pre _, fun h5 => h4 (List.cons_prefix_cons.1 h5).2⟩)))
      · have hc : cmp (p :: a) (q :: b) = -1 := by simp [cmp, h]
        rw [hc, enc_cons, enc_cons]
        exact .inr (.inr (.inr (.inl ⟨rfl, h1.tail _ _, hnp (hpq (c := 0) (.inl h1))⟩)))
      · have hc : cmp (p :: a) (q :: b) = 1 := by simp [cmp, h]
        rw [hc, enc_cons, enc_cons]
        exact .inr (.inr (.inr (.inr ⟨rfl, h1.tail _ _, hnp (hpq (c := 0) (.inr h1))⟩)))
theorem enc_ext (a : List Part) (c : Part) (r : List Part) : ∃ x y, enc (a ++ c :: r) = enc a ++ x :: y := by
  rw [enc_append, enc_cons]
  cases h : one c with
  | nil => exact absurd h (one_ne c)
  | cons x y => exact ⟨x, y ++ enc r, by simp⟩
theorem enc_inj {a b : List Part} (ha : ∀ p ∈ a, ok p) (hb : ∀ p ∈ b, ok p) (h : enc a = enc b) : a = b := by
  rcases tri ha hb with ⟨h1, _⟩ | ⟨_, c, r, rfl⟩ | ⟨_, c, r, rfl⟩ | ⟨_, h1, _⟩ | ⟨_, h1, _⟩
  · exact h1
  · obtain ⟨x, y, hx⟩ := enc_ext a c r
    rw [hx] at h
    have := congrArg List.length h
    simp at this
  · obtain ⟨x, y, hx⟩ := enc_ext b c r
    rw [hx] at h
    have := congrArg List.length h
    simp at this
  · exact absurd (by rw [h]) (h1.ne [] [])
  · exact absurd (by rw [h]) (h1.ne [] [])
/-- Keys in order, as the law asks: less, alike, beginning. -/
theorem keys {a b : List Part} (ha : ∀ p ∈ a, ok p) (hb : ∀ p ∈ b, ok p) : (tlt (enc a) (enc b) = decide (cmp a b < 0)) ∧ (decide (enc a = enc b) = decide (cmp a b = 0)) ∧ (enc a <+: enc b ↔ a <+: b) := by
  rcases tri ha hb with ⟨rfl, h⟩ | ⟨h, c, r, rfl⟩ | ⟨h, c, r, rfl⟩ | ⟨h, h1, h2⟩ | ⟨h, h1, h2⟩
  · rw [h, tlt_irrefl]; simp
  · obtain ⟨x, y, hx⟩ := enc_ext a c r
    rw [h, hx, tlt_ext]
    refine ⟨rfl, by simp, ?_⟩
    simp
  · obtain ⟨x, y, hx⟩ := enc_ext b c r
    rw [h, hx]
    refine ⟨?_, by simp, ?_⟩
    · rw [tlt_asymm (tlt_ext _ _ _)]; rfl
    · constructor
      · intro h3; have := h3.length_le; simp at this; omega
      · intro h3; have := h3.length_le; simp at this; omega
  · rw [h, h1.tlt]
    refine ⟨rfl, ?_, ?_⟩
    · have : enc a ≠ enc b := by have := h1.ne [] []; simpa using this
      simp [this]
    · refine ⟨fun h3 => ?_, fun h3 => absurd h3 h2⟩
      obtain ⟨t, ht⟩ := h3
      exact absurd (by simpa using ht) (h1.ne t [])
  · rw [h, tlt_asymm h1.tlt]
    refine ⟨rfl, ?_, ?_⟩
    · have : enc a ≠ enc b := by have := h1.ne [] []; simp at this; exact fun h => this h.symm
      simp [this]
    · refine ⟨fun h3 => ?_, fun h3 => absurd h3 h2⟩
      obtain ⟨t, ht⟩ := h3
      exact absurd (by simpa using ht.symm) (h1.ne [] t)
end Tu
end Go.Proofs.YtepgmebklhemgaaGreatDoor
/- Keys made of parts, in plain Lean: which bytes are a part, which are a key. No program is in sight. -/
set_option linter.unusedVariables false
set_option linter.unusedSimpArgs false
namespace Go.Proofs.YtepgmebklhemgaaGreatDoor
namespace Tu
/-- A text as it is written, up to its end; what follows. -/
def unesc : List UInt8 → Option (List UInt8 × List UInt8)
  | [] => none
  | [_] => none
  | c :: d :: r => if c = 0 then (if d = 1 then some ([], r) else if d = 255 then (unesc r).map (fun x => (0 :: x.1, x.2)) else none) else (unesc (d :: r)).map (fun x => (c :: x.1, x.2))
theorem esc_cons (c : UInt8) (l : List UInt8) : esc (c :: l) = (if c = 0 then [0, 255] else [c]) ++ esc l := by simp [esc]
theorem unesc_esc (t r : List UInt8) : unesc (esc t ++ 0 :: 1 :: r) = some (t, r) := by
  induction t with
  | nil => simp [esc, unesc]
  | cons c t ih =>
    rw [esc_cons]
    by_cases hc : c = 0
    · subst hc
      simp only [if_true, List.cons_append, List.nil_append]
      rw [unesc]
      simp [ih]
    · rw [if_neg hc]
      simp only [List.cons_append, List.nil_append]
      cases he : esc t ++ 0 :: 1 :: r with
      | nil => simp at he
      | cons x y =>
        rw [unesc, if_neg hc, ← he, ih]
        rfl
theorem unesc_some (s t r : List UInt8) (h : unesc s = some (t, r)) : s = esc t ++ 0 :: 1 :: r := by
  suffices H : ∀ (n : Nat) (s t r : List UInt8), s.length ≤ n → unesc s = some (t, r) → s = esc t ++ 0 :: 1 :: r from H s.length s t r (Nat.le_refl _) h
  intro n
  induction n with
  | zero => intro s t r hn h; cases s with
    | nil => simp [unesc] at h
    | cons c s => simp at hn
  | succ n ih =>
    intro s t r hn h
    cases s with
    | nil => simp [unesc] at h
    | cons c s =>
      cases s with
      | nil => simp [unesc] at h
      | cons d s =>
        simp only [List.length_cons] at hn
        rw [unesc] at h
        by_cases hc : c = 0
        · subst hc
          rw [if_pos rfl] at h
          by_cases hd : d = 1
          · subst hd
            rw [if_pos rfl] at h
            injection h with h
            injection h with h1 h2
            subst h1 h2
            simp [esc]
          · rw [if_neg hd] at h
            by_cases hd2 : d = 255
            · subst hd2
              rw [if_pos rfl] at h
              cases hu : unesc s with
              | none => rw [hu] at h; cases h
              | some x =>
                rw [hu] at h
                injection h with h
                injection h with h1 h2
                have := ih s x.1 x.2 (by omega) hu
                rw [← h1, ← h2, esc_cons, if_pos rfl, this]
                simp
            · rw [if_neg hd2] at h; cases h
        · rw [if_neg hc] at h
          cases hu : unesc (d :: s) with
          | none => rw [hu] at h; cases h
          | some x =>
            rw [hu] at h
            injection h with h
            injection h with h1 h2
            have := ih (d :: s) x.1 x.2 (by simp only [List.length_cons]; omega) hu
            rw [← h1, ← h2, esc_cons, if_neg hc, this]
            simp
theorem unesc_pass (u s : List UInt8) (hu : ∀ c ∈ u, c ≠ 0) (hs : s ≠ []) : unesc (u ++ s) = (unesc s).map (fun x => (u ++ x.1, x.2)) := by
  induction u with
  | nil => rw [List.nil_append]; cases unesc s <;> rfl
  | cons c u ih =>
    have hc := hu c (by simp)
    cases he : u ++ s with
    | nil => simp at he; exact absurd he.2 hs
    | cons x y =>
      rw [List.cons_append, he, unesc, if_neg hc, ← he, ih fun c h => hu c (by simp [h])]
      cases unesc s <;> rfl
theorem unesc_none (s : List UInt8) (h : ∀ c ∈ s, c ≠ 0) : unesc s = none := by
  cases hu : unesc s with
  | none => rfl
  | some x =>
    have := unesc_some s x.1 x.2 hu
    exact absurd rfl (h 0 (by rw [this]; simp))
/-- The part at the head; what follows. -/
def take : List UInt8 → Option (Part × List UInt8)
  | [] => none
  | c :: s => if c = 32 then (unesc s).map (fun x => (⟨x.1, 0, true⟩, x.2))
    else if 16 ≤ c.toNat ∧ c.toNat ≤ 24 ∧ c.toNat - 16 ≤ s.length ∧ ¬ s.take (min (c.toNat - 16) 1) = [0] then some (⟨[], val (s.take (c.toNat - 16)), false⟩, s.drop (c.toNat - 16)) else none
theorem take_one {p : Part} (hp : ok p) (r : List UInt8) : take (one p ++ r) = some (p, r) := by
  unfold one
  cases ht : p.isText with
  | true =>
    rw [if_pos rfl]
    simp only [List.cons_append, List.append_assoc, List.nil_append]
    rw [take, if_pos rfl, unesc_esc]
    have := ok_text hp ht
    simp only [Option.map_some, Option.some.injEq, Prod.mk.injEq, and_true]
    exact Part.ext' rfl this.symm ht.symm
  | false =>
    rw [if_neg (by simp)]
    have h8 := digs_len8 hp.2
    obtain ⟨d, hd⟩ : ∃ d, d = digs p.num := ⟨_, rfl⟩
    have hv : val d = p.num := by rw [hd, val_digs]
    have hh := digs_head p.num
    rw [← hd] at h8 hh ⊢
    have hc : (UInt8.ofNat (16 + d.length)).toNat = 16 + d.length := by simp; omega
    have h32 : UInt8.ofNat (16 + d.length) ≠ 32 := by
      intro he
      rw [he] at hc
      have : (32 : UInt8).toNat = 32 := rfl
      omega
    have e1 : (d ++ r).take d.length = d := by simp
    have e2 : (d ++ r).drop d.length = r := by simp
    rw [List.cons_append, take, if_neg h32, hc, Nat.add_sub_cancel_left, if_pos, e1, e2, hv]
    · simp only [Option.some.injEq, Prod.mk.injEq, and_true]
      exact Part.ext' (ok_num hp ht).symm rfl ht.symm
    · refine ⟨by omega, by omega, by simp, ?_⟩
      cases d with
      | nil => simp
      | cons x y =>
        have := hh x y rfl
        simp
        exact this
theorem take_some {s r : List UInt8} {p : Part} (h : take s = some (p, r)) : ok p ∧ s = one p ++ r := by
  cases s with
  | nil => simp [take] at h
  | cons c s =>
    rw [take] at h
    by_cases hc : c = 32
    · subst hc
      rw [if_pos rfl] at h
      cases hu : unesc s with
      | none => rw [hu] at h; cases h
      | some x =>
        rw [hu] at h
        injection h with h
        injection h with h1 h2
        subst h1 h2
        refine ⟨⟨by simp [may], by simp⟩, ?_⟩
        rw [unesc_some s x.1 x.2 hu]
        simp [one]
    · rw [if_neg hc] at h
      split at h
      · rename_i h1
        injection h with h
        injection h with h2 h3
        subst h2 h3
        obtain ⟨a, b, d, e⟩ := h1
        have hl : (s.take (c.toNat - 16)).length = c.toNat - 16 := by rw [List.length_take]; omega
        have hd : digs (val (s.take (c.toNat - 16))) = s.take (c.toNat - 16) := by
          refine digs_val _ fun x y he hx => e ?_
          subst hx
          have h1 : 1 ≤ c.toNat - 16 := by
            have := congrArg List.length he
            rw [hl] at this
            simp at this
            omega
          rw [Nat.min_eq_right h1]
          have h2 : s.take 1 = (s.take (c.toNat - 16)).take 1 := by rw [List.take_take, Nat.min_eq_left h1]
          rw [h2, he]
          rfl
        refine ⟨⟨by simp [may], val_lt8 (by rw [hl]; omega)⟩, ?_⟩
        unfold one
        simp only [Bool.false_eq_true, if_false]
        rw [hd, hl, List.cons_append, List.take_append_drop]
        congr 1
        apply UInt8.toNat_inj.1
        simp
        omega
      · cases h
theorem take_none {s : List UInt8} (h : take s = none) : ∀ p r, ok p → s ≠ one p ++ r := by
  rintro p r hp rfl
  rw [take_one hp] at h
  cases h
/-- Parts, of which these bytes are the key. -/
def Key (s : List UInt8) (l : List Part) : Prop := (∀ p ∈ l, ok p) ∧ l.length ≤ 8 ∧ enc l = s
theorem Key.one {s : List UInt8} {l m : List Part} (h : Key s l) (k : Key s m) : l = m := enc_inj h.1 k.1 (h.2.2.trans k.2.2.symm)
/-- Parts have been read; there is no further one: no key. -/
theorem no_key {l : List Part} (hl : ∀ p ∈ l, ok p) {s : List UInt8} (hs : s ≠ []) (hn : take s = none ∨ 8 ≤ l.length) : ∀ m, ¬ Key (enc l ++ s) m := by
  rintro m ⟨h1, h2, h3⟩
  rcases tri h1 hl with ⟨rfl, _⟩ | ⟨_, c, r, rfl⟩ | ⟨_, c, r, rfl⟩ | ⟨_, h4, _⟩ | ⟨_, h4, _⟩
  · have := congrArg List.length h3
    simp at this
    exact hs this
  · obtain ⟨x, y, hx⟩ := enc_ext m c r
    rw [hx] at h3
    have := congrArg List.length h3
    simp at this
  · rw [enc_append, enc_cons] at h3
    have h4 := List.append_cancel_left h3
    rcases hn with hn | hn
    · exact take_none hn c (enc r) (h1 c (by simp)) h4.symm
    · simp at h2; omega
  · exact h4.ne [] s (by simpa using h3)
  · exact h4.ne s [] (by simpa using h3.symm)
end Tu
end Go.Proofs.YtepgmebklhemgaaGreatDoor
/- strings.Builder beside other memory: its methods' contracts. -/
set_option linter.unusedVariables false
set_option linter.unusedSimpArgs false
namespace Go.Proofs.YtepgmebklhemgaaGreatDoor
open Go.RowKit Wd
/-- A builder at g: what it holds. -/
def BB (w0 w : World) (M : Mem) (g : Nat) (l : List UInt8) (L : List Ent) : Prop :=
  ∃ a v, (a = .pointer none ∨ a = .pointer (some ⟨g, 0, none⟩)) ∧ St w0 w M (eb g 158 [a, v] :: er 5 1 v l.length (bv l) :: L)
section
variable {w0 w : World} {M : Mem} {L : List Ent} {g : Nat} {l : List UInt8}
theorem BB.rest (H : BB w0 w M g l L) : St w0 w M L := by
  obtain ⟨a, v, _, H⟩ := H
  exact H.d0.d0
theorem BB.drew (H : BB w0 w M g l L) : BB w0 w.drew M g l L := by
  obtain ⟨a, v, h, H⟩ := H
  exact ⟨a, v, h, H.drew⟩
theorem BB.drewN (H : BB w0 w M g l L) (n : Nat) : BB w0 (w.drewN n) M g l L := by
  obtain ⟨a, v, h, H⟩ := H
  exact ⟨a, v, h, H.drewN n⟩
theorem BB.belowK {w' : World} (H : BB w0 w M g l L) (k : Below w.heap.size w w') : BB w0 w' M g l L := by
  obtain ⟨a, v, h, H⟩ := H
  exact ⟨a, v, h, H.belowK k⟩
theorem BB.new (H : St w0 w M L) : BB w0 (w.alloc (.cells #[.pointer none, .slice none 0 0] 158)) M w.heap.size [] L :=
  ⟨_, _, .inl rfl, ((H.addNil 5 1).new [.pointer none, .slice none 0 0] 158)⟩
/-- Other entries aside: a builder beside all. -/
theorem BB.out (H : BB w0 w M g l L) : ∃ Z : List Ent, St w0 w M Z ∧ (∀ w' M', St w0 w' M' Z → BB w0 w' M' g l L) ∧ (∀ w' M' e', St w0 w' M' (e' :: Z) → BB w0 w' M' g l (e' :: L)) ∧ ∀ A k, Sr w0 M L A k → Sr w0 M Z A k := by
  obtain ⟨a, v, h, H⟩ := H
  exact ⟨_, H, fun w' M' h' => ⟨a, v, h, h'⟩, fun w' M' e' h' => ⟨a, v, h, h'.b2⟩, fun A k hs w' M' hM h' => hs w' M' hM h'.d0.d0⟩
theorem BB.drop {e : Ent} (H : BB w0 w M g l (e :: L)) : BB w0 w M g l L := by
  obtain ⟨a, v, h, H⟩ := H
  exact ⟨a, v, h, H.sub (.cons_cons _ (.cons_cons _ (List.sublist_cons_self _ _)))⟩
theorem Tryz.sizeBuilder : (Tryz.prog.info? 158).map (·.size) = some 2 := by kernel_rfl
theorem Tryz.liesBuilder : liesAt Tryz.prog Tryz.prog.depth 158 (2 / Tryz.prog.cellsOf 158) 0 158 1 = true := by kernel_rfl
set_option maxRecDepth 100000 in
theorem cc_any {a v : Value} (ha : a = .pointer none ∨ a = .pointer (some ⟨g, 0, none⟩)) (H : St w0 w M (eb g 158 [a, v] :: L)) :
    Calls Tryz.prog 139 #[.pointer (some ⟨g, 0, none⟩)] w fun e w' => e = .returned (.tuple #[]) ∧ St w0 w' M (eb g 158 [.pointer (some ⟨g, 0, none⟩), v] :: L) := by
  obtain ⟨j, hj, hjs⟩ := Option.map_eq_some_iff.1 Tryz.sizeBuilder
  have c0 := H.cell 0 rfl 0
  have f0 := H.frozen 0 rfl 0
  have HS := H.set 0 (.pointer (some ⟨g, 0, none⟩))
  have hsh : w.shape? g = some (158, 2) := by
    have := H.blk 0 rfl
    unfold Blk at this
    simp [World.shape?, this]
  rcases ha with rfl | rfl
  · go_enter Tryz.func139, Tryz.ntmps139
    go_wp2
    rw [Lib.run_to_unsafe w ⟨g, 0, none⟩ Tryz.underlying156 Tryz.underlying220 hj (by rw [hjs]; decide) hsh (Nat.zero_lt_succ 1)]
    simp only [Result.andThen]
    rw [Oper.upon_value]
    go_wp2
    rw [run_callFunc_extern Tryz.func150 (by kernel_rfl) (by kernel_rfl) (by kernel_rfl) (e := Extern.AbiNoEscape.same) (by kernel_rfl)]
    rw [Lib.run_noEscape]
    simp only [Result.andThen]
    rw [Oper.upon_value]
    go_wp2
    rw [Lib.run_from_unsafe w ⟨g, 0, none⟩ Tryz.underlying220 Tryz.underlying156 hj hsh Tryz.liesBuilder]
    simp only [Result.andThen]
    rw [Oper.upon_value]
    go_wp2
    go_end0
    exact ⟨rfl, HS⟩
  · go_enter Tryz.func139, Tryz.ntmps139
    go_wp2
    rw [Lib.run_neq_ptr_same w _ Tryz.underlying156 hj]
    go_wp2
    go_end0
    exact ⟨rfl, H⟩
set_option maxRecDepth 100000 in
theorem wbyte_any (H : BB w0 w M g l L) (c : UInt8) (hl : l.length ≤ 140737488355000) :
    Calls Tryz.prog 114 #[.pointer (some ⟨g, 0, none⟩), .int .u8 (c.toNat : Int)] w fun e w' => (∃ v, e = .returned v) ∧ BB w0 w' M g (l ++ [c]) L := by
  obtain ⟨a, v, ha, H⟩ := H
  have hcc := cc_any ha H
  have HCC := Lib.hid hcc
  clear hcc H
  go_enter Tryz.func114, Tryz.ntmps114
  go_wp2_with fail
  refine HCC.out.mono ?_
  rintro e w1 ⟨rfl, H1⟩
  obtain ⟨A1, c1, rfl, hc1⟩ := H1.shape 1 rfl
  have e1 := H1.cell 0 rfl 1
  go_wp2_with (at_builtin; refine wpList_append1_st H1.f1 (by rfl) (.tmp 11) (.tmp 13) 30 (by rfl) Tryz.info5 (by rfl) Tryz.underlying30 (by rfl) (by rfl) (by rfl) (by omega) (by omega) ?_)
  intro v2 w2 H2
  obtain ⟨A2, c2, rfl, hc2⟩ := H2.shape 0 rfl
  have f1 := H2.frozen 1 rfl 1
  have x1 := H2.cell 1 rfl 1
  have H3 := H2.f1.set 1 (.slice A2 (l.length + 1) c2)
  go_wp2
  go_ret
  refine ⟨⟨_, rfl⟩, .pointer (some ⟨g, 0, none⟩), .slice A2 (l.length + 1) c2, .inr rfl, ?_⟩
  rw [List.length_append, bv_append]
  exact H3
set_option maxRecDepth 100000 in
theorem wstr_any (H : BB w0 w M g l L) (s : List UInt8) (hl : l.length + s.length ≤ 140737488355000) :
    Calls Tryz.prog 115 #[.pointer (some ⟨g, 0, none⟩), .string ⟨s.toArray⟩] w fun e w' => (∃ v, e = .returned v) ∧ BB w0 w' M g (l ++ s) L := by
  obtain ⟨a, v, ha, H⟩ := H
  have hcc := cc_any ha H
  have HCC := Lib.hid hcc
  clear hcc H
  go_enter Tryz.func115, Tryz.ntmps115
  go_wp2_with fail
  refine HCC.out.mono ?_
  rintro e w1 ⟨rfl, H1⟩
  obtain ⟨A1, c1, rfl, hc1⟩ := H1.shape 1 rfl
  have e1 := H1.cell 0 rfl 1
  go_wp2_with (at_builtin; refine wpList_append_str_st H1.f1 (by rfl) (.tmp 12) (.tmp 13) 30 9 (by rfl) Tryz.info5 Tryz.underlying30 Tryz.underlying9 (by rfl) s (by rfl) (by omega) ?_)
  intro v2 w2 H2
  obtain ⟨A2, c2, rfl, hc2⟩ := H2.shape 0 rfl
  have f1 := H2.frozen 1 rfl 1
  have x1 := H2.cell 1 rfl 1
  have H3 := H2.f1.set 1 (.slice A2 (l.length + s.length) c2)
  go_wp2
  go_ret2
  refine ⟨⟨_, rfl⟩, .pointer (some ⟨g, 0, none⟩), .slice A2 (l.length + s.length) c2, .inr rfl, ?_⟩
  rw [List.length_append, bv_append]
  exact H3
set_option maxRecDepth 100000 in
theorem blen_any (H : BB w0 w M g l L) :
    Calls Tryz.prog 88 #[.pointer (some ⟨g, 0, none⟩)] w fun e w' => e = .returned (.int .i64 (l.length : Int)) ∧ w = w' := by
  obtain ⟨a, v, ha, H⟩ := H
  obtain ⟨A1, c1, rfl, hc1⟩ := H.shape 1 rfl
  have e1 := H.cell 0 rfl 1
  go_enter Tryz.func88, Tryz.ntmps88
  go_wp2
  go_ret
  exact ⟨rfl, rfl⟩
theorem keeps_freeze (w : World) (g n : Nat) : Keeps w (w.freeze ⟨g, 0, none⟩ n) (· = g) := by
  unfold World.freeze
  split
  · exact Keeps.refl w _
  · exact ⟨rfl, rfl, rfl, by simp, fun k hk hn => by
      simp only [Array.getElem?_modify]
      rw [if_neg (fun h => hn h.symm)]⟩
theorem Tryz.cellsByte : Tryz.prog.cellsOf 5 = 1 := by kernel_rfl
set_option maxRecDepth 100000 in
theorem bstr_any (H : BB w0 w M g l L) :
    Calls Tryz.prog 89 #[.pointer (some ⟨g, 0, none⟩)] w fun e w' => e = .returned (.string ⟨l.toArray⟩) ∧ St w0 w' M L := by
  obtain ⟨a, v, ha, H⟩ := H
  have c1 := H.drew.cell 0 rfl 1
  have hown := H.own 1 rfl
  have hd0 := H.drew.d0
  have hd2 := H.drew.d0.d0
  by_cases h0 : l = []
  · subst h0
    have hUS : ∀ (W : World) (q : Option Addr), (Builtin.unsafeString_ #[194, 3] 9 #[.pointer q, .int .i64 0]).run Tryz.prog W = .ok (.string .empty) W := fun W q => Lib.run_unsafeString_none W _ _ _ q
    rcases hown.2 with ⟨rfl, _⟩ | ⟨b, cap, cur, rfl, _, hb, _, _, _, _⟩
    · have hSD : (Builtin.unsafeSliceData_ #[30] 194 #[.slice none 0 0]).run Tryz.prog w.drew = .ok (.pointer none) w.drew := rfl
      go_enter Tryz.func89, Tryz.ntmps89
      go_wp2
      go_region
      all_goals (go_wp2; go_ret; exact ⟨rfl, hd2⟩)
    · by_cases hc : cap = 0
      · subst hc
        have hSD : (Builtin.unsafeSliceData_ #[30] 194 #[.slice (some ⟨b, 0, none⟩) 0 0]).run Tryz.prog w.drew = .ok (.pointer (some ⟨w.drew.heap.size, 0, none⟩)) (w.drew.alloc (.view ⟨b, 0, none⟩ 5)) :=
          Lib.run_unsafeSliceData_zero w.drew _ _ 5 Tryz.underlying194 ⟨b, 0, none⟩ 0 (5, cur.size) (by have hg' : w.drew.heap[b]? = some (.cells cur 5 (0, 0)) := hb; simp [World.shape?, hg'])
        have hA := H.drew.alloc (.view ⟨b, 0, none⟩ 5)
        have c2 := hA.cell 0 rfl 1
        have c3 : (w.alloc (.view ⟨b, 0, none⟩ 5)).drew.cell? ⟨g, 1, none⟩ = some (.slice (some ⟨b, 0, none⟩) 0 0) := c2
        have c0 := H.cell 0 rfl 1
        have hd := hA.d0.d0
        go_enter Tryz.func89, Tryz.ntmps89
        go_wp2
        go_region
        all_goals (go_wp2; go_ret; exact ⟨rfl, hd⟩)
      · have hSD : (Builtin.unsafeSliceData_ #[30] 194 #[.slice (some ⟨b, 0, none⟩) 0 cap]).run Tryz.prog w.drew = .ok (.pointer (some ⟨b, 0, none⟩)) w.drew := Lib.run_unsafeSliceData_row _ _ _ _ _ _ hc
        go_enter Tryz.func89, Tryz.ntmps89
        go_wp2
        go_region
        all_goals (go_wp2; go_ret; exact ⟨rfl, hd2⟩)
  · have hl0 : l.length ≠ 0 := by simpa using h0
    obtain ⟨b, cap, cur, rfl, hbb, hb, hnc, hcm, hcs, htake⟩ : ∃ b cap cur, v = .slice (some ⟨b, 0, none⟩) l.length cap ∧ w0.heap.size ≤ b ∧ w.heap[b]? = some (.cells cur 5 (0, 0)) ∧ l.length ≤ cap ∧ cap ≤ maxLen ∧ cur.size = cap * 1 ∧ cur.toList.take (l.length * 1) = bv l := by
      rcases hown.2 with ⟨_, hz⟩ | ⟨b, cap, cur, hv, r⟩
      · exact absurd hz hl0
      · exact ⟨b, cap, cur, hv, r⟩
    have hSD : (Builtin.unsafeSliceData_ #[30] 194 #[.slice (some ⟨b, 0, none⟩) l.length cap]).run Tryz.prog w.drew = .ok (.pointer (some ⟨b, 0, none⟩)) w.drew := Lib.run_unsafeSliceData_row _ _ _ _ _ _ (by omega)
    have hUS : (Builtin.unsafeString_ #[194, 3] 9 #[.pointer (some ⟨b, 0, none⟩), .int .i64 l.length]).run Tryz.prog w.drew = .ok (.string ⟨l.toArray⟩) (w.drew.freeze ⟨b, 0, none⟩ l.length) := by
      refine Lib.run_unsafeString_row w.drew 194 3 9 5 Tryz.underlying194 Tryz.cellsByte b cur.size (by have hg' : w.drew.heap[b]? = some (.cells cur 5 (0, 0)) := hb; simp [World.shape?, hg']) l h0 (by omega) (by unfold maxLen at hcm; omega) ?_
      intro j x hx
      have := hown.cells (g := b) rfl j (.int .u8 x.toNat) (by rw [bv_get, hx]; rfl)
      exact this
    have hkeep : St w0 (w.drew.freeze ⟨b, 0, none⟩ l.length) M L :=
      hd2.keep (keeps_freeze w.drew b l.length) (fun e he j hj hjb => by
        subst hjb
        exact (List.pairwise_cons.1 hd0.apart).1 e he j rfl hj) (fun j hj => by
        subst hj
        exact (Ent.holds_lt (hd0.get 0 rfl) rfl).1)
    clear hown hb hcs htake hbb
    go_enter Tryz.func89, Tryz.ntmps89
    go_wp2
    go_region
    all_goals (go_wp2; go_ret; exact ⟨rfl, hkeep⟩)
end
end Go.Proofs.YtepgmebklhemgaaGreatDoor
