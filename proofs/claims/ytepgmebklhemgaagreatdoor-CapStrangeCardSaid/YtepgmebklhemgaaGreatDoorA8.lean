/- Batches in plain Lean: their bytes, why they may not be, how they are read strictly and loosely. No program is in sight. -/
import Derived.Test.YtepgmebklhemgaaGreatDoorA1
import Derived.Deep.MidRow
import Derived.Tactics
import Derived.Test.YtepgmebklhemgaaGreatDoorA6
import Derived.Test.YtepgmebklhemgaaGreatDoorA3
import Derived.Laws.BitsAllLaws
set_option linter.unusedVariables false
set_option linter.unusedSimpArgs false
namespace Go.Proofs.YtepgmebklhemgaaGreatDoor
open Go.RowKit Wd
namespace Kv
structure Act where
  key : List UInt8
  set : Bool
  data : List UInt8
theorem Act.ext' {a b : Act} (h1 : a.key = b.key) (h2 : a.set = b.set) (h3 : a.data = b.data) : a = b := by
  cases a; cases b; simp_all
def be2 (n : Nat) : List UInt8 := [UInt8.ofNat (n / 256), UInt8.ofNat n]
def one (a : Act) : List UInt8 := (if a.set then 1 else 0) :: (be2 a.key.length ++ a.key ++ (if a.set then be2 a.data.length ++ a.data else []))
def all (l : List Act) : List UInt8 := l.flatMap one
def bytes (l : List Act) : List UInt8 := UInt8.ofNat l.length :: all l
def bad (a : Act) : Bool := a.key.isEmpty || (!a.set && !a.data.isEmpty)
def long (a : Act) : Bool := decide (1024 < a.key.length) || decide (60000 < a.data.length)
def check (l : List Act) : Int := if l.any bad then 1 else if decide (255 < l.length) || l.any long || decide (65535 < (bytes l).length) then 3 else 0
theorem be2_len (n : Nat) : (be2 n).length = 2 := rfl
theorem one_len (a : Act) : (one a).length = 3 + a.key.length + (if a.set then 2 + a.data.length else 0) := by
  unfold one
  split <;> simp [be2_len] <;> omega
/-- Bytes with how many there are. -/
def take2 : List UInt8 → Option (List UInt8 × List UInt8)
  | a :: b :: r => if r.length < a.toNat * 256 + b.toNat then none else some (r.take (a.toNat * 256 + b.toNat), r.drop (a.toNat * 256 + b.toNat))
  | _ => none
theorem take2_eq {r k t : List UInt8} (h : take2 r = some (k, t)) : r = be2 k.length ++ k ++ t ∧ k.length < 65536 := by
  match r, h with
  | [], h => cases h
  | [_], h => cases h
  | a :: b :: r, h =>
    have ha := a.toNat_lt
    have hb := b.toNat_lt
    rw [take2] at h
    split at h
    · cases h
    · injection h with h
      injection h with h1 h2
      have hl : k.length = a.toNat * 256 + b.toNat := by rw [← h1, List.length_take]; omega
      refine ⟨?_, by omega⟩
      have e1 : UInt8.ofNat (k.length / 256) = a := by rw [hl, show (a.toNat * 256 + b.toNat) / 256 = a.toNat from by omega]; simp
      have e2 : UInt8.ofNat k.length = b := by
        apply UInt8.toNat_inj.1
        rw [UInt8.toNat_ofNat', hl]
        omega
      unfold be2
      rw [e1, e2]
      have : r = k ++ t := by rw [← h1, ← h2, List.take_append_drop]
      rw [this]
      rfl
theorem take2_be {k : List UInt8} (t : List UInt8) (h : k.length < 65536) : take2 (be2 k.length ++ k ++ t) = some (k, t) := by
  unfold be2
  show take2 (UInt8.ofNat (k.length / 256) :: UInt8.ofNat k.length :: (k ++ t)) = _
  rw [take2]
  have e : (UInt8.ofNat (k.length / 256)).toNat * 256 + (UInt8.ofNat k.length).toNat = k.length := by
    rw [UInt8.toNat_ofNat', UInt8.toNat_ofNat']
    omega
  rw [e, if_neg (by simp), List.take_left, List.drop_left]
theorem take2_len {r k t : List UInt8} (h : take2 r = some (k, t)) : r.length = 2 + k.length + t.length := by
  rw [(take2_eq h).1]
  simp [be2_len]
  omega
/-- An act, its tag nought or one (strict), or whatever. -/
def rd1 (s : Bool) : List UInt8 → Option (Act × List UInt8)
  | [] => none
  | t :: r => if s && decide (1 < t.toNat) then none else
    match take2 r with
    | none => none
    | some (k, r1) => if t = 1 then (match take2 r1 with
      | none => none
      | some (d, r2) => some (⟨k, true, d⟩, r2)) else some (⟨k, false, []⟩, r1)
def rd (s : Bool) : Nat → List UInt8 → Option (List Act × List UInt8)
  | 0, r => some ([], r)
  | n + 1, r => match rd1 s r with
    | none => none
    | some (a, r1) => match rd s n r1 with
      | none => none
      | some (l, r2) => some (a :: l, r2)
/-- What can be written so that it is read. -/
def fine (a : Act) : Prop := a.key.length < 65536 ∧ a.data.length < 65536 ∧ (a.set = false → a.data = [])
theorem rd1_loose {s : Bool} {r t : List UInt8} {a : Act} (h : rd1 s r = some (a, t)) : fine a ∧ r.length = (one a).length + t.length ∧ (s = true → r = one a ++ t) := by
  cases r with
  | nil => cases h
  | cons c r =>
    rw [rd1] at h
    split at h
    · cases h
    · rename_i hs
      cases h1 : take2 r with
      | none => rw [h1] at h; cases h
      | some p =>
        obtain ⟨k, r1⟩ := p
        rw [h1] at h
        simp only at h
        obtain ⟨e1, l1⟩ := take2_eq h1
        by_cases hc : c = 1
        · rw [if_pos hc] at h
          cases h2 : take2 r1 with
          | none => rw [h2] at h; cases h
          | some p =>
            obtain ⟨d, r2⟩ := p
            rw [h2] at h
            simp only at h
            injection h with h
            injection h with h3 h4
            subst h3 h4 hc
            obtain ⟨e2, l2⟩ := take2_eq h2
            refine ⟨⟨l1, l2, fun h => by cases h⟩, ?_, fun _ => ?_⟩
            · rw [one_len, List.length_cons, take2_len h1, take2_len h2]
              simp
              omega
            · rw [e1, e2]
              simp [one]
        · rw [if_neg hc] at h
          injection h with h
          injection h with h3 h4
          subst h3 h4
          refine ⟨⟨l1, by simp, fun _ => rfl⟩, ?_, fun hs' => ?_⟩
          · rw [one_len, List.length_cons, take2_len h1]
            simp
            omega
          · have h0 : c = 0 := by
              have : ¬ 1 < c.toNat := by simpa [hs'] using hs
              have h2 : c.toNat ≠ 1 := fun h => hc (UInt8.toNat_inj.1 h)
              apply UInt8.toNat_inj.1
              show c.toNat = 0
              omega
            rw [e1, h0]
            simp [one]
theorem rd1_one {s : Bool} {a : Act} (h : fine a) (t : List UInt8) : rd1 s (one a ++ t) = some (a, t) := by
  obtain ⟨h1, h2, h3⟩ := h
  obtain ⟨k, b, d⟩ := a
  cases b with
  | true =>
    have e : one ⟨k, true, d⟩ ++ t = 1 :: (be2 k.length ++ k ++ (be2 d.length ++ d ++ t)) := by simp [one]
    rw [e]
    rw [rd1]
    rw [if_neg (by simp), take2_be _ h1]
    simp only [if_true]
    rw [take2_be _ h2]
  | false =>
    have hd : d = [] := h3 rfl
    subst hd
    have e : one ⟨k, false, []⟩ ++ t = 0 :: (be2 k.length ++ k ++ t) := by simp [one]
    rw [e]
    rw [rd1]
    rw [if_neg (by simp), take2_be _ h1]
    simp
theorem rd_loose {s : Bool} : ∀ (n : Nat) {r t : List UInt8} {l : List Act}, rd s n r = some (l, t) → (∀ a ∈ l, fine a) ∧ l.length = n ∧ r.length = (all l).length + t.length ∧ (s = true → r = all l ++ t)
  | 0, r, t, l, h => by
    simp only [rd, Option.some.injEq, Prod.mk.injEq] at h
    obtain ⟨rfl, rfl⟩ := h
    simp [all]
  | n + 1, r, t, l, h => by
    simp only [rd] at h
    cases h1 : rd1 s r with
    | none => rw [h1] at h; cases h
    | some p =>
      obtain ⟨a, r1⟩ := p
      rw [h1] at h
      simp only at h
      cases h2 : rd s n r1 with
      | none => rw [h2] at h; cases h
      | some p =>
        obtain ⟨l', r2⟩ := p
        rw [h2] at h
        simp only at h
        injection h with h
        injection h with h3 h4
        subst h3 h4
        obtain ⟨a1, a2, a3⟩ := rd1_loose h1
        obtain ⟨b1, b2, b3, b4⟩ := rd_loose n h2
        refine ⟨?_, by rw [List.length_cons, b2], ?_, fun hs => ?_⟩
        · intro x hx
          rcases List.mem_cons.1 hx with rfl | hx
          · exact a1
          · exact b1 x hx
        · rw [a2, b3]
          simp [all]
          omega
        · rw [a3 hs, b4 hs]
          simp [all]
theorem rd_all {s : Bool} : ∀ (l : List Act) (t : List UInt8), (∀ a ∈ l, fine a) → rd s l.length (all l ++ t) = some (l, t)
  | [], t, _ => rfl
  | a :: l, t, h => by
    have e : all (a :: l) ++ t = one a ++ (all l ++ t) := by simp [all]
    rw [e, List.length_cons]
    simp only [rd]
    rw [rd1_one (h a (by simp))]
    simp only
    rw [rd_all l t fun x hx => h x (by simp [hx])]
/-- THE BATCH OF A RECORD. -/
def decode : List UInt8 → Option (List Act)
  | [] => none
  | c :: r => match rd true c.toNat r with
    | some (l, []) => if check l = 0 then some l else none
    | _ => none
/-- The document's way: read loosely, then written again. -/
def rdecode : List UInt8 → Option (List Act)
  | [] => none
  | c :: r => match rd false c.toNat r with
    | some (l, _) => if check l = 0 ∧ bytes l = c :: r then some l else none
    | none => none
theorem rdecode_eq (b : List UInt8) : rdecode b = decode b := by
  cases b with
  | nil => rfl
  | cons c r =>
    rw [rdecode, decode]
    have back : ∀ {l : List Act}, rd true c.toNat r = some (l, []) → rd false c.toNat r = some (l, []) ∧ bytes l = c :: r := fun {l} h => by
      obtain ⟨h1, h2, _, h3⟩ := rd_loose _ h
      have h4 := h3 rfl
      rw [List.append_nil] at h4
      have h5 := rd_all (s := false) l [] h1
      rw [h2, List.append_nil, ← h4] at h5
      refine ⟨h5, ?_⟩
      unfold bytes
      rw [h2, ← h4]
      simp
    cases h : rd false c.toNat r with
    | none =>
      cases h2 : rd true c.toNat r with
      | none => rfl
      | some p =>
        obtain ⟨l, t⟩ := p
        obtain ⟨h1, h3, _, h4⟩ := rd_loose _ h2
        have h5 := rd_all (s := false) l t h1
        rw [h3, ← h4 rfl, h] at h5
        cases h5
    | some p =>
      obtain ⟨l, t⟩ := p
      simp only
      obtain ⟨h1, h3, h4, _⟩ := rd_loose _ h
      by_cases hb : bytes l = c :: r
      · have e : all l = r := by
          unfold bytes at hb
          injection hb
        have h5 := rd_all (s := true) l [] h1
        rw [h3, List.append_nil, e] at h5
        rw [h5]
        simp [hb]
      · rw [if_neg (fun h => hb h.2)]
        cases h2 : rd true c.toNat r with
        | none => rfl
        | some p =>
          obtain ⟨l', t'⟩ := p
          cases t' with
          | cons => rfl
          | nil =>
            obtain ⟨h6, h7⟩ := back h2
            rw [h] at h6
            injection h6 with h6
            injection h6 with h6 _
            subst h6
            exact absurd h7 hb
theorem check_zero {l : List Act} (h : check l = 0) : l.any bad = false ∧ l.length ≤ 255 ∧ l.any long = false ∧ (bytes l).length ≤ 65535 := by
  unfold check at h
  split at h
  · cases h
  · rename_i h1
    split at h
    · cases h
    · rename_i h2
      simp only [Bool.or_eq_true, decide_eq_true_eq, not_or] at h2
      refine ⟨by simpa using h1, by omega, by simpa using h2.1.2, by omega⟩
theorem check_fine {l : List Act} (h : check l = 0) : ∀ a ∈ l, fine a := by
  obtain ⟨h1, _, h3, _⟩ := check_zero h
  intro a ha
  have b1 : bad a = false := by
    cases hb : bad a with
    | false => rfl
    | true => rw [List.any_eq_true.2 ⟨a, ha, hb⟩] at h1; cases h1
  have b2 : long a = false := by
    cases hb : long a with
    | false => rfl
    | true => rw [List.any_eq_true.2 ⟨a, ha, hb⟩] at h3; cases h3
  unfold long at b2
  unfold bad at b1
  simp only [Bool.or_eq_false_iff, decide_eq_false_iff_not] at b1 b2
  refine ⟨by omega, by omega, fun hs => ?_⟩
  have := b1.2
  rw [hs] at this
  simpa using this
theorem check_key {l : List Act} (h : check l = 0) : ∀ a ∈ l, a.key ≠ [] := by
  obtain ⟨h1, _, _, _⟩ := check_zero h
  intro a ha hk
  have : bad a = true := by unfold bad; rw [hk]; rfl
  rw [List.any_eq_true.2 ⟨a, ha, this⟩] at h1
  cases h1
/-- What is written is read back. -/
theorem decode_bytes {l : List Act} (h : check l = 0) : decode (bytes l) = some l := by
  obtain ⟨_, h2, _, _⟩ := check_zero h
  unfold bytes decode
  have e : (UInt8.ofNat l.length).toNat = l.length := by rw [UInt8.toNat_ofNat']; omega
  have h5 := rd_all (s := true) l [] (check_fine h)
  rw [List.append_nil] at h5
  simp only [e, h5, h, if_true]
theorem decode_check {b : List UInt8} {l : List Act} (h : decode b = some l) : check l = 0 ∧ b = bytes l := by
  cases b with
  | nil => cases h
  | cons c r =>
    rw [decode] at h
    split at h
    · rename_i l' h2
      split at h
      · rename_i h3
        injection h with h
        subst h
        refine ⟨h3, ?_⟩
        obtain ⟨h1, h4, _, h5⟩ := rd_loose _ h2
        have h6 := h5 rfl
        rw [List.append_nil] at h6
        unfold bytes
        rw [h4, ← h6]
        simp
      · cases h
    · cases h
end Kv
end Go.Proofs.YtepgmebklhemgaaGreatDoor
/- Keys and values in plain Lean: a list by rising key, a map's entries in whatever order; what acts make of both. No program is in sight. -/
set_option linter.unusedVariables false
set_option linter.unusedSimpArgs false
namespace Go.Proofs.YtepgmebklhemgaaGreatDoor
open Go.RowKit Wd
namespace Kv
/-! ### Texts by their bytes -/
def tlt : List UInt8 → List UInt8 → Bool
  | [], [] => false
  | [], _ :: _ => true
  | _ :: _, [] => false
  | a :: x, b :: y => if a.toNat < b.toNat then true else if b.toNat < a.toNat then false else tlt x y
theorem tlt_irrefl (x : List UInt8) : tlt x x = false := by
  induction x with
  | nil => rfl
  | cons a x ih => simp [tlt, ih]
theorem tlt_tri (x y : List UInt8) : tlt x y = true ∨ x = y ∨ tlt y x = true := by
  induction x generalizing y with
  | nil => cases y <;> simp [tlt]
  | cons a x ih =>
    cases y with
    | nil => simp [tlt]
    | cons b y =>
      rcases Nat.lt_trichotomy a.toNat b.toNat with h | h | h
      · exact .inl (by simp [tlt, h])
      · have hab : a = b := UInt8.toNat_inj.1 h
        subst hab
        rcases ih y with h1 | h1 | h1
        · exact .inl (by simp [tlt, h1])
        · exact .inr (.inl (by rw [h1]))
        · exact .inr (.inr (by simp [tlt, h1]))
      · exact .inr (.inr (by simp [tlt, h]))
theorem tlt_trans {x y z : List UInt8} (h1 : tlt x y = true) (h2 : tlt y z = true) : tlt x z = true := by
  induction x generalizing y z with
  | nil =>
    cases z with
    | nil => cases y <;> simp [tlt] at h1 h2
    | cons => rfl
  | cons a x ih =>
    cases y with
    | nil => simp [tlt] at h1
    | cons b y =>
      cases z with
      | nil => simp [tlt] at h2
      | cons c z =>
        simp only [tlt] at h1 h2 ⊢
        split at h1
        · split at h2
          · rw [if_pos (by omega)]
          · split at h2
            · cases h2
            · rw [if_pos (by omega)]
        · split at h1
          · cases h1
          · split at h2
            · rw [if_pos (by omega)]
            · split at h2
              · cases h2
              · rw [if_neg (by omega), if_neg (by omega)]
                exact ih h1 h2
theorem tlt_asymm {x y : List UInt8} (h : tlt x y = true) : tlt y x = false := by
  cases h2 : tlt y x with
  | false => rfl
  | true => have := tlt_trans h h2; rw [tlt_irrefl] at this; cases this
theorem tlt_ne {x y : List UInt8} (h : tlt x y = true) : x ≠ y := fun e => by rw [e, tlt_irrefl] at h; cases h
theorem bytesLess_tlt (x y : List UInt8) : Op.bytesLess x y = tlt x y := by
  induction x generalizing y with
  | nil => cases y <;> rfl
  | cons a x ih =>
    cases y with
    | nil => rfl
    | cons b y =>
      simp only [Op.bytesLess, tlt, ih]
      rcases Nat.lt_trichotomy a.toNat b.toNat with h | h | h
      · have h1 : a < b := UInt8.lt_iff_toNat_lt.2 h
        simp [h1, h]
      · have hab : a = b := UInt8.toNat_inj.1 h
        subst hab
        have h1 : ¬ a < a := fun h2 => by have := UInt8.lt_iff_toNat_lt.1 h2; omega
        simp [h1]
      · have h1 : ¬ a < b := fun h2 => by have := UInt8.lt_iff_toNat_lt.1 h2; omega
        have h2 : (a == b) = false := by
          simp only [beq_eq_false_iff_ne]
          rintro rfl
          omega
        have h3 : ¬ a.toNat < b.toNat := by omega
        simp [h1, h2, h3, h]
/-! ### Pairs by rising key -/
abbrev Pr := List UInt8 × List UInt8
def Sorted (l : List Pr) : Prop := l.Pairwise fun p q => tlt p.1 q.1 = true
/-- Where a key is, or would be; is it there? -/
def find (l : List Pr) (k : List UInt8) : Nat :=
  match l with
  | [] => 0
  | p :: r => if tlt p.1 k then find r k + 1 else 0
def there (l : List Pr) (k : List UInt8) : Bool :=
  match l with
  | [] => false
  | p :: r => if tlt p.1 k then there r k else p.1 == k
theorem find_le (l : List Pr) (k : List UInt8) : find l k ≤ l.length := by
  induction l with
  | nil => exact Nat.le_refl _
  | cons p r ih =>
    unfold find
    split
    · rw [List.length_cons]; omega
    · exact Nat.zero_le _
theorem find_step {l : List Pr} {k : List UInt8} : (∀ i, (h : i < l.length) → i < find l k → tlt (l[i]).1 k = true) ∧ (∀ h : find l k < l.length, tlt (l[find l k]).1 k = false) ∧ (there l k = true ↔ ∃ h : find l k < l.length, (l[find l k]).1 = k) := by
  induction l with
  | nil => exact ⟨fun i h => by simp at h, fun h => by simp at h, by simp [there]⟩
  | cons p r ih =>
    by_cases hp : tlt p.1 k = true
    · have hf : find (p :: r) k = find r k + 1 := by unfold find; rw [if_pos hp]; cases r <;> rfl
      have ht : there (p :: r) k = there r k := by rw [there, if_pos hp]
      obtain ⟨h1, h2, h3⟩ := ih
      rw [ht]
      refine ⟨fun i hi hlt => ?_, fun h => ?_, ?_⟩
      · cases i with
        | zero => exact hp
        | succ i => exact h1 i (by simpa using hi) (by omega)
      · have h' : find r k < r.length := by rw [hf, List.length_cons] at h; omega
        have := h2 h'
        simpa [hf] using this
      · rw [h3]
        constructor
        · rintro ⟨h, he⟩
          exact ⟨by rw [hf, List.length_cons]; omega, by simpa [hf] using he⟩
        · rintro ⟨h, he⟩
          exact ⟨by rw [hf, List.length_cons] at h; omega, by simpa [hf] using he⟩
    · have hf : find (p :: r) k = 0 := by rw [find, if_neg hp]
      refine ⟨fun i hi hlt => by omega, fun h => ?_, ?_⟩
      · simp only [hf, List.getElem_cons_zero]
        simpa using hp
      · rw [there, if_neg hp]
        constructor
        · intro h
          refine ⟨by rw [hf]; simp, ?_⟩
          simp only [hf, List.getElem_cons_zero]
          simpa using h
        · rintro ⟨h, he⟩
          simp only [hf, List.getElem_cons_zero] at he
          simpa using he
/-- Pairs behind an act. -/
def mid (a : Act) : List Pr := if a.set then [(a.key, a.data)] else []
def turn1 (l : List Pr) (a : Act) : List Pr := l.take (find l a.key) ++ mid a ++ l.drop (find l a.key + if there l a.key then 1 else 0)
def turn (l : List Pr) (acts : List Act) : List Pr := acts.foldl turn1 l
def ins (l : List Pr) (a : Act) : List Pr :=
  match l with
  | [] => mid a
  | p :: r => if tlt p.1 a.key then p :: ins r a else mid a ++ (if p.1 == a.key then r else p :: r)
theorem turn1_ins (l : List Pr) (a : Act) : turn1 l a = ins l a := by
  induction l with
  | nil => simp [turn1, ins, find, there]
  | cons p r ih =>
    unfold turn1 ins
    by_cases hp : tlt p.1 a.key = true
    · have hf : find (p :: r) a.key = find r a.key + 1 := by rw [find, if_pos hp]
      have ht : there (p :: r) a.key = there r a.key := by rw [there, if_pos hp]
      rw [if_pos hp, hf, ht, ← ih]
      unfold turn1
      rw [List.take_succ_cons, Nat.add_right_comm, List.drop_succ_cons]
      rfl
    · have hf : find (p :: r) a.key = 0 := by rw [find, if_neg hp]
      have ht : there (p :: r) a.key = (p.1 == a.key) := by rw [there, if_neg hp]
      rw [if_neg hp, hf, ht, List.take_zero, List.nil_append, Nat.zero_add]
      cases h : p.1 == a.key <;> simp
theorem ins_perm {l : List Pr} (h : Sorted l) (a : Act) : (ins l a).Perm (mid a ++ l.filter fun p => !(p.1 == a.key)) := by
  induction l with
  | nil => simp [ins]
  | cons p r ih =>
    obtain ⟨h1, h2⟩ := List.pairwise_cons.1 h
    unfold ins
    by_cases hp : tlt p.1 a.key = true
    · have hne : (p.1 == a.key) = false := by simpa using tlt_ne hp
      rw [if_pos hp, List.filter_cons_of_pos (by simp [hne])]
      exact ((ih h2).cons p).trans List.perm_middle.symm
    · rw [if_neg hp]
      have hr : ∀ q ∈ r, (q.1 == a.key) = false := fun q hq => by
        have h3 := h1 q hq
        simp only [beq_eq_false_iff_ne]
        intro he
        rw [he] at h3
        exact hp h3
      have hf : r.filter (fun q => !(q.1 == a.key)) = r := List.filter_eq_self.2 fun q hq => by simp [hr q hq]
      by_cases he : (p.1 == a.key) = true
      · rw [if_pos he, List.filter_cons_of_neg (by simp [he]), hf]
      · rw [if_neg he, List.filter_cons_of_pos (by simp at he ⊢; exact he), hf]
theorem mid_key {a : Act} {p : Pr} (h : p ∈ mid a) : p = (a.key, a.data) ∧ a.set = true := by
  unfold mid at h
  split at h
  · rename_i hs
    exact ⟨by simpa using h, hs⟩
  · cases h
theorem ins_mem {l : List Pr} {a : Act} {q : Pr} (h : q ∈ ins l a) : q ∈ mid a ∨ q ∈ l := by
  induction l with
  | nil => exact .inl h
  | cons p r ih =>
    unfold ins at h
    split at h
    · rcases List.mem_cons.1 h with rfl | h
      · exact .inr (by simp)
      · rcases ih h with h | h
        · exact .inl h
        · exact .inr (List.mem_cons_of_mem _ h)
    · rcases List.mem_append.1 h with h | h
      · exact .inl h
      · split at h
        · exact .inr (List.mem_cons_of_mem _ h)
        · exact .inr h
theorem ins_sorted {l : List Pr} (h : Sorted l) (a : Act) : Sorted (ins l a) := by
  induction l with
  | nil =>
    unfold ins mid Sorted
    split <;> simp
  | cons p r ih =>
    obtain ⟨h1, h2⟩ := List.pairwise_cons.1 h
    unfold ins
    by_cases hp : tlt p.1 a.key = true
    · rw [if_pos hp]
      refine List.pairwise_cons.2 ⟨fun q hq => ?_, ih h2⟩
      rcases ins_mem hq with h3 | h3
      · rw [(mid_key h3).1]
        exact hp
      · exact h1 q h3
    · rw [if_neg hp]
      have hge : ∀ q ∈ (if (p.1 == a.key) = true then r else p :: r), tlt a.key q.1 = true := fun q hq => by
        have hpk : p.1 = a.key ∨ tlt a.key p.1 = true := by
          rcases tlt_tri p.1 a.key with h3 | h3 | h3
          · exact absurd h3 hp
          · exact .inl h3
          · exact .inr h3
        split at hq
        · rename_i he
          have := h1 q hq
          rw [eq_of_beq he] at this
          exact this
        · rename_i he
          have hlt : tlt a.key p.1 = true := by
            rcases hpk with h3 | h3
            · exact absurd (by simpa using h3) he
            · exact h3
          rcases List.mem_cons.1 hq with rfl | hq
          · exact hlt
          · exact tlt_trans hlt (h1 q hq)
      have htail : Sorted (if (p.1 == a.key) = true then r else p :: r) := by
        split
        · exact h2
        · exact h
      unfold mid
      split
      · exact List.pairwise_cons.2 ⟨hge, htail⟩
      · exact htail
theorem turn_sorted {l : List Pr} (h : Sorted l) (acts : List Act) : Sorted (turn l acts) := by
  induction acts generalizing l with
  | nil => exact h
  | cons a acts ih =>
    show Sorted (turn (turn1 l a) acts)
    refine ih ?_
    rw [turn1_ins]
    exact ins_sorted h a
/-! ### A map's entries -/
def mput (D : List Pr) (k d : List UInt8) : List Pr := if D.any (fun p => p.1 == k) then D.map (fun p => if p.1 == k then (k, d) else p) else D ++ [(k, d)]
def mdel (D : List Pr) (k : List UInt8) : List Pr := D.filter fun p => !(p.1 == k)
def mturn1 (D : List Pr) (a : Act) : List Pr := if a.set then mput D a.key a.data else mdel D a.key
def mturn (D : List Pr) (acts : List Act) : List Pr := acts.foldl mturn1 D
def Apart (D : List Pr) : Prop := D.Pairwise fun p q => p.1 ≠ q.1
theorem map_perm {D : List Pr} (h : Apart D) {k d : List UInt8} (hk : D.any (fun p => p.1 == k) = true) : (D.map (fun p => if p.1 == k then (k, d) else p)).Perm ((k, d) :: D.filter fun p => !(p.1 == k)) := by
  induction D with
  | nil => cases hk
  | cons p r ih =>
    obtain ⟨h1, h2⟩ := List.pairwise_cons.1 h
    by_cases hp : (p.1 == k) = true
    · have hr : ∀ q ∈ r, (q.1 == k) = false := fun q hq => by
        have h3 := h1 q hq
        rw [eq_of_beq hp] at h3
        simpa using h3.symm
      have e1 : r.map (fun p => if p.1 == k then (k, d) else p) = r := by
        have : r.map (fun p => if p.1 == k then (k, d) else p) = r.map id := List.map_congr_left fun q hq => by simp [hr q hq]
        rw [this, List.map_id]
      have e2 : r.filter (fun q => !(q.1 == k)) = r := List.filter_eq_self.2 fun q hq => by simp [hr q hq]
      rw [List.map_cons, if_pos hp, e1, List.filter_cons_of_neg (by simp [hp]), e2]
    · have hk' : r.any (fun p => p.1 == k) = true := by
        rw [List.any_cons] at hk
        simpa [hp] using hk
      rw [List.map_cons, if_neg hp, List.filter_cons_of_pos (by simp at hp ⊢; exact hp)]
      exact ((ih h2 hk').cons p).trans (List.Perm.swap _ _ _)
theorem mturn1_perm {D : List Pr} (h : Apart D) (a : Act) : (mturn1 D a).Perm (mid a ++ D.filter fun p => !(p.1 == a.key)) := by
  unfold mturn1 mid
  split
  · unfold mput
    split
    · rename_i hk
      exact map_perm h hk
    · rename_i hk
      have e : D.filter (fun q => !(q.1 == a.key)) = D := List.filter_eq_self.2 fun q hq => by
        have : ¬ (q.1 == a.key) = true := fun he => hk (List.any_eq_true.2 ⟨q, hq, he⟩)
        simpa using this
      rw [e]
      exact List.perm_append_comm
  · exact List.Perm.refl _
theorem sorted_apart {l : List Pr} (h : Sorted l) : Apart l := h.imp fun h => tlt_ne h
theorem apart_perm {l D : List Pr} (h : Apart l) (hp : l.Perm D) : Apart D := hp.pairwise h fun h => Ne.symm h
/-- A list by rising key and a map's entries are of the same pairs. -/
def Rel (l D : List Pr) : Prop := Sorted l ∧ l.Perm D
theorem Rel.apart {l D : List Pr} (h : Rel l D) : Apart D := apart_perm (sorted_apart h.1) h.2
theorem Rel.turn1 {l D : List Pr} (h : Rel l D) (a : Act) : Rel (turn1 l a) (mturn1 D a) := by
  refine ⟨by rw [turn1_ins]; exact ins_sorted h.1 a, ?_⟩
  rw [turn1_ins]
  exact (ins_perm h.1 a).trans (((h.2.filter _).append_left _).trans (mturn1_perm h.apart a).symm)
theorem Rel.turn {l D : List Pr} (h : Rel l D) (acts : List Act) : Rel (turn l acts) (mturn D acts) := by
  induction acts generalizing l D with
  | nil => exact h
  | cons a acts ih => exact ih (h.turn1 a)
theorem Rel.nil : Rel [] [] := ⟨List.Pairwise.nil, List.Perm.refl _⟩
/-- Lists by rising key that hold the same are one. -/
theorem sorted_eq : ∀ {l m : List Pr}, Sorted l → Sorted m → l.Perm m → l = m
  | [], m, _, _, hp => by rw [List.nil_perm.1 hp]
  | p :: r, [], _, _, hp => by have := hp.length_eq; simp at this
  | p :: r, q :: s, h1, h2, hp => by
    obtain ⟨a1, a2⟩ := List.pairwise_cons.1 h1
    obtain ⟨b1, b2⟩ := List.pairwise_cons.1 h2
    have hpq : p = q := by
      have m1 : p ∈ q :: s := hp.mem_iff.1 (by simp)
      have m2 : q ∈ p :: r := hp.mem_iff.2 (by simp)
      rcases List.mem_cons.1 m1 with h | h
      · exact h
      · rcases List.mem_cons.1 m2 with h' | h'
        · exact h'.symm
        · have := tlt_trans (a1 q h') (b1 p h)
          rw [tlt_irrefl] at this
          cases this
    subst hpq
    rw [sorted_eq a2 b2 (List.perm_cons p |>.1 hp)]
theorem sorted_filter {l : List Pr} (h : Sorted l) (f : Pr → Bool) : Sorted (l.filter f) := h.filter _
/-- What a map has at a key. -/
def mget (D : List Pr) (k : List UInt8) : Option (List UInt8) := (D.find? fun p => p.1 == k).map Prod.snd
theorem mget_some {D : List Pr} (h : Apart D) {k d : List UInt8} : mget D k = some d ↔ (k, d) ∈ D := by
  unfold mget
  constructor
  · intro hg
    cases hf : D.find? fun p => p.1 == k with
    | none => rw [hf] at hg; cases hg
    | some p =>
      rw [hf] at hg
      have h1 := List.find?_some hf
      have h2 := List.mem_of_find?_eq_some hf
      simp only [Option.map_some, Option.some.injEq] at hg
      have : p = (k, d) := by rw [← hg, ← eq_of_beq h1]
      rw [← this]
      exact h2
  · intro hm
    cases hf : D.find? fun p => p.1 == k with
    | none =>
      have := List.find?_eq_none.1 hf _ hm
      simp at this
    | some p =>
      have h1 := List.find?_some hf
      have h2 := List.mem_of_find?_eq_some hf
      have hp : p.1 = k := eq_of_beq h1
      have : p = (k, d) := by
        have hd := h
        by_cases he : p = (k, d)
        · exact he
        · have hn : ∀ {l : List Pr}, Apart l → p ∈ l → (k, d) ∈ l → p.1 ≠ k := by
            intro l hl
            induction l with
            | nil => intro h; cases h
            | cons x r ih =>
              obtain ⟨c1, c2⟩ := List.pairwise_cons.1 hl
              intro m1 m2
              have m1' := m1
              rcases List.mem_cons.1 m1 with rfl | m1
              · rcases List.mem_cons.1 m2 with m2 | m2
                · exact absurd m2.symm he
                · exact c1 _ m2
              · rcases List.mem_cons.1 m2 with m2 | m2
                · subst m2
                  rcases List.mem_cons.1 m1' with h4 | h4
                  · exact absurd h4 he
                  · exact fun e => c1 _ h4 e.symm
                · exact ih c2 m1 m2
          exact absurd hp (hn h h2 hm)
      rw [this]
      rfl
theorem there_iff {l : List Pr} (h : Sorted l) {k : List UInt8} : there l k = true ↔ ∃ d, (k, d) ∈ l := by
  obtain ⟨h1, h2, h3⟩ := find_step (l := l) (k := k)
  rw [h3]
  constructor
  · rintro ⟨hl, he⟩
    exact ⟨(l[find l k]).2, by
      have h5 := List.getElem_mem hl
      rwa [show l[find l k] = (k, (l[find l k]).2) from Prod.ext he rfl] at h5⟩
  · rintro ⟨d, hd⟩
    obtain ⟨i, hi, he⟩ := List.mem_iff_getElem.1 hd
    have hge : find l k ≤ i := by
      rcases Nat.lt_or_ge i (find l k) with hlt | hge
      · have := h1 i hi hlt
        rw [he, tlt_irrefl] at this
        cases this
      · exact hge
    rcases Nat.lt_or_ge (find l k) i with hlt | hge2
    · have hp := List.pairwise_iff_getElem.1 h (find l k) i (by omega) hi hlt
      rw [he] at hp
      have := h2 (by omega)
      rw [this] at hp
      cases hp
    · have : find l k = i := by omega
      refine ⟨by omega, ?_⟩
      simp only [this, he]
/-- What a list has at a key, and what the map has, are one. -/
theorem rel_get {l D : List Pr} (h : Rel l D) (k : List UInt8) : (there l k = false ∧ mget D k = none) ∨ (∃ hl : find l k < l.length, there l k = true ∧ mget D k = some (l[find l k]).2 ∧ (l[find l k]).1 = k) := by
  cases ht : there l k with
  | false =>
    refine .inl ⟨rfl, ?_⟩
    cases hg : mget D k with
    | none => rfl
    | some d =>
      have hm := h.2.mem_iff.2 ((mget_some h.apart).1 hg)
      rw [(there_iff h.1).2 ⟨d, hm⟩] at ht
      cases ht
  | true =>
    obtain ⟨hl, he⟩ := (find_step (l := l) (k := k)).2.2.1 ht
    refine .inr ⟨hl, rfl, ?_, he⟩
    refine (mget_some h.apart).2 (h.2.mem_iff.1 ?_)
    have := List.getElem_mem hl
    rw [show l[find l k] = (k, (l[find l k]).2) from Prod.ext he rfl] at this
    exact this
end Kv
end Go.Proofs.YtepgmebklhemgaaGreatDoor
/- The end of a call whose result, or one of two, lies in memory: a row of cells of the call's own. -/
set_option linter.unusedVariables false
set_option linter.unusedSimpArgs false
namespace Go.Proofs.YtepgmebklhemgaaGreatDoor
open Go.RowKit Wd
section
variable {P : Program} {fn : Func} {R : Ending → World → Prop} {a : Act} {w0 w : World} {M : Mem} {L : List Ent} {g : Nat} {t ty : TypeId} {cs : List Value} {d : TypeDesc}
theorem load_row (H : St w0 w M (eb g t cs :: L)) (hu : P.underlying ty = some d) (hd : d.isRow = true) (hi : (P.info? ty).map (·.size) = some cs.length) : (loadVar ty ⟨g, 0, none⟩).run P w = .ok (.agg cs.toArray) w :=
  run_loadVar_mid w g 0 ty cs d ((H.blk 0 rfl).range 0 cs.length cs (by simp)) hu hd hi
/-- One result: the row. -/
theorem ret_row (H : St w0 w M (eb g t cs :: L)) {s : Tmp} (hr : fn.results = #[.cell s ty]) (ht : a.tmps.getD s undef = .pointer (some ⟨g, 0, none⟩)) (hu : P.underlying ty = some d) (hd : d.isRow = true) (hi : (P.info? ty).map (·.size) = some cs.length) (hf : a.defers = [])
    (hR : R (.returned (.agg cs.toArray)) w) : bodyPost P fn R .ret a w := by
  refine bodyPost_ret (v := .agg cs.toArray) ?_ hf hR
  have h1 := load_row H hu hd hi
  have ht' : a.tmps[s]?.getD undef = .pointer (some ⟨g, 0, none⟩) := by rw [← ht]; simp
  simp [results, hr, ht', asAddr, Sem.run_pure, h1]
/-- Two: the row, and a value. -/
theorem ret_row_tmp (H : St w0 w M (eb g t cs :: L)) {s u : Tmp} (hr : fn.results = #[.cell s ty, .tmp u]) (ht : a.tmps.getD s undef = .pointer (some ⟨g, 0, none⟩)) (hu : P.underlying ty = some d) (hd : d.isRow = true) (hi : (P.info? ty).map (·.size) = some cs.length) (hf : a.defers = [])
    (hR : R (.returned (.tuple #[.agg cs.toArray, a.tmps.getD u undef])) w) : bodyPost P fn R .ret a w := by
  refine bodyPost_ret (v := .tuple #[.agg cs.toArray, a.tmps.getD u undef]) ?_ hf hR
  have h1 := load_row H hu hd hi
  have ht' : a.tmps[s]?.getD undef = .pointer (some ⟨g, 0, none⟩) := by rw [← ht]; simp
  simp [results, hr, ht', asAddr, Sem.run_pure, h1]
end
end Go.Proofs.YtepgmebklhemgaaGreatDoor
/- Acts and pairs in memory. -/
set_option linter.unusedVariables false
set_option linter.unusedSimpArgs false
namespace Go.Proofs.YtepgmebklhemgaaGreatDoor
open Go.RowKit Wd
abbrev str (l : List UInt8) : ByteArray := ⟨l.toArray⟩
theorem str_size (l : List UInt8) : (str l).size = l.length := by show l.toArray.size = _; simp
theorem str_list (s : ByteArray) : ∃ l, s = str l := ⟨s.data.toList, by cases s; simp⟩
theorem str_inj {a b : List UInt8} (h : str a = str b) : a = b := by
  injection h with h
  injection h
/-- An act whose data is a slice among others. -/
structure Ac where
  key : List UInt8
  set : Bool
  p : Pc
def Ac.act (a : Ac) : Kv.Act := ⟨a.key, a.set, a.p.l⟩
def ac (a : Ac) : List Value := [.string (str a.key), .bool a.set, a.p.v]
def acs (l : List Ac) : List Value := l.flatMap ac
theorem acs_length (l : List Ac) : (acs l).length = l.length * 3 := by
  induction l with
  | nil => rfl
  | cons a l ih => simp [acs, ac] at ih ⊢; omega
theorem acs_append (l m : List Ac) : acs (l ++ m) = acs l ++ acs m := by simp [acs]
theorem acs_at (l : List Ac) (j : Nat) (hj : j < l.length) : ((acs l).drop (j * 3)).take 3 = ac l[j] := by
  induction l generalizing j with
  | nil => simp at hj
  | cons a l ih =>
    have e1 : acs (a :: l) = ac a ++ acs l := rfl
    cases j with
    | zero => rw [e1]; rfl
    | succ j =>
      rw [e1, show (j + 1) * 3 = (ac a).length + j * 3 from by simp [ac]; omega, List.drop_append, Nat.add_sub_cancel_left, List.drop_eq_nil_of_le (by omega), List.nil_append]
      exact ih j (by simpa using hj)
theorem ac_one (a : Ac) : ∀ u ∈ ac a, u.oneCell' = true := by
  intro u hp
  simp only [ac, List.mem_cons, List.not_mem_nil, or_false] at hp
  rcases hp with rfl | rfl | rfl <;> rfl
theorem acs_one (l : List Ac) : ∀ u ∈ acs l, u.oneCell' = true := by
  intro u hu
  obtain ⟨p, -, hp⟩ := List.mem_flatMap.1 hu
  exact ac_one p u hp
theorem RA.ac3 {w : World} {B : Option Addr} {l : List Ac} (h : RA w B (acs l)) (j : Nat) (hj : j < l.length) : ∃ b o, B = some ⟨b, o, none⟩ ∧ w.rangeAt b (o + j * 3) (ac l[j]) := by
  obtain ⟨b, o, rfl, _, hr⟩ := h (by intro h0; have := acs_length l; rw [h0] at this; simp at this; omega)
  refine ⟨b, o, rfl, fun k v hk => ?_⟩
  rw [← acs_at l j hj, List.getElem?_take] at hk
  split at hk
  · rw [List.getElem?_drop] at hk
    rw [Nat.add_assoc]
    exact hr _ v hk
  · cases hk
/-- A pair whose data is a slice among others. -/
structure Pa where
  key : List UInt8
  p : Pc
def Pa.pr (a : Pa) : Kv.Pr := (a.key, a.p.l)
def pa (a : Pa) : List Value := [.string (str a.key), a.p.v]
def pas (l : List Pa) : List Value := l.flatMap pa
theorem pas_length (l : List Pa) : (pas l).length = l.length * 2 := by
  induction l with
  | nil => rfl
  | cons a l ih => simp [pas, pa] at ih ⊢; omega
theorem pas_append (l m : List Pa) : pas (l ++ m) = pas l ++ pas m := by simp [pas]
theorem pas_take (l : List Pa) (k : Nat) : (pas l).take (k * 2) = pas (l.take k) := by
  induction l generalizing k with
  | nil => simp [pas]
  | cons a l ih =>
    cases k with
    | zero => simp [pas]
    | succ k =>
      have e1 : pas (a :: l) = pa a ++ pas l := rfl
      rw [e1, List.take_succ_cons, show pas (a :: l.take k) = pa a ++ pas (l.take k) from rfl, ← ih, show (k + 1) * 2 = (pa a).length + k * 2 from by simp [pa]; omega, List.take_append, Nat.add_sub_cancel_left, List.take_of_length_le (by omega)]
theorem pas_drop (l : List Pa) (k : Nat) : (pas l).drop (k * 2) = pas (l.drop k) := by
  induction l generalizing k with
  | nil => simp [pas]
  | cons a l ih =>
    cases k with
    | zero => simp [pas]
    | succ k =>
      have e1 : pas (a :: l) = pa a ++ pas l := rfl
      rw [e1, List.drop_succ_cons, ← ih, show (k + 1) * 2 = (pa a).length + k * 2 from by simp [pa]; omega, List.drop_append, Nat.add_sub_cancel_left, List.drop_eq_nil_of_le (by omega), List.nil_append]
theorem pas_at (l : List Pa) (j : Nat) (hj : j < l.length) : ((pas l).drop (j * 2)).take 2 = pa l[j] := by
  rw [pas_drop, List.drop_eq_getElem_cons hj]
  rfl
theorem pa_one (a : Pa) : ∀ u ∈ pa a, u.oneCell' = true := by
  intro u hp
  simp only [pa, List.mem_cons, List.not_mem_nil, or_false] at hp
  rcases hp with rfl | rfl <;> rfl
theorem pas_one (l : List Pa) : ∀ u ∈ pas l, u.oneCell' = true := by
  intro u hu
  obtain ⟨p, -, hp⟩ := List.mem_flatMap.1 hu
  exact pa_one p u hp
theorem RA.pa2 {w : World} {B : Option Addr} {l : List Pa} (h : RA w B (pas l)) (j : Nat) (hj : j < l.length) : ∃ b o, B = some ⟨b, o, none⟩ ∧ w.rangeAt b (o + j * 2) (pa l[j]) := by
  obtain ⟨b, o, rfl, _, hr⟩ := h (by intro h0; have := pas_length l; rw [h0] at this; simp at this; omega)
  refine ⟨b, o, rfl, fun k v hk => ?_⟩
  rw [← pas_at l j hj, List.getElem?_take] at hk
  split at hk
  · rw [List.getElem?_drop] at hk
    rw [Nat.add_assoc]
    exact hr _ v hk
  · cases hk
/-- The data of acts, of pairs: never written again. -/
def AcIn (M : Mem) (l : List Ac) : Prop := ∀ a ∈ l, a.p.ok ∧ In M (RB · a.p.A a.p.l)
def PaIn (M : Mem) (l : List Pa) : Prop := ∀ a ∈ l, a.p.ok ∧ In M (RB · a.p.A a.p.l)
theorem AcIn.le {M M' : Mem} {l : List Ac} (h : AcIn M l) (hm : M.le M') : AcIn M' l := fun a ha => ⟨(h a ha).1, (h a ha).2.le hm⟩
theorem PaIn.le {M M' : Mem} {l : List Pa} (h : PaIn M l) (hm : M.le M') : PaIn M' l := fun a ha => ⟨(h a ha).1, (h a ha).2.le hm⟩
theorem AcIn.nil (M : Mem) : AcIn M [] := fun a ha => by cases ha
theorem PaIn.nil (M : Mem) : PaIn M [] := fun a ha => by cases ha
theorem AcIn.snoc {M : Mem} {l : List Ac} (h : AcIn M l) {a : Ac} (hp : a.p.ok) (hi : In M (RB · a.p.A a.p.l)) : AcIn M (l ++ [a]) := fun q hq => by
  rcases List.mem_append.1 hq with hq | hq
  · exact h q hq
  · simp only [List.mem_singleton] at hq
    subst hq
    exact ⟨hp, hi⟩
theorem PaIn.snoc {M : Mem} {l : List Pa} (h : PaIn M l) {a : Pa} (hp : a.p.ok) (hi : In M (RB · a.p.A a.p.l)) : PaIn M (l ++ [a]) := fun q hq => by
  rcases List.mem_append.1 hq with hq | hq
  · exact h q hq
  · simp only [List.mem_singleton] at hq
    subst hq
    exact ⟨hp, hi⟩
section
variable {w0 w : World} {M M' : Mem} {L : List Ent}
theorem SrA.le {A : Option Addr} {cs : List Value} (h : SrA w0 M L A cs) (hm : M.le M') : SrA w0 M' L A cs := fun w' M'' hM H => h w' M'' (hm.trans hM) H
theorem SrA.ac3 {b o : Nat} {l : List Ac} (h : SrA w0 M L (some ⟨b, o, none⟩) (acs l)) (j : Nat) (hj : j < l.length) : ∀ W M', M.le M' → St w0 W M' L → W.rangeAt b (o + j * 3) (ac l[j]) := fun W M' hM hW => by
  obtain ⟨b', o', he, hc⟩ := RA.ac3 (h W M' hM hW) j hj
  injection he with he
  injection he with h1 h2
  subst h1 h2
  exact hc
theorem SrA.pa2 {b o : Nat} {l : List Pa} (h : SrA w0 M L (some ⟨b, o, none⟩) (pas l)) (j : Nat) (hj : j < l.length) : ∀ W M', M.le M' → St w0 W M' L → W.rangeAt b (o + j * 2) (pa l[j]) := fun W M' hM hW => by
  obtain ⟨b', o', he, hc⟩ := RA.pa2 (h W M' hM hW) j hj
  injection he with he
  injection he with h1 h2
  subst h1 h2
  exact hc
theorem Wd.In.oldRA {w0 w : World} {M : Mem} {L : List Ent} (H : St w0 w M L) {A : Option Addr} {cs : List Value} (hb : RA w0 A cs) : In M fun W => RA W A cs := fun W hW hl => by
  obtain ⟨b, o, rfl, hlt, hr⟩ := hb hl
  have he : W.heap[b]? = w0.heap[b]? := by
    have h1 := H.old b hlt
    rw [Array.getElem?_eq_getElem hlt] at h1 ⊢
    exact hW b _ h1
  refine ⟨b, o, rfl, ?_, fun j v hj => (World.cell?_of_block (w := w0) he).trans (hr j v hj)⟩
  rw [Array.getElem?_eq_getElem hlt] at he
  exact (Array.getElem?_eq_some_iff.1 he).1
end
theorem Tryz.sizeAct : (Tryz.prog.info? 75).map (·.size) = some 3 := by kernel_rfl
theorem Tryz.zeroAct : (Tryz.prog.info? 75).map (fun i => (i.zero, i.size)) = some (some (.agg #[.string ⟨#[]⟩, .bool false, .slice none 0 0]), 3) := by kernel_rfl
theorem Tryz.infoAct : (Tryz.prog.info? 75).map (fun i => (i.zero, i.size, i.bytes)) = some (some (.agg #[.string ⟨#[]⟩, .bool false, .slice none 0 0]), 3, 48) := by kernel_rfl
theorem Tryz.sizePair : (Tryz.prog.info? 115).map (·.size) = some 2 := by kernel_rfl
theorem Tryz.zeroPair : (Tryz.prog.info? 115).map (fun i => (i.zero, i.size)) = some (some (.agg #[.string ⟨#[]⟩, .slice none 0 0]), 2) := by kernel_rfl
theorem Tryz.infoPair : (Tryz.prog.info? 115).map (fun i => (i.zero, i.size, i.bytes)) = some (some (.agg #[.string ⟨#[]⟩, .slice none 0 0]), 2, 40) := by kernel_rfl
end Go.Proofs.YtepgmebklhemgaaGreatDoor
/- Operations of a region taken by hand. No program is in sight. -/
set_option linter.unusedVariables false
set_option linter.unusedSimpArgs false
namespace Go.Proofs.YtepgmebklhemgaaGreatDoor
open Go.RowKit Wd
section
variable {P : Program} {ops : Array Oper} {rest : List Oper} {o : Oper} {a : Act} {w w' : World} {Q : Exit → Act → World → Prop} {v u : Value}
/-- One operation whose run is known and that turns nothing. -/
theorem wpList_ex (hg : o.guard = none) (hr : (execOp a.eval o).run P w = .ok (.value v) w) (h : wpList P ops Q rest (a.put o.dst v) w) : wpList P ops Q (o :: rest) a w :=
  wpList_plain hg fun K hK => by
    unfold Oper.wp
    rw [hr]
    exact hK _ _ h
theorem wpList_exg (hw : Region.wanted o (yielded ops a.tmps) = true) (hr : (execOp a.eval o).run P w = .ok (.value v) w) (h : wpList P ops Q rest (a.put o.dst v) w) : wpList P ops Q (o :: rest) a w := by
  unfold wpList
  rw [if_pos hw]
  refine .inl ?_
  unfold Oper.wp
  rw [hr]
  exact h
/-- The same, of one that turns the world. -/
theorem wpList_go (hg : o.guard = none) (hr : (execOp a.eval o).run P w = .ok (.value v) w') (h : wpList P ops Q rest (a.put o.dst v) w') : wpList P ops Q (o :: rest) a w :=
  wpList_plain hg fun K hK => by
    unfold Oper.wp
    rw [hr]
    exact hK _ _ h
theorem wpList_bs0 (hg : o.guard = none) (t : TypeId) (ho : o.op = .buildSlice t 0 #[]) (hr : (Instr.buildSlice t 0 #[]).run P w = .ok u w') (h : wpList P ops Q rest (a.put o.dst u) w') : wpList P ops Q (o :: rest) a w :=
  wpList_go hg (by unfold execOp; simp only [ho, List.map_toArray, List.map_nil, Sem.run_bind, hr, Result.andThen_ok, Sem.run_pure]) h
theorem wpList_bs1 (hg : o.guard = none) (t : TypeId) (x : Operand) (ho : o.op = .buildSlice t 1 #[(0, x)]) (hx : a.eval x = v)
    (hr : (Instr.buildSlice t 1 #[(0, v)]).run P w = .ok u w') (h : wpList P ops Q rest (a.put o.dst u) w') : wpList P ops Q (o :: rest) a w :=
  wpList_go hg (by subst hx; unfold execOp; simp only [ho, List.map_toArray, List.map_cons, List.map_nil, Sem.run_bind, hr, Result.andThen_ok, Sem.run_pure]) h
theorem wpList_bs2 {v2 : Value} (hg : o.guard = none) (t : TypeId) (x y : Operand) (ho : o.op = .buildSlice t 2 #[(0, x), (1, y)]) (hx : a.eval x = v) (hy : a.eval y = v2)
    (hr : (Instr.buildSlice t 2 #[(0, v), (1, v2)]).run P w = .ok u w') (h : wpList P ops Q rest (a.put o.dst u) w') : wpList P ops Q (o :: rest) a w :=
  wpList_go hg (by subst hx hy; unfold execOp; simp only [ho, List.map_toArray, List.map_cons, List.map_nil, Sem.run_bind, hr, Result.andThen_ok, Sem.run_pure]) h
theorem wpList_bld (hg : o.guard = none) (t : TypeId) (parts : Array (Nat × Operand)) (ho : o.op = .build t parts) {cells : Array Value} (hb : P.built t (parts.map fun (i, x) => (i, a.eval x)).toList = some cells)
    (h : wpList P ops Q rest (a.put o.dst (.agg cells)) w) : wpList P ops Q (o :: rest) a w := by
  refine wpList_build hg t parts ho ?_ ?_
  · rw [hb]; rfl
  · rw [hb]; exact h
theorem exec_bld {ev : Operand → Value} (t : TypeId) (parts : Array (Nat × Operand)) (ho : o.op = .build t parts) {cells : Array Value} (hb : P.built t (parts.map fun (i, x) => (i, ev x)).toList = some cells) (w : World) : (execOp ev o).run P w = .ok (.value (.agg cells)) w := by
  have h := run_build (P := P) w t (parts.map fun (i, x) => (i, ev x)) cells (by simpa using hb)
  unfold execOp
  simp only [ho, Sem.run_bind, h, Result.andThen_ok, Sem.run_pure]
end
end Go.Proofs.YtepgmebklhemgaaGreatDoor
/- Slices of bytes sliced; two bytes as a number. No program is in sight. -/
set_option linter.unusedVariables false
set_option linter.unusedSimpArgs false
namespace Go.Proofs.YtepgmebklhemgaaGreatDoor
open Go.RowKit Wd
/-- Where a slice begins that is sliced from lo on. -/
def slo (o cap lo : Nat) : Nat := if cap = lo then o else o + lo
section
variable {P : Program} {t e : TypeId}
theorem slo_lh (W : World) (ht : P.underlying t = some (.slice e)) (hz : ∀ w, (Go.sizeOf e).run P w = .ok 1 w) (b o len cap lo hi : Nat) (h1 : lo ≤ hi) (h2 : hi ≤ cap) :
    (Instr.slice t (.slice (some ⟨b, o, none⟩) len cap) (some (.int .i64 (lo : Int))) (some (.int .i64 (hi : Int))) none).run P W = .ok (.slice (some ⟨b, slo o cap lo, none⟩) (hi - lo) (cap - lo)) W := by
  have ht' : P.underlying t = some (.slice (P.elem t)) := by simp [Program.elem, ht]
  have he : P.elem t = e := by simp [Program.elem, ht]
  rw [run_slice_lh W t _ _ _ ht' .i64 .i64 _ _ (by omega) (by omega) (by omega), he, hz]
  unfold slo
  by_cases h0 : cap = lo
  · simp [Result.andThen, sliced, h0]
  · by_cases h3 : lo = 0
    · subst h3; simp [Result.andThen, sliced, Addr.add, h0]
    · simp [Result.andThen, sliced, Addr.add, h0, h3]
theorem slo_l (W : World) (ht : P.underlying t = some (.slice e)) (hz : ∀ w, (Go.sizeOf e).run P w = .ok 1 w) (b o len cap lo : Nat) (h1 : lo ≤ len) :
    (Instr.slice t (.slice (some ⟨b, o, none⟩) len cap) (some (.int .i64 (lo : Int))) none none).run P W = .ok (.slice (some ⟨b, slo o cap lo, none⟩) (len - lo) (cap - lo)) W := by
  have ht' : P.underlying t = some (.slice (P.elem t)) := by simp [Program.elem, ht]
  have he : P.elem t = e := by simp [Program.elem, ht]
  rw [run_slice_l W t _ _ _ ht' .i64 _ (by omega) (by omega), he, hz]
  unfold slo
  by_cases h0 : cap = lo
  · simp [Result.andThen, sliced, h0]
  · by_cases h3 : lo = 0
    · subst h3; simp [Result.andThen, sliced, Addr.add, h0]
    · simp [Result.andThen, sliced, Addr.add, h0, h3]
theorem slo_h (W : World) (ht : P.underlying t = some (.slice e)) (hz : ∀ w, (Go.sizeOf e).run P w = .ok 1 w) (b o len cap hi : Nat) (h2 : hi ≤ cap) :
    (Instr.slice t (.slice (some ⟨b, o, none⟩) len cap) none (some (.int .i64 (hi : Int))) none).run P W = .ok (.slice (some ⟨b, o, none⟩) hi cap) W := by
  have ht' : P.underlying t = some (.slice (P.elem t)) := by simp [Program.elem, ht]
  have he : P.elem t = e := by simp [Program.elem, ht]
  rw [run_slice_h W t _ _ _ ht' .i64 _ (by omega) (by omega), he, hz]
  by_cases h0 : cap = 0
  · simp [Result.andThen, sliced, h0]
  · simp [Result.andThen, sliced, Addr.add, h0]
end
theorem slo_RB {w : World} {b o cap : Nat} {l : List UInt8} (h : RB w (some ⟨b, o, none⟩) l) (hc : l.length ≤ cap) (lo m : Nat) : RB w (some ⟨b, slo o cap lo, none⟩) ((l.drop lo).take m) := by
  unfold slo
  split
  · rename_i h0
    intro hne
    exact absurd (by rw [List.drop_eq_nil_of_le (by omega), List.take_nil]) hne
  · exact h.sub
theorem slo_RB' {w : World} {b o cap : Nat} {l : List UInt8} (h : RB w (some ⟨b, o, none⟩) l) (hc : l.length ≤ cap) (lo : Nat) : RB w (some ⟨b, slo o cap lo, none⟩) (l.drop lo) := by
  have := slo_RB h hc lo (l.drop lo).length
  rwa [List.take_length] at this
theorem RB.cell {w : World} {b o : Nat} {l : List UInt8} (h : RB w (some ⟨b, o, none⟩) l) (k : Nat) (hk : k < l.length) : w.cell? ⟨b, o + k, none⟩ = some (.int .u8 ((l[k]).toNat : Int)) := by
  obtain ⟨b', o', he, hc⟩ := h.at k hk
  injection he with he
  injection he with h1 h2
  subst h1 h2
  exact hc
theorem ofInt_i64' (a : Nat) (ha : a < 9223372036854775808) : (BitVec.ofInt 64 (a : Int)).toNat = a := by
  rw [BitVec.ofInt_natCast, BitVec.toNat_ofNat]; exact Nat.mod_eq_of_lt (by omega)
/-- Two bytes as a number, as the walk reckons it. -/
theorem two_bytes (a b : Nat) (ha : a < 256) (hb : b < 256) : ∃ q n : Nat, q = a * 256 ∧ n = a * 256 + b ∧ (a : Int) * 256 = (q : Int) ∧ bits .or .i64 (q : Int) (b : Int) = (n : Int) := by
  refine ⟨a * 256, a * 256 + b, rfl, rfl, by omega, ?_⟩
  have hx : a * 256 ||| b = a * 256 + b := nat_join 8 (a * 256) b (by omega) (by omega)
  show IntKind.i64.wrap ((BitVec.ofInt 64 ((a * 256 : Nat) : Int) ||| BitVec.ofInt 64 (b : Int)).toNat : Int) = _
  rw [BitVec.toNat_or, ofInt_i64' _ (by omega), ofInt_i64' b (by omega), hx, IntKind.wrap_i64]
  omega
end Go.Proofs.YtepgmebklhemgaaGreatDoor
