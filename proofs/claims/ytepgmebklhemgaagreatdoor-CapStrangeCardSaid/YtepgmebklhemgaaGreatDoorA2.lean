/- Words of 32 bits as the model's integers. No program is in sight. -/
import Derived.Laws.BitsAllLaws
import Derived.RowKit
import Derived.Test.YtepgmebklhemgaaGreatDoorA1
set_option linter.unusedVariables false
set_option linter.unusedSimpArgs false
namespace Go.Proofs.YtepgmebklhemgaaGreatDoor.U3
def ad (a b : UInt32) : UInt32 := a + b
def an (a b : UInt32) : UInt32 := a &&& b
def og (a b : UInt32) : UInt32 := a ||| b
def xo (a b : UInt32) : UInt32 := a ^^^ b
def sl (a : UInt32) (n : Nat) : UInt32 := a <<< UInt32.ofNat n
def sr (a : UInt32) (n : Nat) : UInt32 := a >>> UInt32.ofNat n
/-- Turned to the right. -/
def rr (a : UInt32) (n : Nat) : UInt32 := og (sr a n) (sl a (32 - n))
theorem lt (a : UInt32) : a.toNat < 4294967296 := a.toNat_lt
theorem ad_nat (a b : UInt32) : (ad a b).toNat = (a.toNat + b.toNat) % 4294967296 := by simp [ad, UInt32.toNat_add]
theorem an_nat (a b : UInt32) : (an a b).toNat = a.toNat &&& b.toNat := by simp [an]
theorem og_nat (a b : UInt32) : (og a b).toNat = a.toNat ||| b.toNat := by simp [og]
theorem xo_nat (a b : UInt32) : (xo a b).toNat = a.toNat ^^^ b.toNat := by simp [xo]
theorem sl_nat (a : UInt32) (n : Nat) (h : n < 32) : (sl a n).toNat = a.toNat * 2 ^ n % 4294967296 := by
  have h1 : (UInt32.ofNat n).toNat = n := by simp; omega
  unfold sl
  rw [UInt32.toNat_shiftLeft, h1, Nat.mod_eq_of_lt h, Nat.shiftLeft_eq]
theorem sr_nat (a : UInt32) (n : Nat) (h : n < 32) : (sr a n).toNat = a.toNat / 2 ^ n := by
  have h1 : (UInt32.ofNat n).toNat = n := by simp; omega
  unfold sr
  rw [UInt32.toNat_shiftRight, h1, Nat.mod_eq_of_lt h, Nat.shiftRight_eq_div_pow]
theorem add_ (a b : UInt32) : IntKind.u32.wrap ((a.toNat : Int) + (b.toNat : Int)) = ((ad a b).toNat : Int) := by
  rw [IntKind.wrap_u32', ad_nat]; omega
theorem and_ (a b : UInt32) : bits .and .u32 (a.toNat : Int) (b.toNat : Int) = ((an a b).toNat : Int) := by rw [u32_and_nat _ _ (lt a) (lt b), an_nat]
theorem or_ (a b : UInt32) : bits .or .u32 (a.toNat : Int) (b.toNat : Int) = ((og a b).toNat : Int) := by rw [u32_or_nat _ _ (lt a) (lt b), og_nat]
theorem xor_ (a b : UInt32) : bits .xor .u32 (a.toNat : Int) (b.toNat : Int) = ((xo a b).toNat : Int) := by rw [u32_xor_nat _ _ (lt a) (lt b), xo_nat]
theorem shl_ (a : UInt32) (n m : Nat) (h : n < 32) (hm : m = 2 ^ n) : IntKind.u32.wrap ((a.toNat : Int) * (m : Int)) = ((sl a n).toNat : Int) := by
  rw [IntKind.wrap_u32', sl_nat a n h, ← hm]; omega
theorem shr_ (a : UInt32) (n m : Nat) (h : n < 32) (hm : m = 2 ^ n) : (a.toNat : Int) / (m : Int) = ((sr a n).toNat : Int) := by
  rw [sr_nat a n h, ← hm]; omega
theorem shl' (a : UInt32) (n m : Nat) (h : n < 32) (hm : m = 2 ^ n) : (a.toNat : Int) * (m : Int) % 4294967296 = ((sl a n).toNat : Int) := by
  rw [← shl_ a n m h hm, IntKind.wrap_u32']
theorem add' (a b : UInt32) : ((a.toNat : Int) + (b.toNat : Int)) % 4294967296 = ((ad a b).toNat : Int) := by
  rw [← add_, IntKind.wrap_u32']
end Go.Proofs.YtepgmebklhemgaaGreatDoor.U3
/- Records in plain Lean: the sum, numbers in bytes, heads, records, what a half's bytes are. No program is in sight. -/
set_option linter.unusedVariables false
set_option linter.unusedSimpArgs false
namespace Go.Proofs.YtepgmebklhemgaaGreatDoor
open Go.RowKit Wd
namespace Lg
/-! ### The sum -/
def poly : Nat := 3988292384
/-- One bit on. -/
def step (x : Nat) : Nat := (x / 2) ^^^ (if x % 2 = 1 then poly else 0)
def steps : Nat → Nat → Nat
  | 0, x => x
  | n + 1, x => step (steps n x)
def byte (x : Nat) (c : UInt8) : Nat := steps 8 (x ^^^ c.toNat)
def run (l : List UInt8) : Nat := l.foldl byte 4294967295
/-- THE SUM. -/
def crc (l : List UInt8) : Nat := run l ^^^ 4294967295
theorem poly_lt : poly < 4294967296 := by decide
theorem step_lt (x : Nat) (h : x < 4294967296) : step x < 4294967296 := by
  unfold step
  refine Nat.xor_lt_two_pow (n := 32) (by omega) ?_
  split
  · exact poly_lt
  · omega
theorem steps_lt (n x : Nat) (h : x < 4294967296) : steps n x < 4294967296 := by
  induction n with
  | zero => exact h
  | succ n ih => exact step_lt _ ih
theorem byte_lt (x : Nat) (c : UInt8) (h : x < 4294967296) : byte x c < 4294967296 := by
  have := c.toNat_lt
  exact steps_lt 8 _ (Nat.xor_lt_two_pow (n := 32) h (by omega))
theorem run_from_lt (l : List UInt8) (x : Nat) (h : x < 4294967296) : l.foldl byte x < 4294967296 := by
  induction l generalizing x with
  | nil => exact h
  | cons c l ih => exact ih _ (byte_lt x c h)
theorem run_lt (l : List UInt8) : run l < 4294967296 := run_from_lt l _ (by decide)
theorem crc_lt (l : List UInt8) : crc l < 4294967296 := Nat.xor_lt_two_pow (n := 32) (run_lt l) (by decide)
theorem run_snoc (l : List UInt8) (c : UInt8) : run (l ++ [c]) = byte (run l) c := by simp [run]
theorem run_take (l : List UInt8) (k : Nat) (h : k < l.length) : run (l.take (k + 1)) = byte (run (l.take k)) l[k] := by
  rw [List.take_succ_eq_append_getElem h, run_snoc]
/-- The other package's way: a byte's bits one by one. -/
def bitStep (c y k : Nat) : Nat := (y / 2) ^^^ (if ((c / 2 ^ k % 2) ^^^ (y % 2)) = 1 then poly else 0)
def bitSteps (c : Nat) : Nat → Nat → Nat
  | 0, y => y
  | n + 1, y => bitStep c (bitSteps c n y) n
theorem xor_half (a b : Nat) : (a ^^^ b) / 2 = (a / 2) ^^^ (b / 2) := by
  have := Nat.shiftRight_xor_distrib (a := a) (b := b) (i := 1)
  simpa [Nat.shiftRight_eq_div_pow] using this
theorem xor_bit (a b : Nat) : (a ^^^ b) % 2 = (a % 2) ^^^ (b % 2) := by
  have := Nat.xor_mod_two_pow (a := a) (b := b) (n := 1)
  simpa using this
theorem bits_steps (c x n : Nat) : bitSteps c n x ^^^ (c / 2 ^ n) = steps n (x ^^^ c) := by
  induction n with
  | zero => simp [bitSteps, steps]
  | succ n ih =>
    show bitStep c (bitSteps c n x) n ^^^ _ = step (steps n (x ^^^ c))
    rw [← ih]
    generalize bitSteps c n x = y
    unfold bitStep step
    rw [xor_half, xor_bit, Nat.div_div_eq_div_mul, ← Nat.pow_succ, Nat.xor_comm (y % 2)]
    rw [Nat.xor_assoc, Nat.xor_assoc, Nat.xor_comm (c / 2 ^ (n + 1))]
theorem bits_byte (x : Nat) (c : UInt8) : bitSteps c.toNat 8 x = byte x c := by
  have h := bits_steps c.toNat x 8
  have hc : c.toNat / 2 ^ 8 = 0 := by have := c.toNat_lt; omega
  rw [hc, Nat.xor_zero] at h
  exact h
/-! ### Numbers in bytes -/
/-- n in k bytes, the highest first. -/
def be (n k : Nat) : List UInt8 := (List.range k).map fun j => UInt8.ofNat (n / 2 ^ (8 * (k - 1 - j)))
theorem be_len (n k : Nat) : (be n k).length = k := by simp [be]
def num (l : List UInt8) : Nat := l.foldl (fun n c => n * 256 + c.toNat) 0
theorem num_snoc (l : List UInt8) (c : UInt8) : num (l ++ [c]) = num l * 256 + c.toNat := by simp [num]
theorem num_take (l : List UInt8) (k : Nat) (h : k < l.length) : num (l.take (k + 1)) = num (l.take k) * 256 + l[k].toNat := by
  rw [List.take_succ_eq_append_getElem h, num_snoc]
theorem num_lt (l : List UInt8) : num l < 256 ^ l.length := by
  suffices h : ∀ (l : List UInt8) (n : Nat), l.foldl (fun n c => n * 256 + c.toNat) n < (n + 1) * 256 ^ l.length by
    have := h l 0
    simpa [num] using this
  intro l
  induction l with
  | nil => intro n; simp
  | cons c l ih =>
    intro n
    have h1 := ih (n * 256 + c.toNat)
    have h2 := c.toNat_lt
    have h3 : (n * 256 + c.toNat + 1) * 256 ^ l.length ≤ ((n + 1) * 256) * 256 ^ l.length := Nat.mul_le_mul_right _ (by omega)
    rw [List.length_cons, Nat.pow_succ, Nat.mul_comm (256 ^ l.length), ← Nat.mul_assoc]
    exact Nat.lt_of_lt_of_le h1 h3
/-! ### Heads and records -/
/-- A generation's head. -/
def head (gen : Nat) : List UInt8 := be gen 8 ++ be (crc (be gen 8)) 4 ++ List.replicate 52 0
theorem head_len (gen : Nat) : (head gen).length = 64 := by simp [head, be_len]
/-- A record as it is written at a place. -/
def record (gen at_ : Nat) (b : List UInt8) : List UInt8 := be b.length 2 ++ be (crc (be gen 8 ++ be at_ 4 ++ be b.length 2 ++ b)) 4 ++ b
theorem record_len (gen at_ : Nat) (b : List UInt8) : (record gen at_ b).length = b.length + 6 := by
  unfold record
  rw [List.length_append, List.length_append, be_len, be_len]
  omega
/-- The generation that counts. -/
def genOf (b : List UInt8) (i : Nat) : Nat := num ((b.drop (64 * i)).take 8)
def pick (b : List UInt8) (best i : Nat) : Nat := if head (genOf b i) = (b.drop (64 * i)).take 64 then max best (genOf b i) else best
def generation (b : List UInt8) : Nat := pick b (pick b 0 0) 1
/-- Where a generation's half begins, and how many blocks it has. -/
def halfN (blocks : Nat) : Nat := (blocks - 2) / 2
def halfFrom (blocks gen : Nat) : Nat := 2 + gen % 2 * halfN blocks
def half (b : List UInt8) (gen : Nat) : List UInt8 := (b.drop (64 * halfFrom (b.length / 64) gen)).take (64 * halfN (b.length / 64))
/-- Is there a record at a place? How long it is. -/
def there (gen : Nat) (h : List UInt8) (at_ : Nat) : Option Nat :=
  if at_ + 6 < h.length then
    let n := num ((h.drop at_).take 2)
    if 1 ≤ n ∧ n ≤ h.length - at_ - 6 ∧ record gen at_ ((h.drop (at_ + 6)).take n) = (h.drop at_).take (6 + n) then some n else none
  else none
theorem there_some {gen : Nat} {h : List UInt8} {at_ n : Nat} (ht : there gen h at_ = some n) : at_ + 6 < h.length ∧ n = num ((h.drop at_).take 2) ∧ 1 ≤ n ∧ at_ + 6 + n ≤ h.length ∧ record gen at_ ((h.drop (at_ + 6)).take n) = (h.drop at_).take (6 + n) := by
  unfold there at ht
  split at ht
  · rename_i h1
    simp only at ht
    split at ht
    · rename_i h2
      injection ht with ht
      subst ht
      exact ⟨h1, rfl, h2.1, by omega, h2.2.2⟩
    · cases ht
  · cases ht
/-- The records from a place on, with so many tries; where they end. -/
def scan (gen : Nat) (h : List UInt8) : Nat → Nat → List (List UInt8) × Nat
  | 0, at_ => ([], at_)
  | f + 1, at_ => match there gen h at_ with
    | some n => let r := scan gen h f (at_ + 6 + n); ((h.drop (at_ + 6)).take n :: r.1, r.2)
    | none => ([], at_)
/-- THE RECORDS OF A HALF. -/
def records (gen : Nat) (h : List UInt8) : List (List UInt8) × Nat := scan gen h h.length 0
theorem scan_more (gen : Nat) (h : List UInt8) : ∀ (f g at_ : Nat), h.length ≤ at_ + f → f ≤ g → scan gen h g at_ = scan gen h f at_
  | 0, 0, at_, _, _ => rfl
  | 0, g + 1, at_, hf, _ => by
    have : there gen h at_ = none := by
      unfold there
      rw [if_neg (by omega)]
    simp only [scan, this]
  | f + 1, 0, _, _, hg => by omega
  | f + 1, g + 1, at_, hf, hg => by
    simp only [scan]
    cases ht : there gen h at_ with
    | none => rfl
    | some n =>
      obtain ⟨_, _, h3, _, _⟩ := there_some ht
      simp only
      rw [scan_more gen h f g (at_ + 6 + n) (by omega) (by omega)]
end Lg
end Go.Proofs.YtepgmebklhemgaaGreatDoor
