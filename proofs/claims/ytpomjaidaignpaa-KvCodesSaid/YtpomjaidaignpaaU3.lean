/- Words of 32 bits as the model's integers. No program is in sight. -/
import Derived.Laws.BitsAllLaws
import Derived.RowKit
set_option linter.unusedVariables false
set_option linter.unusedSimpArgs false
namespace Go.Proofs.Ytpomjaidaignpaa.U3
def ad (a b : UInt32) : UInt32 := a + b
def an (a b : UInt32) : UInt32 := a &&& b
def og (a b : UInt32) : UInt32 := a ||| b
def xo (a b : UInt32) : UInt32 := a ^^^ b
def sl (a : UInt32) (n : Nat) : UInt32 := a <<< UInt32.ofNat n
def sr (a : UInt32) (n : Nat) : UInt32 := a >>> UInt32.ofNat n
/-- Turned to the right. -/
def rr (a : UInt32) (n : Nat) : UInt32 := og (sr a n) (sl a (32 - n))
theorem lt (a : UInt32) : a.toNat < 4294967296 := a.toNat_lt
theorem ad_nat (a b : UInt32) : (ad a b).toNat = (a.toNat + b.toNat) % 4294967296 := by simp [ad, UInt32.toNat_add]
theorem an_nat (a b : UInt32) : (an a b).toNat = a.toNat &&& b.toNat := by simp [an]
theorem og_nat (a b : UInt32) : (og a b).toNat = a.toNat ||| b.toNat := by simp [og]
theorem xo_nat (a b : UInt32) : (xo a b).toNat = a.toNat ^^^ b.toNat := by simp [xo]
theorem sl_nat (a : UInt32) (n : Nat) (h : n < 32) : (sl a n).toNat = a.toNat * 2 ^ n % 4294967296 := by
  have h1 : (UInt32.ofNat n).toNat = n := by simp; omega
  unfold sl
  rw [UInt32.toNat_shiftLeft, h1, Nat.mod_eq_of_lt h, Nat.shiftLeft_eq]
theorem sr_nat (a : UInt32) (n : Nat) (h : n < 32) : (sr a n).toNat = a.toNat / 2 ^ n := by
  have h1 : (UInt32.ofNat n).toNat = n := by simp; omega
  unfold sr
  rw [UInt32.toNat_shiftRight, h1, Nat.mod_eq_of_lt h, Nat.shiftRight_eq_div_pow]
theorem add_ (a b : UInt32) : IntKind.u32.wrap ((a.toNat : Int) + (b.toNat : Int)) = ((ad a b).toNat : Int) := by
  rw [IntKind.wrap_u32', ad_nat]; omega
theorem and_ (a b : UInt32) : bits .and .u32 (a.toNat : Int) (b.toNat : Int) = ((an a b).toNat : Int) := by rw [u32_and_nat _ _ (lt a) (lt b), an_nat]
theorem or_ (a b : UInt32) : bits .or .u32 (a.toNat : Int) (b.toNat : Int) = ((og a b).toNat : Int) := by rw [u32_or_nat _ _ (lt a) (lt b), og_nat]
theorem xor_ (a b : UInt32) : bits .xor .u32 (a.toNat : Int) (b.toNat : Int) = ((xo a b).toNat : Int) := by rw [u32_xor_nat _ _ (lt a) (lt b), xo_nat]
theorem shl_ (a : UInt32) (n m : Nat) (h : n < 32) (hm : m = 2 ^ n) : IntKind.u32.wrap ((a.toNat : Int) * (m : Int)) = ((sl a n).toNat : Int) := by
  rw [IntKind.wrap_u32', sl_nat a n h, ← hm]; omega
theorem shr_ (a : UInt32) (n m : Nat) (h : n < 32) (hm : m = 2 ^ n) : (a.toNat : Int) / (m : Int) = ((sr a n).toNat : Int) := by
  rw [sr_nat a n h, ← hm]; omega
theorem shl' (a : UInt32) (n m : Nat) (h : n < 32) (hm : m = 2 ^ n) : (a.toNat : Int) * (m : Int) % 4294967296 = ((sl a n).toNat : Int) := by
  rw [← shl_ a n m h hm, IntKind.wrap_u32']
theorem add' (a b : UInt32) : ((a.toNat : Int) + (b.toNat : Int)) % 4294967296 = ((ad a b).toNat : Int) := by
  rw [← add_, IntKind.wrap_u32']
end Go.Proofs.Ytpomjaidaignpaa.U3
