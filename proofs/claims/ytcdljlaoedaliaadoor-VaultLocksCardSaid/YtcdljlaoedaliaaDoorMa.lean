/- Keyed digests in plain Lean. No program is in sight. -/
import Derived.Test.YtcdljlaoedaliaaDoorHm
import Derived.KernelRfl
set_option linter.unusedVariables false
set_option linter.unusedSimpArgs false
namespace Go.Proofs.YtcdljlaoedaliaaDoor
open Go.RowKit Wd
namespace Mac
theorem digest_len_ (v : Sha.V8) : (Sha.digest v).length = 32 := rfl
theorem sha_len_ (l : List UInt8) : (Sha.sha l).length = 32 := by unfold Sha.sha Sha.HM.sum; exact digest_len_ _
/-- A key that is too long is as its digest. -/
def short (k : List UInt8) : List UInt8 := if 64 < k.length then Sha.sha k else k
def pad (k : List UInt8) : List UInt8 := short k ++ List.replicate (64 - (short k).length) 0
def xr (x : UInt8) (l : List UInt8) : List UInt8 := l.map fun y => y ^^^ x
/-- THE TAG. -/
def mac (k b : List UInt8) : List UInt8 := Sha.sha (xr 92 (pad k) ++ Sha.sha (xr 54 (pad k) ++ b))
theorem short_le (k : List UInt8) : (short k).length ≤ 64 := by
  unfold short
  split
  · rw [sha_len_]; omega
  · omega
theorem short_le' (k : List UInt8) : (short k).length ≤ k.length := by
  unfold short
  split
  · rw [sha_len_]; omega
  · omega
theorem short_long {k : List UInt8} (h : 64 < k.length) : short k = Sha.sha k := if_pos h
theorem short_short {k : List UInt8} (h : ¬ 64 < k.length) : short k = k := if_neg h
theorem pad_len (k : List UInt8) : (pad k).length = 64 := by
  have := short_le k
  unfold pad
  rw [List.length_append, List.length_replicate]
  omega
theorem xr_len (x : UInt8) (l : List UInt8) : (xr x l).length = l.length := List.length_map _
theorem mac_len (k b : List UInt8) : (mac k b).length = 32 := sha_len_ _
theorem mac_digest {k : List UInt8} (h : 64 < k.length) (b : List UInt8) : mac k b = mac (Sha.sha k) b := by
  have e : pad k = pad (Sha.sha k) := by
    unfold pad
    rw [short_long h, short_short (by rw [sha_len_]; omega)]
  unfold mac
  rw [e]
theorem mac_zeros (k b : List UInt8) (n : Nat) (h : k.length + n ≤ 64) : mac (k ++ List.replicate n 0) b = mac k b := by
  have e : pad (k ++ List.replicate n 0) = pad k := by
    unfold pad
    rw [short_short (by rw [List.length_append, List.length_replicate]; omega), short_short (by omega), List.append_assoc, List.length_append, List.length_replicate, List.replicate_append_replicate]
    congr 2
    omega
  unfold mac
  rw [e]
/-- The first i bytes turned. -/
def half (x : UInt8) (p : List UInt8) (i : Nat) : List UInt8 := xr x (p.take i) ++ p.drop i
theorem half_zero (x : UInt8) (p : List UInt8) : half x p 0 = p := by simp [half, xr]
theorem half_end (x : UInt8) (p : List UInt8) (n : Nat) (h : p.length ≤ n) : half x p n = xr x p := by
  unfold half
  rw [List.take_of_length_le h, List.drop_of_length_le h, List.append_nil]
theorem half_len (x : UInt8) (p : List UInt8) (i : Nat) : (half x p i).length = p.length := by
  unfold half
  rw [List.length_append, xr_len, List.length_take, List.length_drop]
  omega
theorem half_get (x : UInt8) (p : List UInt8) (i : Nat) (h : i < p.length) : (half x p i)[i]? = some p[i] := by
  unfold half
  rw [List.getElem?_append_right (by rw [xr_len, List.length_take]; omega), xr_len, List.length_take, Nat.min_eq_left (by omega), Nat.sub_self, List.getElem?_drop, Nat.add_zero]
  exact List.getElem?_eq_getElem h
theorem half_set (x : UInt8) (p : List UInt8) (i : Nat) (h : i < p.length) : (half x p i).set i (p[i] ^^^ x) = half x p (i + 1) := by
  unfold half
  have hl : (xr x (p.take i)).length = i := by rw [xr_len, List.length_take]; omega
  rw [List.set_append_right _ _ (by omega), hl, Nat.sub_self, List.drop_eq_getElem_cons h, List.set_cons_zero, List.take_succ_eq_append_getElem h]
  unfold xr
  rw [List.map_append, List.append_assoc]
  rfl
theorem xor54 (x : UInt8) : bits .xor .u8 (x.toNat : Int) 54 = ((x ^^^ 54).toNat : Int) := by
  have : ∀ n : Fin 256, bits .xor .u8 (n.val : Int) 54 = ((UInt8.ofNat n.val ^^^ 54).toNat : Int) := by decide +kernel
  have h := this ⟨x.toNat, x.toNat_lt⟩
  simpa using h
theorem xor92 (x : UInt8) : bits .xor .u8 (x.toNat : Int) 92 = ((x ^^^ 92).toNat : Int) := by
  have : ∀ n : Fin 256, bits .xor .u8 (n.val : Int) 92 = ((UInt8.ofNat n.val ^^^ 92).toNat : Int) := by decide +kernel
  have h := this ⟨x.toNat, x.toNat_lt⟩
  simpa using h
theorem ins_pad (k : List UInt8) : ins (bv (List.replicate 64 0)) 0 (bv ((short k).take 64)) = bv (pad k) := by
  have := short_le k
  unfold ins pad
  rw [List.take_of_length_le this, List.take_zero, List.nil_append, bv_append, bv_length, Nat.zero_add, bv_drop, List.drop_replicate]
end Mac
end Go.Proofs.YtcdljlaoedaliaaDoor
