/- A sum that goes on, in plain Lean: what it holds behind some bytes; the padding; the digest. No program is in sight. -/
import Derived.Test.YtcdljlaoedaliaaDoorSq
set_option linter.unusedVariables false
set_option linter.unusedSimpArgs false
namespace Go.Proofs.YtcdljlaoedaliaaDoor
namespace Sha
open U3
/-- The state behind the first k blocks of r. -/
def many : Nat → V8 → List UInt8 → V8
  | 0, h, _ => h
  | k + 1, h, r => block (many k h r) ((r.drop (64 * k)).take 64)
theorem many_append (k : Nat) (h : V8) (r s : List UInt8) (hk : 64 * k ≤ r.length) : many k h (r ++ s) = many k h r := by
  induction k with
  | zero => rfl
  | succ k ih =>
    show block (many k h (r ++ s)) _ = block (many k h r) _
    rw [ih (by omega), List.drop_append_of_le_length (by omega), List.take_append_of_le_length (by simp; omega)]
theorem many_add (j k : Nat) (h : V8) (r : List UInt8) : many (j + k) h r = many k (many j h r) (r.drop (64 * j)) := by
  induction k with
  | zero => rfl
  | succ k ih =>
    have e : 64 * (j + k) = 64 * j + 64 * k := by omega
    show block (many (j + k) h r) ((r.drop (64 * (j + k))).take 64) = block (many k (many j h r) (r.drop (64 * j))) (((r.drop (64 * j)).drop (64 * k)).take 64)
    rw [ih, List.drop_drop, e]
structure HM where
  h : V8
  rest : List UInt8
  n : Nat
def HM.of (all : List UInt8) : HM := ⟨many (all.length / 64) first all, all.drop (64 * (all.length / 64)), all.length⟩
/-- What l more bytes turn it into. -/
def HM.write (H : HM) (l : List UInt8) : HM := ⟨many ((H.rest ++ l).length / 64) H.h (H.rest ++ l), (H.rest ++ l).drop (64 * ((H.rest ++ l).length / 64)), H.n + l.length⟩
theorem HM.write_of (a l : List UInt8) : (HM.of a).write l = HM.of (a ++ l) := by
  have hm := Nat.div_add_mod a.length 64
  have hlt := Nat.mod_lt a.length (show 64 > 0 by decide)
  have hd : (a.drop (64 * (a.length / 64)) ++ l) = (a ++ l).drop (64 * (a.length / 64)) := by rw [List.drop_append_of_le_length (by omega)]
  have hlen : ((a ++ l).drop (64 * (a.length / 64))).length = a.length + l.length - 64 * (a.length / 64) := by simp
  have hq : (a ++ l).length / 64 = a.length / 64 + ((a ++ l).drop (64 * (a.length / 64))).length / 64 := by
    rw [hlen, List.length_append]
    omega
  unfold HM.write HM.of
  simp only [hd]
  congr 1
  · rw [hq, many_add, many_append _ _ _ _ (by omega)]
  · rw [List.drop_drop, hq]
    congr 1
    omega
  · simp
def HM.new : HM := ⟨first, [], 0⟩
theorem HM.new_of : HM.new = HM.of [] := rfl
/-- What ends a sum of n bytes, of which r are still to be taken. -/
def be64 (n : Nat) : List UInt8 := (List.range 8).map fun i => UInt8.ofNat (n / 2 ^ (8 * (7 - i)))
def tail (r : List UInt8) (n : Nat) : List UInt8 := r ++ [128] ++ List.replicate ((119 - r.length % 64) % 64) 0 ++ be64 (8 * n % 2 ^ 64)
def digest (v : V8) : List UInt8 := v.list.flatMap fun x => [UInt8.ofNat (x.toNat / 16777216), UInt8.ofNat (x.toNat / 65536), UInt8.ofNat (x.toNat / 256), UInt8.ofNat x.toNat]
def HM.sum (H : HM) : List UInt8 := digest (many ((tail H.rest H.n).length / 64) H.h (tail H.rest H.n))
/-- THE DIGEST. -/
def sha (l : List UInt8) : List UInt8 := (HM.of l).sum
/-- The other package takes the whole at once. -/
theorem sha_whole (l : List UInt8) : sha l = digest (many ((tail l l.length).length / 64) first (tail l l.length)) := by
  have hm := Nat.div_add_mod l.length 64
  have e : tail (l.drop (64 * (l.length / 64))) l.length = (tail l l.length).drop (64 * (l.length / 64)) := by
    unfold tail
    have h1 : (l.drop (64 * (l.length / 64))).length % 64 = l.length % 64 := by rw [List.length_drop]; omega
    rw [h1, List.append_assoc, List.append_assoc, List.append_assoc, List.append_assoc, ← List.drop_append_of_le_length (by omega)]
  have hlen : ((tail l l.length).drop (64 * (l.length / 64))).length = (tail l l.length).length - 64 * (l.length / 64) := by simp
  have hge : l.length ≤ (tail l l.length).length := by simp [tail]
  have hp : tail l l.length = l ++ ([128] ++ List.replicate ((119 - l.length % 64) % 64) 0 ++ be64 (8 * l.length % 2 ^ 64)) := by simp [tail]
  show digest (many ((tail (l.drop _) l.length).length / 64) (many (l.length / 64) first l) (tail (l.drop _) l.length)) = _
  rw [e]
  have hmm : many (l.length / 64) first l = many (l.length / 64) first (tail l l.length) := by rw [hp, many_append _ _ _ _ (by omega)]
  rw [hmm, ← many_add]
  congr 2
  rw [hlen]
  omega
end Sha
end Go.Proofs.YtcdljlaoedaliaaDoor
