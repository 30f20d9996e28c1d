/- Digits to the base 65536. No program is in sight. -/
import Derived.Test.YtcegmakkfhfalaaDoorWd
set_option linter.unusedVariables false
set_option linter.unusedSimpArgs false
namespace Go.Proofs.YtcegmakkfhfalaaDoor
open Go.RowKit Wd
def val : List Nat → Nat
  | [] => 0
  | d :: l => d + 65536 * val l
def uv (l : List Nat) : List Value := l.map fun n : Nat => .int .u64 (n : Int)
theorem uv_length (l : List Nat) : (uv l).length = l.length := by simp [uv]
theorem uv_get (l : List Nat) (i : Nat) (h : i < l.length) : (uv l)[i]? = some (.int .u64 (l[i] : Int)) := by simp [uv, h]
theorem uv_set (l : List Nat) (i n : Nat) : (uv l).set i (.int .u64 (n : Int)) = uv (l.set i n) := by simp [uv, List.map_set]
theorem uv_one (l : List Nat) : ∀ u ∈ uv l, u.oneCell' = true := by
  intro u hu
  obtain ⟨n, _, rfl⟩ := List.mem_map.1 hu
  rfl
theorem val_set (l : List Nat) (i d : Nat) (h : i < l.length) : val (l.set i d) + 65536 ^ i * l[i] = val l + 65536 ^ i * d := by
  induction l generalizing i with
  | nil => simp at h
  | cons x l ih =>
    cases i with
    | zero =>
      simp only [List.set_cons_zero, val, List.getElem_cons_zero, Nat.pow_zero, Nat.one_mul]
      omega
    | succ i =>
      have h1 := ih i (by simpa using h)
      simp only [List.set_cons_succ, val, List.getElem_cons_succ]
      have e : ∀ z : Nat, 65536 ^ (i + 1) * z = 65536 * (65536 ^ i * z) := fun z => by rw [Nat.pow_succ, Nat.mul_comm (65536 ^ i) 65536, Nat.mul_assoc]
      rw [e, e]
      omega
theorem val_take_succ (l : List Nat) (k : Nat) (h : k < l.length) : val (l.take (k + 1)) = val (l.take k) + 65536 ^ k * l[k] := by
  induction l generalizing k with
  | nil => simp at h
  | cons x l ih =>
    cases k with
    | zero => simp [val]
    | succ k =>
      have h1 := ih k (by simpa using h)
      simp only [List.take_succ_cons, val, List.getElem_cons_succ]
      rw [h1, Nat.pow_succ, Nat.mul_comm (65536 ^ k) 65536, Nat.mul_assoc]
      omega
theorem val_take_le (l : List Nat) (k : Nat) : val (l.take k) ≤ val l := by
  induction l generalizing k with
  | nil => simp
  | cons x l ih =>
    cases k with
    | zero => simp [val]
    | succ k =>
      have := ih k
      simp only [List.take_succ_cons, val]
      omega
theorem val_lt (l : List Nat) (h : ∀ d ∈ l, d < 65536) : val l < 65536 ^ l.length := by
  induction l with
  | nil => simp [val]
  | cons x l ih =>
    have h1 := ih fun d hd => h d (by simp [hd])
    have h2 := h x (by simp)
    simp only [val, List.length_cons, Nat.pow_succ]
    omega
theorem val_digit (l : List Nat) (i : Nat) (h : i < l.length) : 65536 ^ i * l[i] ≤ val l := by
  have h1 := val_set l i 0 h
  omega
/-- A carry keeps the value. -/
theorem val_carry (l : List Nat) (n : Nat) (h : n + 1 < l.length) : val ((l.set (n + 1) (l[n + 1] + l[n] / 65536)).set n (l[n] % 65536)) = val l := by
  have h1 := val_set l (n + 1) (l[n + 1] + l[n] / 65536) h
  have h2 := val_set (l.set (n + 1) (l[n + 1] + l[n] / 65536)) n (l[n] % 65536) (by rw [List.length_set]; omega)
  rw [List.getElem_set_ne (by omega)] at h2
  have e : 65536 ^ (n + 1) * (l[n + 1] + l[n] / 65536) = 65536 ^ (n + 1) * l[n + 1] + 65536 ^ n * (65536 * (l[n] / 65536)) := by
    rw [Nat.mul_add, Nat.pow_succ, Nat.mul_assoc (65536 ^ n) 65536 (l[n] / 65536)]
  have e2 : 65536 ^ n * l[n] = 65536 ^ n * (65536 * (l[n] / 65536)) + 65536 ^ n * (l[n] % 65536) := by
    rw [← Nat.mul_add, Nat.div_add_mod]
  rw [e] at h1
  omega
end Go.Proofs.YtcegmakkfhfalaaDoor
