/- SHA-256 in plain Lean. No program is in sight. -/
import Derived.Test.YtcdljlaoedaliaaDoorWd
import Derived.Test.YtcdljlaoedaliaaDoorU3
set_option linter.unusedVariables false
set_option linter.unusedSimpArgs false
namespace Go.Proofs.YtcdljlaoedaliaaDoor
open Go.RowKit Wd
namespace Sha
open U3
/-- A byte as a word. -/
def w8 (x : UInt8) : UInt32 := UInt32.ofNat x.toNat
theorem w8_nat (x : UInt8) : (w8 x).toNat = x.toNat := by
  have := x.toNat_lt
  simp [w8]
def cm (x : UInt32) : UInt32 := xo x 4294967295
def s0 (x : UInt32) : UInt32 := xo (xo (rr x 7) (rr x 18)) (sr x 3)
def s1 (x : UInt32) : UInt32 := xo (xo (rr x 17) (rr x 19)) (sr x 10)
def word (b : List UInt8) (i : Nat) : UInt32 := og (og (og (sl (w8 (b.getD (4 * i) 0)) 24) (sl (w8 (b.getD (4 * i + 1) 0)) 16)) (sl (w8 (b.getD (4 * i + 2) 0)) 8)) (w8 (b.getD (4 * i + 3) 0))
def words (b : List UInt8) (n : Nat) : List UInt32 := (List.range n).map (word b)
/-- The word behind these. -/
def nextW (l : List UInt32) : UInt32 := ad (ad (ad (l.getD (l.length - 16) 0) (s0 (l.getD (l.length - 15) 0))) (l.getD (l.length - 7) 0)) (s1 (l.getD (l.length - 2) 0))
def grow : Nat → List UInt32 → List UInt32
  | 0, l => l
  | n + 1, l => grow n l ++ [nextW (grow n l)]
def sched (b : List UInt8) : List UInt32 := grow 48 (words b 16)
structure V8 where
  a : UInt32
  b : UInt32
  c : UInt32
  d : UInt32
  e : UInt32
  f : UInt32
  g : UInt32
  h : UInt32
  deriving DecidableEq
def sumE (e : UInt32) : UInt32 := xo (xo (rr e 6) (rr e 11)) (rr e 25)
def sumA (a : UInt32) : UInt32 := xo (xo (rr a 2) (rr a 13)) (rr a 22)
def tOf (v : V8) (k w : UInt32) : UInt32 := ad (ad (ad (ad v.h (sumE v.e)) (xo (an v.e v.f) (an (cm v.e) v.g))) k) w
def uOf (v : V8) : UInt32 := ad (sumA v.a) (xo (xo (an v.a v.b) (an v.a v.c)) (an v.b v.c))
def round (v : V8) (k w : UInt32) : V8 := ⟨ad (tOf v k w) (uOf v), v.a, v.b, v.c, ad v.d (tOf v k w), v.e, v.f, v.g⟩
def rounds (ks ws : List UInt32) : Nat → V8 → V8
  | 0, v => v
  | n + 1, v => round (rounds ks ws n v) (ks.getD n 0) (ws.getD n 0)
def add8 (x y : V8) : V8 := ⟨ad x.a y.a, ad x.b y.b, ad x.c y.c, ad x.d y.d, ad x.e y.e, ad x.f y.f, ad x.g y.g, ad x.h y.h⟩
def known : List UInt32 := [0x428a2f98, 0x71374491, 0xb5c0fbcf, 0xe9b5dba5, 0x3956c25b, 0x59f111f1, 0x923f82a4, 0xab1c5ed5, 0xd807aa98, 0x12835b01, 0x243185be, 0x550c7dc3, 0x72be5d74, 0x80deb1fe, 0x9bdc06a7, 0xc19bf174, 0xe49b69c1, 0xefbe4786, 0x0fc19dc6, 0x240ca1cc, 0x2de92c6f, 0x4a7484aa, 0x5cb0a9dc, 0x76f988da, 0x983e5152, 0xa831c66d, 0xb00327c8, 0xbf597fc7, 0xc6e00bf3, 0xd5a79147, 0x06ca6351, 0x14292967, 0x27b70a85, 0x2e1b2138, 0x4d2c6dfc, 0x53380d13, 0x650a7354, 0x766a0abb, 0x81c2c92e, 0x92722c85, 0xa2bfe8a1, 0xa81a664b, 0xc24b8b70, 0xc76c51a3, 0xd192e819, 0xd6990624, 0xf40e3585, 0x106aa070, 0x19a4c116, 0x1e376c08, 0x2748774c, 0x34b0bcb5, 0x391c0cb3, 0x4ed8aa4a, 0x5b9cca4f, 0x682e6ff3, 0x748f82ee, 0x78a5636f, 0x84c87814, 0x8cc70208, 0x90befffa, 0xa4506ceb, 0xbef9a3f7, 0xc67178f2]
def first : V8 := ⟨0x6a09e667, 0xbb67ae85, 0x3c6ef372, 0xa54ff53a, 0x510e527f, 0x9b05688c, 0x1f83d9ab, 0x5be0cd19⟩
def block (h : V8) (b : List UInt8) : V8 := add8 h (rounds known (sched b) 64 h)
/-- Words as cells. -/
def wv (l : List UInt32) : List Value := l.map fun x => .int .u32 (x.toNat : Int)
def V8.list (v : V8) : List UInt32 := [v.a, v.b, v.c, v.d, v.e, v.f, v.g, v.h]
theorem wv_length (l : List UInt32) : (wv l).length = l.length := by simp [wv]
theorem wv_get (l : List UInt32) (i : Nat) : (wv l)[i]? = (l[i]?).map fun x => .int .u32 (x.toNat : Int) := by simp [wv]
theorem wv_at (l : List UInt32) (i : Nat) (h : i < l.length) : (wv l)[i]? = some (.int .u32 ((l.getD i 0).toNat : Int)) := by
  rw [wv_get, List.getD_eq_getElem?_getD, List.getElem?_eq_getElem h]; rfl
theorem wv_set (l : List UInt32) (i : Nat) (x : UInt32) : (wv l).set i (.int .u32 (x.toNat : Int)) = wv (l.set i x) := by simp [wv, List.map_set]
theorem wv_one (l : List UInt32) : ∀ u ∈ wv l, u.oneCell' = true := by
  intro u hu
  simp only [wv, List.mem_map] at hu
  obtain ⟨x, _, rfl⟩ := hu
  rfl
theorem grow_length (n : Nat) (l : List UInt32) : (grow n l).length = l.length + n := by
  induction n with
  | zero => rfl
  | succ n ih => simp [grow, ih]; omega
theorem words_length (b : List UInt8) (n : Nat) : (words b n).length = n := by simp [words]
theorem words_succ (b : List UInt8) (n : Nat) : words b (n + 1) = words b n ++ [word b n] := by simp [words, List.range_succ]
/-- What a row of 64 holds when the first words l are laid. -/
def filled64 (l : List UInt32) : List UInt32 := l ++ List.replicate (64 - l.length) 0
theorem filled64_length (l : List UInt32) (h : l.length ≤ 64) : (filled64 l).length = 64 := by simp [filled64]; omega
theorem filled64_set (l : List UInt32) (x : UInt32) (h : l.length < 64) : (filled64 l).set l.length x = filled64 (l ++ [x]) := by
  unfold filled64
  obtain ⟨k, hk⟩ : ∃ k, 64 - l.length = k + 1 := ⟨63 - l.length, by omega⟩
  have hk2 : 64 - (l ++ [x]).length = k := by simp; omega
  rw [hk, hk2, List.set_append_right _ _ (Nat.le_refl _), Nat.sub_self, List.replicate_succ, List.set_cons_zero, List.append_assoc]
  rfl
theorem filled64_get (l : List UInt32) (i : Nat) (h : i < l.length) : (filled64 l).getD i 0 = l.getD i 0 := by
  unfold filled64
  rw [List.getD_eq_getElem?_getD, List.getElem?_append_left h, ← List.getD_eq_getElem?_getD]
/-- The other package's way to make a word. -/
theorem word_add (b : List UInt8) (i : Nat) : ad (ad (ad (sl (w8 (b.getD (4 * i) 0)) 24) (sl (w8 (b.getD (4 * i + 1) 0)) 16)) (sl (w8 (b.getD (4 * i + 2) 0)) 8)) (w8 (b.getD (4 * i + 3) 0)) = word b i := by
  unfold word
  generalize b.getD (4 * i) 0 = x0
  generalize b.getD (4 * i + 1) 0 = x1
  generalize b.getD (4 * i + 2) 0 = x2
  generalize b.getD (4 * i + 3) 0 = x3
  have h0 := x0.toNat_lt
  have h1 := x1.toNat_lt
  have h2 := x2.toNat_lt
  have h3 := x3.toNat_lt
  apply UInt32.toNat_inj.1
  simp only [ad_nat, og_nat, sl_nat _ _ (show 24 < 32 by decide), sl_nat _ _ (show 16 < 32 by decide), sl_nat _ _ (show 8 < 32 by decide), w8_nat]
  have e0 : x0.toNat * 2 ^ 24 % 4294967296 = 2 ^ 24 * x0.toNat := by rw [Nat.mod_eq_of_lt (by simp only [Nat.reducePow]; omega), Nat.mul_comm]
  have e1 : x1.toNat * 2 ^ 16 % 4294967296 = 2 ^ 16 * x1.toNat := by rw [Nat.mod_eq_of_lt (by simp only [Nat.reducePow]; omega), Nat.mul_comm]
  have e2 : x2.toNat * 2 ^ 8 % 4294967296 = 2 ^ 8 * x2.toNat := by rw [Nat.mod_eq_of_lt (by simp only [Nat.reducePow]; omega), Nat.mul_comm]
  rw [e0, e1, e2, Nat.or_assoc, Nat.or_assoc, ← Nat.two_pow_add_eq_or_of_lt (i := 8) h3, ← Nat.two_pow_add_eq_or_of_lt (i := 16) (by omega), ← Nat.two_pow_add_eq_or_of_lt (i := 24) (by omega)]
  omega
/-- The state h when the first i words of v have been added. -/
def mixed8 (h v : List UInt32) (i : Nat) : List UInt32 := (List.range 8).map fun j => if j < i then ad (h.getD j 0) (v.getD j 0) else h.getD j 0
theorem mixed8_length (h v : List UInt32) (i : Nat) : (mixed8 h v i).length = 8 := by simp [mixed8]
theorem mixed8_zero (h : V8) (v : List UInt32) : mixed8 h.list v 0 = h.list := rfl
theorem mixed8_end (h v : V8) : mixed8 h.list v.list 8 = (add8 h v).list := rfl
theorem mixed8_set (h v : List UInt32) (i : Nat) (hi : i < 8) : (mixed8 h v i).set i (ad (h.getD i 0) (v.getD i 0)) = mixed8 h v (i + 1) := by
  have h8 : i = 0 ∨ i = 1 ∨ i = 2 ∨ i = 3 ∨ i = 4 ∨ i = 5 ∨ i = 6 ∨ i = 7 := by omega
  rcases h8 with rfl | rfl | rfl | rfl | rfl | rfl | rfl | rfl <;> rfl
theorem mixed8_get (h v : List UInt32) (i : Nat) (hi : i < 8) : (mixed8 h v i).getD i 0 = h.getD i 0 := by
  have h8 : i = 0 ∨ i = 1 ∨ i = 2 ∨ i = 3 ∨ i = 4 ∨ i = 5 ∨ i = 6 ∨ i = 7 := by omega
  rcases h8 with rfl | rfl | rfl | rfl | rfl | rfl | rfl | rfl <;> rfl
theorem V8.list_length (v : V8) : v.list.length = 8 := rfl
end Sha
end Go.Proofs.YtcdljlaoedaliaaDoor
