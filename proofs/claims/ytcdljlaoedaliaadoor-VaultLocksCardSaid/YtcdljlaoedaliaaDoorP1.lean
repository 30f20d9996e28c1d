/- Base64 as the document reckons it, in plain Lean. No program is in sight. -/
import Derived.Test.YtcdljlaoedaliaaDoorT5
import Derived.Test.YtcdljlaoedaliaaDoorT6
import Derived.Test.YtcdljlaoedaliaaDoorT9
import Derived.Test.YtcdljlaoedaliaaDoorV1
import Derived.Deep.DeepCutAuto
set_option linter.unusedVariables false
set_option linter.unusedSimpArgs false
namespace Go.Proofs.YtcdljlaoedaliaaDoor
open Go.RowKit Wd
namespace B64
def at_ (r : List UInt8) (p : Nat) : Nat := (r.getD (p / 8) 0).toNat / 2 ^ (7 - p % 8) % 2
def acc (r : List UInt8) (k : Nat) : Nat → Nat
  | 0 => 0
  | j + 1 => acc r k j * 2 + (if (6 * k + j) / 8 < r.length then at_ r (6 * k + j) else 0)
def ch (r : List UInt8) (k : Nat) : UInt8 := if 6 * k / 8 < r.length then dig (acc r k 6) else 61
theorem at_le (r : List UInt8) (p : Nat) : at_ r p ≤ 1 := by unfold at_; omega
theorem acc_lt (r : List UInt8) (k j : Nat) : acc r k j < 2 ^ j := by
  induction j with
  | zero => simp [acc]
  | succ j ih =>
    have := at_le r (6 * k + j)
    rw [acc, Nat.pow_succ]
    split <;> omega
theorem at0 (a : UInt8) (r : List UInt8) (p : Nat) (h : p < 8) : at_ (a :: r) p = a.toNat / 2 ^ (7 - p) % 2 := by
  unfold at_
  rw [show p / 8 = 0 from by omega, show p % 8 = p from by omega]
  rfl
theorem at8 (a : UInt8) (r : List UInt8) (p : Nat) : at_ (a :: r) (p + 8) = at_ r p := by
  unfold at_
  rw [show (p + 8) / 8 = p / 8 + 1 from by omega, show (p + 8) % 8 = p % 8 from by omega]
  rfl
theorem atn (p : Nat) : at_ [] p = 0 := by
  unfold at_
  simp
def bits6 (a b c d e f : Nat) : Nat := ((((a * 2 + b) * 2 + c) * 2 + d) * 2 + e) * 2 + f
theorem at_none (r : List UInt8) (p : Nat) : (if p / 8 < r.length then at_ r p else 0) = at_ r p := by
  split
  · rfl
  · rename_i h
    unfold at_
    rw [List.getD_eq_getElem?_getD, List.getElem?_eq_none (by omega)]
    simp
theorem acc_at (r : List UInt8) (k : Nat) : acc r k 6 = bits6 (at_ r (6 * k + 0)) (at_ r (6 * k + 1)) (at_ r (6 * k + 2)) (at_ r (6 * k + 3)) (at_ r (6 * k + 4)) (at_ r (6 * k + 5)) := by
  simp only [acc, at_none, bits6, Nat.zero_mul, Nat.zero_add]
theorem ch0 (a b c : UInt8) (r : List UInt8) : acc (a :: b :: c :: r) 0 6 = val a b c / 262144 ∧ acc (a :: b :: c :: r) 1 6 = val a b c / 4096 % 64 ∧ acc (a :: b :: c :: r) 2 6 = val a b c / 64 % 64 ∧ acc (a :: b :: c :: r) 3 6 = val a b c % 64 := by
  have ha := a.toNat_lt
  have hb := b.toNat_lt
  have hc := c.toNat_lt
  have A := fun p h => at0 a (b :: c :: r) p h
  have B := fun p h => (at8 a (b :: c :: r) p).trans (at0 b (c :: r) p h)
  have C := fun p h => (at8 a (b :: c :: r) (p + 8)).trans ((at8 b (c :: r) p).trans (at0 c r p h))
  refine ⟨?_, ?_, ?_, ?_⟩
  · rw [acc_at]
    unfold bits6 val
    rw [A (6 * 0 + 0) (by decide), A (6 * 0 + 1) (by decide), A (6 * 0 + 2) (by decide), A (6 * 0 + 3) (by decide), A (6 * 0 + 4) (by decide), A (6 * 0 + 5) (by decide)]
    simp only [Nat.reduceMul, Nat.reduceAdd, Nat.reduceSub, Nat.reducePow]
    omega
  · rw [acc_at]
    unfold bits6 val
    rw [A (6 * 1 + 0) (by decide), A (6 * 1 + 1) (by decide), show 6 * 1 + 2 = 0 + 8 from rfl, show 6 * 1 + 3 = 1 + 8 from rfl, show 6 * 1 + 4 = 2 + 8 from rfl, show 6 * 1 + 5 = 3 + 8 from rfl, B 0 (by decide), B 1 (by decide), B 2 (by decide), B 3 (by decide)]
    simp only [Nat.reduceMul, Nat.reduceAdd, Nat.reduceSub, Nat.reducePow]
    omega
  · rw [acc_at]
    unfold bits6 val
    rw [show 6 * 2 + 0 = 4 + 8 from rfl, show 6 * 2 + 1 = 5 + 8 from rfl, show 6 * 2 + 2 = 6 + 8 from rfl, show 6 * 2 + 3 = 7 + 8 from rfl, show 6 * 2 + 4 = 0 + 8 + 8 from rfl, show 6 * 2 + 5 = 1 + 8 + 8 from rfl, B 4 (by decide), B 5 (by decide), B 6 (by decide), B 7 (by decide), C 0 (by decide), C 1 (by decide)]
    simp only [Nat.reduceMul, Nat.reduceAdd, Nat.reduceSub, Nat.reducePow]
    omega
  · rw [acc_at]
    unfold bits6 val
    rw [show 6 * 3 + 0 = 2 + 8 + 8 from rfl, show 6 * 3 + 1 = 3 + 8 + 8 from rfl, show 6 * 3 + 2 = 4 + 8 + 8 from rfl, show 6 * 3 + 3 = 5 + 8 + 8 from rfl, show 6 * 3 + 4 = 6 + 8 + 8 from rfl, show 6 * 3 + 5 = 7 + 8 + 8 from rfl, C 2 (by decide), C 3 (by decide), C 4 (by decide), C 5 (by decide), C 6 (by decide), C 7 (by decide)]
    simp only [Nat.reduceMul, Nat.reduceAdd, Nat.reduceSub, Nat.reducePow]
    omega
theorem at_pad (r : List UInt8) (p : Nat) : at_ (r ++ [0]) p = at_ r p := by
  unfold at_
  congr 3
  rw [List.getD_eq_getElem?_getD, List.getD_eq_getElem?_getD, List.getElem?_append]
  split
  · rfl
  · rename_i h
    rw [List.getElem?_eq_none (l := r) (by omega)]
    rcases Nat.eq_or_lt_of_le (Nat.le_of_not_lt h) with h1 | h1
    · rw [← h1]; simp
    · rw [List.getElem?_eq_none (by simp; omega)]
theorem acc_pad (r : List UInt8) (k : Nat) : acc r k 6 = acc (r ++ [0]) k 6 := by
  rw [acc_at, acc_at, at_pad, at_pad, at_pad, at_pad, at_pad, at_pad]
theorem enc_ch (r : List UInt8) (h : r ≠ []) : enc r = [ch r 0, ch r 1, ch r 2, ch r 3] ++ enc (r.drop 3) := by
  match r, h with
  | [a], _ =>
    obtain ⟨h0, h1, h2, h3⟩ := ch0 a 0 0 []
    have e : ∀ k, acc [a] k 6 = acc [a, 0, 0] k 6 := fun k => (acc_pad [a] k).trans (acc_pad [a, 0] k)
    unfold ch
    rw [if_pos (by simp : 6 * 0 / 8 < [a].length), if_pos (by simp : 6 * 1 / 8 < [a].length), if_neg (by simp), if_neg (by simp), e, e, h0, h1]
    rfl
  | [a, b], _ =>
    obtain ⟨h0, h1, h2, h3⟩ := ch0 a b 0 []
    have e : ∀ k, acc [a, b] k 6 = acc [a, b, 0] k 6 := fun k => acc_pad [a, b] k
    unfold ch
    rw [if_pos (by simp : 6 * 0 / 8 < [a, b].length), if_pos (by simp : 6 * 1 / 8 < [a, b].length), if_pos (by simp : 6 * 2 / 8 < [a, b].length), if_neg (by simp), e, e, e, h0, h1, h2]
    rfl
  | a :: b :: c :: r, _ =>
    obtain ⟨h0, h1, h2, h3⟩ := ch0 a b c r
    have e1 : ∀ k, k < 4 → 6 * k / 8 < (a :: b :: c :: r).length := fun k h => by simp only [List.length_cons]; omega
    unfold ch
    rw [if_pos (e1 0 (by omega)), if_pos (e1 1 (by omega)), if_pos (e1 2 (by omega)), if_pos (e1 3 (by omega)), h0, h1, h2, h3]
    rfl
end B64
end Go.Proofs.YtcdljlaoedaliaaDoor
/- The document's Basic. -/
set_option linter.unusedVariables false
set_option linter.unusedSimpArgs false
namespace Go.Proofs.YtcdljlaoedaliaaDoor
open Go.RowKit Wd
/-- One bit on: what the walk reckons. -/
theorem B64.bit_on (s : List UInt8) (a k j : Nat) (hj : j < 6) (hk : k < 4) (ha : a < s.length) (hs : s.length ≤ 1000) :
    ∃ i q m d p sh : Nat, i = 6 * k + j ∧ (i : Int) / 8 = (q : Int) ∧ (i : Int).tdiv 8 = (q : Int) ∧ (i : Int) % 8 = (m : Int) ∧ (i : Int).tmod 8 = (m : Int) ∧ (7 : Int) - (m : Int) = (d : Int) ∧ (2 : Int) ^ d = (sh : Int) ∧ (a : Int) + (q : Int) = (p : Int) ∧ d ≤ 7 ∧ q ≤ 2 ∧ p ≤ 1002 ∧
      ((p < s.length ∧ ∃ (x y : Nat), (((s.getD p 0).toNat : Nat) : Int) / (sh : Int) = (x : Int) ∧ (x : Int) % 2 = (y : Int) ∧ (x : Int).tmod 2 = (y : Int) ∧ y ≤ 1 ∧ B64.acc (s.drop a) k (j + 1) = B64.acc (s.drop a) k j * 2 + y ∧ (decide (0 < j + 1) && decide (6 * k / 8 < (s.drop a).length)) = true ∧ i < 8 * (s.length - a)) ∨
       (¬ p < s.length ∧ B64.acc (s.drop a) k (j + 1) = B64.acc (s.drop a) k j * 2 ∧ (decide (0 < j) && decide (6 * k / 8 < (s.drop a).length)) = (decide (0 < j + 1) && decide (6 * k / 8 < (s.drop a).length)))) := by
  obtain ⟨sh, hsh⟩ : ∃ sh : Nat, sh = 2 ^ (7 - (6 * k + j) % 8) := ⟨_, rfl⟩
  have hsh2 : (2 : Int) ^ (7 - (6 * k + j) % 8) = (sh : Int) := by rw [hsh]; push_cast; rfl
  refine ⟨6 * k + j, (6 * k + j) / 8, (6 * k + j) % 8, 7 - (6 * k + j) % 8, a + (6 * k + j) / 8, sh, rfl, by omega, by rw [Int.tdiv_eq_ediv_of_nonneg (by omega)]; omega, by omega, by rw [Int.tmod_eq_emod_of_nonneg (by omega)]; omega, by omega, hsh2, by omega, by omega, by omega, by omega, ?_⟩
  have hl : (s.drop a).length = s.length - a := List.length_drop
  by_cases h : a + (6 * k + j) / 8 < s.length
  · obtain ⟨x, hx⟩ : ∃ x : Nat, x = (s.getD (a + (6 * k + j) / 8) 0).toNat / sh := ⟨_, rfl⟩
    refine .inl ⟨h, x, x % 2, by rw [hx]; push_cast; rfl, by omega, by rw [Int.tmod_eq_emod_of_nonneg (by omega)]; omega, by omega, ?_, ?_, by omega⟩
    · rw [B64.acc, if_pos (by rw [hl]; omega), hx, hsh]
      unfold B64.at_
      rw [List.getD_eq_getElem?_getD, List.getD_eq_getElem?_getD, List.getElem?_drop]
    · rw [hl, decide_eq_true (by omega), decide_eq_true (by omega)]
      rfl
  · refine .inr ⟨h, ?_, ?_⟩
    · rw [B64.acc, if_neg (by rw [hl]; omega)]
      omega
    · rw [hl]
      by_cases h2 : 6 * k / 8 < s.length - a
      · have hj0 : 0 < j := by omega
        simp [h2, hj0]
      · simp [h2]
theorem B64.tab_mid (v : Nat) (h : v < 64) : (B64.tab.take (v + 1)).drop v = [B64.dig v] := by
  obtain ⟨h1, h2⟩ := B64.dig_at v h
  rw [List.take_succ_eq_append_getElem h1, List.drop_left' (by rw [List.length_take]; omega), h2]
set_option maxRecDepth 100000 in
set_option maxHeartbeats 4000000 in
theorem rbasic_any (u p : List UInt8) (hu : u.length ≤ 128) (hp : p.length ≤ 128) (w : World) :
    Calls Tryd.prog 31 #[.string (str u), .string (str p)] w fun e w' => e = .returned (.string (str ([66, 97, 115, 105, 99, 32] ++ B64.enc (u ++ [58] ++ p)))) ∧ w = w' := by
  obtain ⟨s, hs⟩ : ∃ s, s = u ++ [58] ++ p := ⟨_, rfl⟩
  have hsl : s.length ≤ 257 := by rw [hs]; simp; omega
  have a1 : ∀ w, (Op.stringOp .add (str u) (str [58])).run Tryd.prog w = .ok (.string (str (u ++ [58]))) w := fun w => run_string_add_lists w u [58] (by omega) (by decide)
  have a2 : ∀ w, (Op.stringOp .add (str (u ++ [58])) (str p)).run Tryd.prog w = .ok (.string (str s)) w := fun w => by
    rw [hs]
    exact run_string_add_lists w (u ++ [58]) p (by simp; omega) (by omega)
  obtain ⟨X1, hX1⟩ : ∃ X1, X1 = u ++ [58] := ⟨_, rfl⟩
  rw [← hX1] at a1 a2
  rw [← hs]
  obtain ⟨R, hR⟩ : ∃ R, R = [66, 97, 115, 105, 99, 32] ++ B64.enc s := ⟨_, rfl⟩
  rw [← hR]
  obtain ⟨n, hn⟩ : ∃ n, n = s.length := ⟨_, rfl⟩
  obtain ⟨S, hS⟩ : ∃ S, S = str s := ⟨_, rfl⟩
  have hSn : S.size = n := by rw [hS, str_size, hn]
  rw [← hS] at a2
  have HR := Lib.hid hR
  have HN := Lib.hid hn
  have HS := Lib.hid hS
  have HSL := Lib.hid hsl
  clear hs hsl hX1 hR hn hS hu hp
  go_enter Tryd.func31, Tryd.ntmps31
  go_wp2
  clear a1 a2
  go_loopw [6, 8] (fun o i wr => ∃ (X : List UInt8) (a : Nat), i = .int .i64 (a : Int) ∧ a ≤ n + 2 ∧ X.length ≤ 2 * a + 6 ∧ o = .string (str X) ∧ X ++ B64.enc (s.drop a) = R ∧ wr = w) (fun _ i _ => n + 3 - (intOf i).toNat)
  case atStart => exact ⟨[66, 97, 115, 105, 99, 32], 0, rfl, by omega, by simp, rfl, by rw [List.drop_zero, HR.out], rfl⟩
  case round =>
    obtain ⟨X, a, rfl, ha, hXl, rfl, hE, rfl⟩ := hrel
    have HE := Lib.hid hE
    have HXL := Lib.hid hXl
    have HA := Lib.hid ha
    clear hE hXl ha
    by_cases hlt : a < n
    · have q1 : (a : Int) < (n : Int) := by omega
      have HLT := Lib.hid hlt
      clear hlt
      go_wp2
      go_loopw [6, 9] (fun o k wr' => ∃ (Y : List UInt8) (c : Nat), c ≤ 4 ∧ k = .int .i64 (c : Int) ∧ Y.length ≤ X.length + c ∧ o = .string (str Y) ∧ Y = X ++ ([B64.ch (s.drop a) 0, B64.ch (s.drop a) 1, B64.ch (s.drop a) 2, B64.ch (s.drop a) 3].take c) ∧ wr' = wr) (fun _ k _ => 4 - (intOf k).toNat)
      case atStart => exact ⟨X, 0, by omega, rfl, by omega, rfl, by simp, rfl⟩
      case round =>
        obtain ⟨Y, c, hc, rfl, hYl, rfl, hY, rfl⟩ := hrel
        have HY := Lib.hid hY
        have HYL := Lib.hid hYl
        clear hY hYl
        by_cases hc4 : c < 4
        · have q2 : (c : Int) < 4 := by omega
          obtain ⟨c6, hc6⟩ : ∃ c6, c6 = 6 * c := ⟨_, rfl⟩
          have e6 : (6 : Int) * (c : Int) = (c6 : Int) := by omega
          have HC6 := Lib.hid hc6
          have hc6b : c6 ≤ 18 := by omega
          clear hc6
          go_wp2
          go_loopw [10, 11, 12] (fun v b i wr2 => ∃ j : Nat, j ≤ 6 ∧ v = .int .i64 (B64.acc (s.drop a) c j : Int) ∧ b = .bool (decide (0 < j) && decide (6 * c / 8 < (s.drop a).length)) ∧ i = .int .i64 ((c6 + j : Nat) : Int) ∧ wr2 = wr) (fun _ _ i _ => 24 - (intOf i).toNat)
          case atStart => exact ⟨0, by omega, rfl, rfl, rfl, rfl⟩
          case round =>
            obtain ⟨j, hj, rfl, rfl, rfl, rfl⟩ := hrel
            by_cases hj6 : j < 6
            · obtain ⟨i, q, m, d, p, sh, hi, e1, e2, e3, e4, e5, e7, e8, hd, hq, hp, hcase⟩ := B64.bit_on s a c j hj6 hc4 (by have := HLT.out; have := HN.out; omega) (by have := HSL.out; omega)
              have hV := B64.acc_lt (s.drop a) c j
              have hV2 : 2 ^ j ≤ 32 := Nat.le_trans (Nat.pow_le_pow_right (by decide) (by omega : j ≤ 5)) (by decide)
              have hi2 : c6 + j = i := by have := HC6.out; omega
              rw [hi2]
              obtain ⟨V, hVe⟩ : ∃ V, V = B64.acc (s.drop a) c j := ⟨_, rfl⟩
              obtain ⟨T, hTe⟩ : ∃ T, T = B64.acc (s.drop a) c (j + 1) := ⟨_, rfl⟩
              obtain ⟨b, hbe⟩ : ∃ b, b = (decide (0 < j) && decide (6 * c / 8 < (s.drop a).length)) := ⟨_, rfl⟩
              obtain ⟨b2, hbe2⟩ : ∃ b, b = (decide (0 < j + 1) && decide (6 * c / 8 < (s.drop a).length)) := ⟨_, rfl⟩
              rw [← hVe, ← hbe]
              rw [← hVe] at hV
              rw [← hVe, ← hTe, ← hbe, ← hbe2, ← HN.out] at hcase
              obtain ⟨V2, hV2e⟩ : ∃ V2, V2 = V * 2 := ⟨_, rfl⟩
              rw [← hV2e] at hcase
              have f1 : (V : Int) * 2 = (V2 : Int) := by omega
              have f2 : V2 ≤ 64 := by omega
              have f3 : (i : Int) < (c6 : Int) + 6 := by have := HC6.out; omega
              have hfin : ∀ k2 : Nat, i = k2 → c6 + (j + 1) = k2 + 1 := fun k2 h => by omega
              have HFIN := Lib.hid hfin
              have HTE := Lib.hid hTe
              have HB2 := Lib.hid hbe2
              have hi24 : i ≤ 23 := by omega
              clear hV hV2 hVe hTe hbe hbe2 hV2e hi hi2 hfin
              rcases hcase with ⟨hpn, x, y, g1, g2, g3, g4, g5, g6, g7⟩ | ⟨hpn, g5, g6⟩
              · have hix := fun w => str_index (P := Tryd.prog) (t := 9) (k := .i64) Tryd.underlying9 s p (by have := HN.out; omega) (i := (p : Int)) rfl w
                have hgd : s.getD p 0 = s[p]'(by have := HN.out; omega) := by rw [List.getD_eq_getElem?_getD, List.getElem?_eq_getElem (by have := HN.out; omega)]; rfl
                rw [hgd] at g1
                obtain ⟨B, hB⟩ : ∃ B, B = (s[p]'(by have := HN.out; omega)).toNat := ⟨_, rfl⟩
                have hBl := (s[p]'(by have := HN.out; omega)).toNat_lt
                simp only [← hB, ← HS.out] at hix hBl
                rw [← hB] at g1
                obtain ⟨na, hna⟩ : ∃ na, na = n - a := ⟨_, rfl⟩
                rw [← hna] at g7
                have hna2 : (n : Int) - (a : Int) = (na : Int) := by have := HLT.out; omega
                obtain ⟨na8, hna8⟩ : ∃ x, x = 8 * na := ⟨_, rfl⟩
                rw [← hna8] at g7
                have hna3 : (8 : Int) * (na : Int) = (na8 : Int) := by omega
                have f4 : (i : Int) < (na8 : Int) := by omega
                have f5 : (p : Int) < (n : Int) := by omega
                have f6 : (V2 : Int) + (y : Int) = (T : Int) := by omega
                have f7 : x ≤ 255 := by
                  have h1 : (x : Int) ≤ (B : Int) := by rw [← g1]; exact Int.ediv_le_self _ (by omega)
                  omega
                have f8 : T ≤ 70 := by omega
                have hnab : na ≤ 1000 := by have := HSL.out; have := HN.out; omega
                have hnab8 : na8 ≤ 8000 := by omega
                have G6 := Lib.hid g6
                clear hgd hB hna hna8 g5 g6 g7 hpn
                cases b with
                | true =>
                  go_wp2
                  exact ⟨⟨j + 1, by omega, by rw [← HTE.out], by rw [← HB2.out, G6.out], by rw [HFIN.out i rfl]; go_num, trivial⟩, by simp [intOf]; omega⟩
                | false =>
                  go_wp2
                  exact ⟨⟨j + 1, by omega, by rw [← HTE.out], by rw [← HB2.out, G6.out], by rw [HFIN.out i rfl]; go_num, trivial⟩, by simp [intOf]; omega⟩
              · have f5 : ¬ (p : Int) < (n : Int) := by omega
                subst g5
                subst g6
                go_wp2
                exact ⟨⟨j + 1, by omega, by rw [← HTE.out], by rw [← HB2.out], by rw [HFIN.out i rfl]; go_num, trivial⟩, by simp [intOf]; omega⟩
            · obtain rfl : j = 6 := by omega
              obtain ⟨i, hi⟩ : ∃ i, i = c6 + 6 := ⟨_, rfl⟩
              have f3 : ¬ (i : Int) < (c6 : Int) + 6 := by omega
              rw [← hi]
              have hV := B64.acc_lt (s.drop a) c 6
              obtain ⟨V, hVe⟩ : ∃ V, V = B64.acc (s.drop a) c 6 := ⟨_, rfl⟩
              rw [← hVe] at hV ⊢
              have hV64 : V < 64 := hV
              have hch : B64.ch (s.drop a) c = if 6 * c / 8 < (s.drop a).length then B64.dig V else 61 := by rw [hVe]; rfl
              obtain ⟨D, hD⟩ : ∃ D, D = B64.ch (s.drop a) c := ⟨_, rfl⟩
              rw [← hD] at hch
              have htk : ([B64.ch (s.drop a) 0, B64.ch (s.drop a) 1, B64.ch (s.drop a) 2, B64.ch (s.drop a) 3].take (c + 1)) = ([B64.ch (s.drop a) 0, B64.ch (s.drop a) 1, B64.ch (s.drop a) 2, B64.ch (s.drop a) 3].take c) ++ [D] := by
                rw [List.take_succ_eq_append_getElem (by simpa using hc4), hD]
                congr 2
                match c, hc4 with
                | 0, _ => rfl
                | 1, _ => rfl
                | 2, _ => rfl
                | 3, _ => rfl
              have hadd : ∀ w, (Op.stringOp .add (str Y) (str [D])).run Tryd.prog w = .ok (.string (str (Y ++ [D]))) w := fun w => run_string_add_lists w Y [D] (by have := HYL.out; have := HXL.out; have := HLT.out; have := HSL.out; have := HN.out; omega) (by simp)
              have hYn : (Y ++ [D]).length ≤ X.length + (c + 1) := by rw [List.length_append]; have := HYL.out; simp; omega
              obtain ⟨Y2, hY2⟩ : ∃ Y2, Y2 = Y ++ [D] := ⟨_, rfl⟩
              rw [← hY2] at hadd hYn
              have hrel2 : Y2 = X ++ ([B64.ch (s.drop a) 0, B64.ch (s.drop a) 1, B64.ch (s.drop a) 2, B64.ch (s.drop a) 3].take (c + 1)) := by rw [hY2, htk, HY.out, List.append_assoc]
              have HY2 := Lib.hid hrel2
              have HYN := Lib.hid hYn
              clear hrel2 hYn hY2 htk hD hV hVe
              by_cases hin : 6 * c / 8 < (s.drop a).length
              · rw [if_pos hin] at hch
                have hb : (decide (0 < 6) && decide (6 * c / 8 < (s.drop a).length)) = true := by rw [decide_eq_true hin]; rfl
                rw [hb]
                have hsl := fun w => str_mid (P := Tryd.prog) (t := 9) (k := .i64) (k' := .i64) Tryd.underlying9 B64.tab V (V + 1) (by omega) (by rw [B64.tab_len]; omega) (i := (V : Int)) (j := (V : Int) + 1) rfl (by omega) w
                simp only [B64.tab_mid V hV64, ← hch] at hsl
                simp only [B64.tab] at hsl
                clear hch hin hb
                go_wp2
                exact ⟨⟨Y2, c + 1, by omega, by go_num, HYN.out, rfl, HY2.out, trivial⟩, by simp [intOf]; omega⟩
              · rw [if_neg hin] at hch
                have hb : (decide (0 < 6) && decide (6 * c / 8 < (s.drop a).length)) = false := by rw [decide_eq_false hin]; rfl
                rw [hb]
                subst hch
                clear hin hb
                go_wp2
                exact ⟨⟨Y2, c + 1, by omega, by go_num, HYN.out, rfl, HY2.out, trivial⟩, by simp [intOf]; omega⟩
        · obtain rfl : c = 4 := by omega
          have q2 : ¬ ((4 : Nat) : Int) < 4 := by omega
          have hne : s.drop a ≠ [] := fun h => by
            have := List.drop_eq_nil_iff.1 h
            have := HLT.out
            have := HN.out
            omega
          have hfin : Y ++ B64.enc (s.drop (a + 3)) = R := by
            have h1 := HE.out
            rw [B64.enc_ch _ hne, List.drop_drop, ← List.append_assoc] at h1
            have h2 := HY.out
            rw [show ([B64.ch (s.drop a) 0, B64.ch (s.drop a) 1, B64.ch (s.drop a) 2, B64.ch (s.drop a) 3].take 4) = [B64.ch (s.drop a) 0, B64.ch (s.drop a) 1, B64.ch (s.drop a) 2, B64.ch (s.drop a) 3] from rfl] at h2
            rw [h2]
            exact h1
          have HF := Lib.hid hfin
          have hab : a ≤ 300 := by have := HLT.out; have := HSL.out; have := HN.out; omega
          clear hfin hne
          go_wp2
          exact ⟨⟨Y, a + 3, by go_num, by have := HLT.out; omega, by have := HYL.out; have := HXL.out; omega, rfl, HF.out, trivial⟩, by have := HLT.out; simp [intOf]; omega⟩
    · have q1 : ¬ (a : Int) < (n : Int) := by omega
      have hz : X = R := by
        have := HE.out
        rw [List.drop_eq_nil_of_le (by have := HN.out; omega)] at this
        simpa [B64.enc] using this
      subst hz
      clear hlt
      go_wp2
      go_ret
      exact ⟨rfl, rfl⟩
end Go.Proofs.YtcdljlaoedaliaaDoor
/- Credentials locked. -/
set_option linter.unusedVariables false
set_option linter.unusedSimpArgs false
namespace Go.Proofs.YtcdljlaoedaliaaDoor
open Go.RowKit Wd
def blob (u p : List UInt8) : List UInt8 := UInt8.ofNat u.length :: (u ++ p)
theorem cerr_zero {u p : List UInt8} (h : Va.cerr u p = 0) : u.length ≤ 128 ∧ p.length ≤ 128 := by
  unfold Va.cerr at h
  split at h
  · cases h
  · omega
theorem blob_len {u p : List UInt8} (h : Va.cerr u p = 0) : (blob u p).length ≤ 257 := by
  obtain ⟨h1, h2⟩ := cerr_zero h
  unfold blob
  simp
  omega
/-- What was locked unlocks. -/
theorem unlock_lock (k non lb u p : List UInt8) (hn : non.length = 16) (hl : lb.length ≤ 46) (h : Va.cerr u p = 0) : (Seal.sealR k non lb (blob u p)).2 = 0 ∧ unlockR k lb (Seal.sealR k non lb (blob u p)).1 = (u, p, 0) := by
  have hb := blob_len h
  obtain ⟨h1, h2⟩ := cerr_zero h
  have e : Seal.sealR k non lb (blob u p) = (Seal.sealed k non lb (blob u p), 0) := by unfold Seal.sealR; rw [if_neg (by omega)]
  rw [e]
  refine ⟨rfl, ?_⟩
  unfold unlockR
  rw [Seal.open_sealed k non lb (blob u p) hn (by omega) (by omega)]
  have hx : (UInt8.ofNat u.length).toNat = u.length := by rw [UInt8.toNat_ofNat']; omega
  unfold blob
  simp only [ne_eq, not_true_eq_false, if_false, hx]
  rw [if_neg (by simp), List.take_left, List.drop_left, h]
  simp
section
variable {w0 w : World} {M : Mem} {L : List Ent}
set_option maxRecDepth 100000 in
set_option maxHeartbeats 4000000 in
theorem rlock_any (H : St w0 w M L) {A : Option Addr} {c : Nat} {k : List UInt8} (hA : A = none → c = 0) (hc : k.length ≤ c) (hk : Sr w0 M L A k) (hn : k.length < 1000000)
    (salt : List UInt8) (hsa : salt.length = 16) (a b : Nat) (ha : a < 18446744073709551616) (hb : b < 18446744073709551616) (u p : List UInt8) (hup : Va.cerr u p = 0) :
    Calls Tryd.prog 32 #[.slice A k.length c, .agg (bv salt).toArray, .int .u64 (a : Int), .int .u64 (b : Int), .string (str u), .string (str p)] w (RetBytes w0 M L (Seal.sealR k salt (lab a b) (blob u p)).1 fun v => .returned v) := by
  obtain ⟨hu1, hp1⟩ := cerr_zero hup
  have hll := lab_len a b ha hb
  have hbl := blob_len hup
  have hlb := fun W => rlabel_any a b ha hb W
  have hse := fun W F C f (HW : St w0 W M F) (hk' : Sr w0 M F A k) (hC : C = none → f = 0) (hf : (blob u p).length ≤ f) (hs : Sr w0 M F C (blob u p)) => rseal_any HW hA hc hk' hn salt (lab a b) hsa (by omega) hC hf hs (by omega)
  obtain ⟨lb, hlbl⟩ : ∃ lb, lb = lab a b := ⟨_, rfl⟩
  simp only [← hlbl] at hlb hse ⊢
  obtain ⟨⟨R, E⟩, hR⟩ : ∃ R, R = Seal.sealR k salt lb (blob u p) := ⟨_, rfl⟩
  simp only [← hR] at hse ⊢
  obtain ⟨n, hN⟩ : ∃ n, n = u.length := ⟨_, rfl⟩
  have hus : (str u).size = n := by rw [str_size, hN]
  have hbe : blob u p = [UInt8.ofNat n] ++ u ++ p := by rw [hN]; rfl
  have hbn : (blob u p).length = 1 + n + p.length := by rw [hbe, hN]; simp; omega
  have hb8 : ((UInt8.ofNat n).toNat : Int) = (n : Int) := by rw [UInt8.toNat_ofNat']; omega
  have hbv : (bv salt).length = 16 := by rw [bv_length, hsa]
  have H1 := H.new (bv salt) 24
  have wn : IntKind.u8.wrap (n : Int) = (n : Int) := by rw [IntKind.wrap_u8]; omega
  have HLB := Lib.hid hlb
  have HSE := Lib.hid hse
  have HK := Lib.hid hk
  have HBE := Lib.hid hbe
  have HBN := Lib.hid hbn
  have HB8 := Lib.hid hb8
  have HBV := Lib.hid hbv
  have HP1 := Lib.hid hp1
  have hn128 : n ≤ 128 := by omega
  have HUN := Lib.hid (hN)
  clear hlb hse hlbl hR hN hbe hbn hb8 hbv hk hu1 hp1 hll hbl hup H
  go_enter Tryd.func32, Tryd.ntmps32
  have hbs : ∀ W : World, (Instr.buildSlice 42 1 #[(0, .int .u8 (n : Int))]).run Tryd.prog W = .ok (.slice (some ⟨W.heap.size, 0, none⟩) 1 1) (W.alloc (.cells #[.int .u8 (n : Int)] 5)) := fun W => by go_simp
  go_upto_region 1 with fail
  have H2 := H1.lit [.int .u8 (n : Int)] 5 (by show 1 ≤ maxLen; decide)
  refine wp_region_lit ?_
  iterate 3 (refine wpList_ex (v := ?_) (by rfl) ?_ ?_; rotate_left; (focus (go_simp; with_reducible rfl)); simp only [Act.put, List.setIfInBounds_toArray, List.set_cons_zero, List.set_cons_succ])
  refine wpList_bs1 (by rfl) 42 (.tmp 18) (by rfl) (by rfl) (hbs _) ?_
  simp only [Act.put, List.setIfInBounds_toArray, List.set_cons_zero, List.set_cons_succ]
  (refine wpList_ex (v := ?_) (by rfl) ?_ ?_; rotate_left; (focus (go_simp; with_reducible rfl)); simp only [Act.put, List.setIfInBounds_toArray, List.set_cons_zero, List.set_cons_succ])
  refine wpList_append_str_st H2 (by rfl) (.tmp 19) (.tmp 20) 42 9 (by rfl) Tryd.info5 Tryd.underlying42 Tryd.underlying9 (by rfl) u (by rfl) (by have := HUN.out; simp; omega) ?_
  intro v5 w5 H3
  clear hbs H2
  simp only [Act.put, List.setIfInBounds_toArray, List.set_cons_zero, List.set_cons_succ]
  (refine wpList_ex (v := ?_) (by rfl) ?_ ?_; rotate_left; (focus (go_simp; with_reducible rfl)); simp only [Act.put, List.setIfInBounds_toArray, List.set_cons_zero, List.set_cons_succ])
  refine wpList_nil ?_
  have e1 : ([Value.int .u8 (n : Int)] ++ bv u : List Value) = bv ([UInt8.ofNat n] ++ u) := by rw [bv_append, ← HB8.out]; rfl
  rw [e1] at H3
  obtain ⟨A5, c5, rfl, -, -⟩ := H3.shape' 0 rfl
  go_upto_region 2 with fail
  refine Pt.wp_plan (fun w' => St w0 w' M (eb w.heap.size 24 (bv salt) :: L)) (Pt.prs [0, 2, 3, 5, 6] (Pt.rds [1] (.go 4 (.go 7 (.go 8 (Pt.prs [9, 10, 11, 12, 13] .fin)))))) [] Tryd.mixed (by kernel_rfl) (fun _ _ d _ _ h => by cases d <;> exact h) H3.d0.drew ?_
  have H4 := H3.drew
  clear H3
  simp only [Pt.toL, Pt.rds, Pt.prs, Pt.at_, List.drop_succ_cons, List.drop_zero]
  iterate 5 (refine Pt.pr_run (v := ?_) (by rfl) ?_ ?_; rotate_left; (focus (intro w'; go_simp; with_reducible rfl)); simp only [Act.put, List.setIfInBounds_toArray, List.set_cons_zero, List.set_cons_succ])
  (refine Pt.rd_load (by rfl) 24 (.tmp 7) (by rfl) w.heap.size 0 (by rfl) (bv salt) _ (fun w' h => (h.blk 0 rfl).range 0 16 _ (by rw [List.drop_zero, List.take_of_length_le (by rw [HBV.out]; exact Nat.le_refl _)])) Tryd.underlying24 rfl (by rw [HBV.out]; exact Tryd.size16) ?_; simp only [Act.put, List.setIfInBounds_toArray, List.set_cons_zero, List.set_cons_succ])
  refine Pt.run_go ?_
  go_wp2_with fail
  refine (HLB.out _).mono ?_
  rintro e w6 ⟨rfl, rfl⟩
  go_wp2_with fail
  refine Pt.same H4.d0 ?_
  refine Pt.run_go ?_
  refine wpList_append_str_st H4 (by rfl) (.tmp 28) (.tmp 29) 42 9 (by rfl) Tryd.info5 Tryd.underlying42 Tryd.underlying9 (by rfl) p (by rfl) (by have := HUN.out; have := HP1.out; simp; omega) ?_
  intro v7 w7 H5
  have e2 : bv ([UInt8.ofNat n] ++ u) ++ bv p = bv (blob u p) := by rw [HBE.out, bv_append, bv_append, bv_append]
  have e3 : [Value.int IntKind.u8 (n : Int)].length + u.length + p.length = (blob u p).length := by rw [HBN.out, ← HUN.out]; rfl
  rw [e2, e3] at H5
  obtain ⟨A7, c7, rfl, hle, hA7⟩ := H5.shape' 0 rfl
  refine wpList_nil ?_
  simp only [Pl.Then, Act.put, List.setIfInBounds_toArray, List.set_cons_zero, List.set_cons_succ]
  refine Pt.same H5.d0 ?_
  have hse := HSE.out _ _ A7 c7 H5 ((HK.out.cons _).cons _) hA7 hle (Sr.row 0 rfl)
  have HS := Lib.hid hse
  clear hse hle hA7 H4 e1 e2 e3
  refine Pt.run_go ?_
  go_wp2_with fail
  refine HS.out.mono ?_
  rintro e w8 ⟨A8, c8, M8, rfl, h1, h2, hM, hin, H6⟩
  go_wp2_with fail
  refine Pt.same (H6.d0.weak H5.d0 hM) ?_
  have HR := Lib.hid (And.intro h1 (And.intro h2 (And.intro hM hin)))
  clear HS H5 h1 h2 hM hin
  iterate 5 (refine Pt.pr_run (v := ?_) (by rfl) ?_ ?_; rotate_left; (focus (intro w'; go_simp; with_reducible rfl)); simp only [Act.put, List.setIfInBounds_toArray, List.set_cons_zero, List.set_cons_succ])
  refine Pt.run_fin ?_
  go_wp2
  go_ret
  exact ⟨A8, c8, M8, rfl, HR.out.1, HR.out.2.1, HR.out.2.2.1, HR.out.2.2.2, H6.d0.d0⟩
end
end Go.Proofs.YtcdljlaoedaliaaDoor
/- vault.Lock. -/
set_option linter.unusedVariables false
set_option linter.unusedSimpArgs false
namespace Go.Proofs.YtcdljlaoedaliaaDoor
open Go.RowKit Wd
theorem conv_keep2 {w0 w : World} {M : Mem} {L : List Ent} (H : St w0 w M L) (q : List UInt8) (hq : q.length ≤ 100000) :
    ∃ g c w' M', (convert 9 42 (.string (str q))).run Tryd.prog w = .ok (.slice (some ⟨g, 0, none⟩) q.length c) w' ∧ q.length ≤ c ∧ M.le M' ∧ St w0 w' M' L ∧ In M' (RB · (some ⟨g, 0, none⟩) q) := by
  obtain ⟨g2, c2, w2, hcv, hlc, hcm, H3⟩ := conv_st (P := Tryd.prog) (src := 9) (dst := 42) H Tryd.underlying9 Tryd.underlying42 Tryd.underlying5 q (by omega)
  obtain ⟨M', hM', H4, hin⟩ := H3.keepm (l := q) (by rw [List.take_append_of_le_length (by rw [bv_length]; exact Nat.le_refl _), bv_take, List.take_length])
  exact ⟨g2, c2, w2, M', hcv, hlc, hM', H4, hin⟩
section
variable {w0 w : World} {M : Mem} {L : List Ent}
set_option maxRecDepth 100000 in
theorem vlock_bad (H : St w0 w M L) (A : Value) (salt : List UInt8) (a b : Nat) (u p : List UInt8) (hup : Va.cerr u p ≠ 0) :
    Calls Tryd.prog 28 #[A, .agg (bv salt).toArray, .int .u64 (a : Int), .int .u64 (b : Int), .string (str u), .string (str p)] w fun e w' => e = .returned (.tuple #[.slice none 0 0, .int .i64 (Va.cerr u p)]) ∧ St w0 w' M L := by
  have hck := fun W => vccheck_any u p W
  have H1 := H.new (bv salt) 24
  obtain ⟨Z, hZ⟩ : ∃ Z, Z = Va.cerr u p := ⟨_, rfl⟩
  simp only [← hZ] at hck hup ⊢
  have qz : (Z != 0) = true := by rw [bne, beq_eq_false_iff_ne.2 hup]; rfl
  have HCK := Lib.hid hck
  clear hck hZ hup H
  go_enter Tryd.func28, Tryd.ntmps28
  go_wp2_with fail
  refine (HCK.out _).mono ?_
  rintro e w1 ⟨rfl, rfl⟩
  go_wp2
  go_ret2
  exact ⟨rfl, H1.d0⟩
end
section
variable {w0 w : World} {M : Mem} {L : List Ent}
set_option maxRecDepth 100000 in
set_option maxHeartbeats 4000000 in
theorem vlock_any (ht : Tabs w0) (h10 : P10 w0) (H : St w0 w M L) {A : Option Addr} {c : Nat} {k : List UInt8} (hA : A = none → c = 0) (hc : k.length ≤ c) (hk : Sr w0 M L A k) (hn : k.length < 1000000)
    (salt : List UInt8) (hsa : salt.length = 16) (a b : Nat) (ha : a < 18446744073709551616) (hb : b < 18446744073709551616) (u p : List UInt8) (hup : Va.cerr u p = 0) :
    Calls Tryd.prog 28 #[.slice A k.length c, .agg (bv salt).toArray, .int .u64 (a : Int), .int .u64 (b : Int), .string (str u), .string (str p)] w (RetBytes w0 M L (Seal.sealR k salt (lab a b) (blob u p)).1 fun v => .returned (.tuple #[v, .int .i64 (Seal.sealR k salt (lab a b) (blob u p)).2])) := by
  obtain ⟨hu1, hp1⟩ := cerr_zero hup
  have hck := fun W => vccheck_any u p W
  rw [hup] at hck
  have hll := lab_len a b ha hb
  have hbl := blob_len hup
  have hlb := fun W M' F (HW : St w0 W M' F) => label_any h10 HW a b ha hb
  have hse := fun W M' F C f (HW : St w0 W M' F) (hk' : Sr w0 M' F A k) (hC : C = none → f = 0) (hf : (blob u p).length ≤ f) (hs : Sr w0 M' F C (blob u p)) => seal_any ht HW hA hc hk' hn salt (lab a b) hsa (by omega) hC hf hs (by omega)
  obtain ⟨lb, hlbl⟩ : ∃ lb, lb = lab a b := ⟨_, rfl⟩
  simp only [← hlbl] at hlb hse ⊢
  obtain ⟨⟨R, E⟩, hR⟩ : ∃ R, R = Seal.sealR k salt lb (blob u p) := ⟨_, rfl⟩
  simp only [← hR] at hse ⊢
  obtain ⟨n, hN⟩ : ∃ n, n = u.length := ⟨_, rfl⟩
  have hus : (str u).size = n := by rw [str_size, hN]
  have hbe : blob u p = [UInt8.ofNat n] ++ u ++ p := by rw [hN]; rfl
  have hb8 : ((UInt8.ofNat n).toNat : Int) = (n : Int) := by rw [UInt8.toNat_ofNat']; omega
  have hbv : (bv salt).length = 16 := by rw [bv_length, hsa]
  have wn : IntKind.u8.wrap (n : Int) = (n : Int) := by rw [IntKind.wrap_u8]; omega
  obtain ⟨X0, hX0⟩ : ∃ X0, X0 = [UInt8.ofNat n] := ⟨_, rfl⟩
  obtain ⟨X1, hX1⟩ : ∃ X1, X1 = X0 ++ u := ⟨_, rfl⟩
  have a1 : ∀ w, (Op.stringOp .add (str X0) (str u)).run Tryd.prog w = .ok (.string (str X1)) w := fun w => by
    rw [hX1]
    exact run_string_add_lists w X0 u (by rw [hX0]; simp) (by omega)
  have a2 : ∀ w, (Op.stringOp .add (str X1) (str p)).run Tryd.prog w = .ok (.string (str (blob u p))) w := fun w => by
    rw [hbe, ← hX0, ← hX1]
    exact run_string_add_lists w X1 p (by rw [hX1, hX0]; simp; omega) (by omega)
  have hbs : ∀ W : World, (Instr.buildSlice 42 1 #[(0, .int .u8 (n : Int))]).run Tryd.prog W = .ok (.slice (some ⟨W.heap.size, 0, none⟩) 1 1) (W.alloc (.cells #[.int .u8 (n : Int)] 5)) := fun W => by go_simp
  have hcv : ∀ W g F, St w0 W M (er 5 1 (.slice (some ⟨g, 0, none⟩) 1 1) 1 [.int .u8 (n : Int)] :: F) → (convert 42 9 (.slice (some ⟨g, 0, none⟩) 1 1)).run Tryd.prog W = .ok (.string (str X0)) W := fun W g F HW => by
    rw [hX0]
    have h := HW.get 0 rfl
    rw [show ([.int .u8 (n : Int)] : List Value) = bv [UInt8.ofNat n] from by rw [← hb8]; rfl] at h
    exact conv_RB Tryd.underlying42 Tryd.underlying5 Tryd.underlying9 (er_RB h) rfl
  have H1 := H.new (bv salt) 24
  have HCK := Lib.hid hck
  have HLB := Lib.hid hlb
  have HSE := Lib.hid hse
  have HK := Lib.hid hk
  have HBL := Lib.hid hbl
  have HBV := Lib.hid hbv
  have A1 := Lib.hid a1
  have A2 := Lib.hid a2
  have HBS := Lib.hid hbs
  have HCV := Lib.hid hcv
  have hn128 : n ≤ 128 := by omega
  clear hlb hse hlbl hR hN hbe hb8 hbv hk hu1 hp1 hll hbl hup H hck a1 a2 hbs hcv hX0 hX1
  go_enter Tryd.func28, Tryd.ntmps28
  go_wp2_with fail
  refine (HCK.out _).mono ?_
  rintro e w1 ⟨rfl, rfl⟩
  go_upto_region 4 with fail
  refine Pt.wp_plan (fun w' => St w0 w' M (eb w.heap.size 24 (bv salt) :: L)) (Pt.prs [0, 2, 3, 5, 6, 10, 12] (Pt.rds [1] (Pt.prs [7] (.go2 4 (.go 8 (Pt.rds [9] (Pt.prs [11, 13] (.go 14 (.go 15 (Pt.prs [16, 17, 18, 19] .fin)))))) 8 (Pt.rds [9] (Pt.prs [11, 13] (.go2 4 (.go 14 (.go 15 (Pt.prs [16, 17, 18, 19] .fin))) 14 (.go 4 (.go 15 (Pt.prs [16, 17, 18, 19] .fin)))))))))) [] Tryd.mixed (by kernel_rfl) (fun _ _ d _ _ h => by cases d <;> exact h) H1.drew ?_
  have H := H1.drew
  clear H1
  simp only [Pt.toL, Pt.rds, Pt.prs, Pt.at_, List.drop_succ_cons, List.drop_zero]
  iterate 7 (refine Pt.pr_run (v := ?_) (by rfl) ?_ ?_; rotate_left; (focus (intro w'; go_simp; with_reducible rfl)); simp only [Act.put, List.setIfInBounds_toArray, List.set_cons_zero, List.set_cons_succ])
  (refine Pt.rd_load (by rfl) 24 (.tmp 7) (by rfl) w.heap.size 0 (by rfl) (bv salt) _ (fun w' h => (h.blk 0 rfl).range 0 16 _ (by rw [List.drop_zero, List.take_of_length_le (by rw [HBV.out]; exact Nat.le_refl _)])) Tryd.underlying24 rfl (by rw [HBV.out]; exact Tryd.size16) ?_; simp only [Act.put, List.setIfInBounds_toArray, List.set_cons_zero, List.set_cons_succ])
  (refine Pt.pr_run (v := ?_) (by rfl) ?_ ?_; rotate_left; (focus (intro w'; go_simp; with_reducible rfl)); simp only [Act.put, List.setIfInBounds_toArray, List.set_cons_zero, List.set_cons_succ])
  refine Pt.run_go2 ?_ ?_
  · skip
    go_wp2_with fail
    refine (HLB.out _ _ _ H).mono ?_
    rintro e wl ⟨rfl, H⟩
    go_wp2_with fail
    refine Pt.same H ?_
    refine Pt.run_go ?_
    have H := H.lit [.int .u8 (n : Int)] 5 (by show 1 ≤ maxLen; decide)
    refine wpList_bs1 (by rfl) 42 (.tmp 28) (by rfl) (by rfl) (HBS.out _) ?_
    refine wpList_nil ?_
    simp only [Pl.Then, Act.put, List.setIfInBounds_toArray, List.set_cons_zero, List.set_cons_succ]
    refine ⟨fun w' => St w0 w' M (_ :: eb w.heap.size 24 (bv salt) :: L), fun x h => h.d0, H, ?_⟩
    have a1 := A1.out
    have a2 := A2.out
    (refine Pt.rd_run (v := ?_) (by rfl) ?_ ?_; rotate_left; (focus (intro w' hS; have cv := HCV.out _ _ _ hS; go_simp; with_reducible rfl)); simp only [Act.put, List.setIfInBounds_toArray, List.set_cons_zero, List.set_cons_succ])
    iterate 2 (refine Pt.pr_run (v := ?_) (by rfl) ?_ ?_; rotate_left; (focus (intro w'; go_simp; with_reducible rfl)); simp only [Act.put, List.setIfInBounds_toArray, List.set_cons_zero, List.set_cons_succ])
    clear a1 a2
    refine Pt.run_go ?_
    obtain ⟨g1, k1, u1, M1, hcv1, hk1, hM1, H7, hin1⟩ := conv_keep2 H (blob u p) (by have := HBL.out; omega)
    go_wp2_with fail
    refine Pt.same (H7.weak H hM1) ?_
    clear hcv1
    have HSS := Lib.hid (HSE.out _ _ _ (some ⟨g1, 0, none⟩) k1 H7 (((HK.out.le hM1).cons _).cons _) (by rintro ⟨⟩) hk1 (Sr.of_in hin1))
    refine Pt.run_go ?_
    go_wp2_with fail
    refine HSS.out.mono ?_
    rintro e w8 ⟨A8, c8, M8, rfl, h1, h2, hM, hin, H9⟩
    go_wp2_with fail
    refine Pt.same (H9.weak H (hM1.trans hM)) ?_
    have HR := Lib.hid (And.intro h1 (And.intro h2 (And.intro (hM1.trans hM) hin)))
    clear HSS h1 h2 hM hin
    iterate 4 (refine Pt.pr_run (v := ?_) (by rfl) ?_ ?_; rotate_left; (focus (intro w'; go_simp; with_reducible rfl)); simp only [Act.put, List.setIfInBounds_toArray, List.set_cons_zero, List.set_cons_succ])
    refine Pt.run_fin ?_
    go_wp2
    go_ret2
    exact ⟨A8, c8, M8, rfl, HR.out.1, HR.out.2.1, HR.out.2.2.1, HR.out.2.2.2, H9.d0.d0⟩
  · skip
    have H := H.lit [.int .u8 (n : Int)] 5 (by show 1 ≤ maxLen; decide)
    rw [show ((w.alloc (.cells (bv salt).toArray 24)).drew).heap.size = w.heap.size + 1 from Array.size_push _] at H
    refine wpList_bs1 (by rfl) 42 (.tmp 28) (by rfl) (by rfl) (HBS.out _) ?_
    refine wpList_nil ?_
    simp only [Pl.Then, Act.put, List.setIfInBounds_toArray, List.set_cons_zero, List.set_cons_succ]
    refine ⟨fun w' => St w0 w' M (_ :: eb w.heap.size 24 (bv salt) :: L), fun x h => h.d0, H, ?_⟩
    generalize (((w.alloc (.cells (bv salt).toArray 24)).drew).alloc (.cells [Value.int .u8 (n : Int)].toArray 5)) = WW at H ⊢
    have a1 := A1.out
    have a2 := A2.out
    (refine Pt.rd_run (v := ?_) (by rfl) ?_ ?_; rotate_left; (focus (intro w' hS; have cv := HCV.out _ _ _ hS; go_simp; with_reducible rfl)); simp only [Act.put, List.setIfInBounds_toArray, List.set_cons_zero, List.set_cons_succ])
    iterate 2 (refine Pt.pr_run (v := ?_) (by rfl) ?_ ?_; rotate_left; (focus (intro w'; go_simp; with_reducible rfl)); simp only [Act.put, List.setIfInBounds_toArray, List.set_cons_zero, List.set_cons_succ])
    clear a1 a2
    refine Pt.run_go2 ?_ ?_
    · skip
      go_wp2_with fail
      refine (HLB.out _ _ _ H).mono ?_
      rintro e wl ⟨rfl, H⟩
      go_wp2_with fail
      refine Pt.same H ?_
      refine Pt.run_go ?_
      obtain ⟨g1, k1, u1, M1, hcv1, hk1, hM1, H7, hin1⟩ := conv_keep2 H (blob u p) (by have := HBL.out; omega)
      go_wp2_with fail
      refine Pt.same (H7.weak H hM1) ?_
      clear hcv1
      have HSS := Lib.hid (HSE.out _ _ _ (some ⟨g1, 0, none⟩) k1 H7 (((HK.out.le hM1).cons _).cons _) (by rintro ⟨⟩) hk1 (Sr.of_in hin1))
      refine Pt.run_go ?_
      go_wp2_with fail
      refine HSS.out.mono ?_
      rintro e w8 ⟨A8, c8, M8, rfl, h1, h2, hM, hin, H9⟩
      go_wp2_with fail
      refine Pt.same (H9.weak H (hM1.trans hM)) ?_
      have HR := Lib.hid (And.intro h1 (And.intro h2 (And.intro (hM1.trans hM) hin)))
      clear HSS h1 h2 hM hin
      iterate 4 (refine Pt.pr_run (v := ?_) (by rfl) ?_ ?_; rotate_left; (focus (intro w'; go_simp; with_reducible rfl)); simp only [Act.put, List.setIfInBounds_toArray, List.set_cons_zero, List.set_cons_succ])
      refine Pt.run_fin ?_
      go_wp2
      go_ret2
      exact ⟨A8, c8, M8, rfl, HR.out.1, HR.out.2.1, HR.out.2.2.1, HR.out.2.2.2, H9.d0.d0⟩
    · skip
      obtain ⟨g1, k1, u1, M1, hcv1, hk1, hM1, H7, hin1⟩ := conv_keep2 H (blob u p) (by have := HBL.out; omega)
      go_wp2_with fail
      refine Pt.same (H7.weak H hM1) ?_
      clear hcv1
      refine Pt.run_go ?_
      go_wp2_with fail
      refine (HLB.out _ _ _ H7).mono ?_
      rintro e wl ⟨rfl, H7⟩
      go_wp2_with fail
      refine Pt.same (H7.weak H hM1) ?_
      have HSS := Lib.hid (HSE.out _ _ _ (some ⟨g1, 0, none⟩) k1 H7 (((HK.out.le hM1).cons _).cons _) (by rintro ⟨⟩) hk1 (Sr.of_in hin1))
      refine Pt.run_go ?_
      go_wp2_with fail
      refine HSS.out.mono ?_
      rintro e w8 ⟨A8, c8, M8, rfl, h1, h2, hM, hin, H9⟩
      go_wp2_with fail
      refine Pt.same (H9.weak H (hM1.trans hM)) ?_
      have HR := Lib.hid (And.intro h1 (And.intro h2 (And.intro (hM1.trans hM) hin)))
      clear HSS h1 h2 hM hin
      iterate 4 (refine Pt.pr_run (v := ?_) (by rfl) ?_ ?_; rotate_left; (focus (intro w'; go_simp; with_reducible rfl)); simp only [Act.put, List.setIfInBounds_toArray, List.set_cons_zero, List.set_cons_succ])
      refine Pt.run_fin ?_
      go_wp2
      go_ret2
      exact ⟨A8, c8, M8, rfl, HR.out.1, HR.out.2.1, HR.out.2.2.1, HR.out.2.2.2, H9.d0.d0⟩
end
end Go.Proofs.YtcdljlaoedaliaaDoor
/- Arguments: a salt, a pair of credentials. -/
set_option linter.unusedVariables false
set_option linter.unusedSimpArgs false
set_option maxRecDepth 100000
namespace Go.Proofs.YtcdljlaoedaliaaDoor
open Go.ChangeShapes Go.WideShapes Go.ChangeAt Go.RowKit Wd
theorem Tryd.cells_creds : Tryd.prog.cellsOf 56 = 8 := by kernel_rfl
theorem arg_salt {H : Type} {enc : TypeId × Value → H} {W : World} {v : Value} {d : DataW H} {ps : List MemPlace} {r : Reach} {b0 : Nat}
    (hv : Value.okWide Tryd.prog W r b0 24 v) (h : DataW.Trod enc Tryd.prog W 0 (fun _ => true) true 24 v d ps) :
    ∃ salt : List UInt8, v = .agg (bv salt).toArray ∧ salt.length = 16 := by
  have ht := Tryd.underlying24
  simp only [Value.okWide, ht] at hv
  obtain ⟨⟨cs⟩, rfl, hsz, _⟩ := hv
  obtain ⟨fuel, hf⟩ := h
  have hl : cs.length = 16 := by have := hsz; rw [Tryd.cells_16] at this; simpa using this
  obtain ⟨l, e, hn⟩ := barr_cells Tryd.underlying24 Tryd.underlying5 Tryd.cells_byte Tryd.cells_16 hl hf
  exact ⟨l, by rw [e], hn⟩
theorem arg_creds {H : Type} {enc : TypeId × Value → H} {W : World} {v : Value} {d : DataW H} {ps : List MemPlace} {r : Reach} {b0 : Nat}
    (hv : Value.okWide Tryd.prog W r b0 56 v) (h : DataW.Trod enc Tryd.prog W 0 (fun _ => true) true 56 v d ps) :
    ∃ (a b : Nat) (u p : List UInt8) (a' b' : Nat) (u' p' : List UInt8), v = .agg (credC a b u p ++ credC a' b' u' p').toArray ∧ a < 18446744073709551616 ∧ b < 18446744073709551616 ∧ a' < 18446744073709551616 ∧ b' < 18446744073709551616 := by
  have ht := Tryd.underlying56
  simp only [Value.okWide, ht] at hv
  obtain ⟨⟨cs⟩, rfl, hsz, _⟩ := hv
  obtain ⟨fuel, hf⟩ := h
  have hf : DataW.trod enc Tryd.prog W 0 (fun _ => true) true fuel 56 cs = some (d, ps) := hf
  have hl : cs.length = 8 := by have := hsz; rw [Tryd.cells_creds] at this; simpa using this
  obtain ⟨xs, m, _, _, _, hlen, hf⟩ := DataW.trod_array Tryd.underlying56 hf
  have h0 := hf 0 (by omega)
  have h1 := hf 1 (by omega)
  rw [Tryd.cells_cred] at h0 h1
  match xs, hlen with
  | [y0, y1], _ =>
    obtain ⟨a, b, u, p, e, z0, z1⟩ := cred_cells (by rw [List.length_take, List.length_drop]; omega) h0
    obtain ⟨a', b', u', p', e', z2, z3⟩ := cred_cells (by rw [List.length_take, List.length_drop]; omega) h1
    refine ⟨a, b, u, p, a', b', u', p', ?_, z0, z1, z2, z3⟩
    rw [← e, ← e']
    have hj : (cs.drop (0 * 4)).take 4 ++ (cs.drop (1 * 4)).take 4 = cs := by
      rw [Nat.zero_mul, List.drop_zero, Nat.one_mul, List.take_of_length_le (l := cs.drop 4) (by rw [List.length_drop]; omega), List.take_append_drop]
    rw [hj]
end Go.Proofs.YtcdljlaoedaliaaDoor
/- VaultLocks walked. -/
set_option linter.unusedVariables false
set_option linter.unusedSimpArgs false
namespace Go.Proofs.YtcdljlaoedaliaaDoor
open Go.RowKit Wd
theorem Tryd.sizeCred : (Tryd.prog.info? 52).map (·.size) = some 4 := by kernel_rfl
theorem Tryd.zeroCred : (Tryd.prog.info? 52).map (fun i => (i.zero, i.size)) = some (some (.agg #[.int .u64 0, .int .u64 0, .string ⟨#[]⟩, .string ⟨#[]⟩]), 4) := by kernel_rfl
set_option maxRecDepth 100000 in
set_option maxHeartbeats 8000000 in
theorem vaultLocks_any {w : World} (ht : Tabs w) (h10 : P10 w) {A : Option Addr} {c : Nat} {k : List UInt8} (hkr : RB w A k) (hA : A = none → c = 0) (hc : k.length ≤ c)
    (salt : List UInt8) (hsa : salt.length = 16) (a b : Nat) (ha : a < 18446744073709551616) (hb : b < 18446744073709551616) (u p : List UInt8) (a' b' : Nat) (ha' : a' < 18446744073709551616) (hb' : b' < 18446744073709551616) (u' p' : List UInt8) :
    Calls Tryd.prog 7 #[.slice A k.length c, .agg (bv salt).toArray, .agg (credC a b u p ++ credC a' b' u' p').toArray] w fun e w' => e = .returned (.bool true) ∧ Below w.heap.size w w' := by
  have H0 := St.start w
  have sK : ∀ F, Sr w (w.heap[·]?) F A k := fun F => Sr.of_in (In.oldRB H0 hkr)
  have H1 := H0.new (bv salt) 24
  have aw : ∀ w' L', St w w' (w.heap[·]?) L' → Calls Tryd.prog 8 #[] w' fun e w' => e = .returned (.bool true) ∧ St w w' (w.heap[·]?) L' := fun w' L' H => awake22_any ht H
  have aw2 : ∀ w' M' L', St w w' M' L' → Calls Tryd.prog 8 #[] w' fun e w' => e = .returned (.bool true) ∧ St w w' M' L' := fun w' M' L' H => awake22_any ht H
  have AW := Lib.hid aw
  have AW2 := Lib.hid aw2
  obtain ⟨X, hX⟩ : ∃ X, X = credC a b u p := ⟨_, rfl⟩
  obtain ⟨Y, hY⟩ : ∃ Y, Y = credC a' b' u' p' := ⟨_, rfl⟩
  obtain ⟨U, hU⟩ : ∃ U, U = str u := ⟨_, rfl⟩
  obtain ⟨V, hV⟩ : ∃ V, V = str p := ⟨_, rfl⟩
  have hUs : U.size = u.length := by rw [hU, str_size]
  have hVs : V.size = p.length := by rw [hV, str_size]
  have hX0 : X[0]? = some (.int .u64 (a : Int)) := by rw [hX]; rfl
  have hX1 : X[1]? = some (.int .u64 (b : Int)) := by rw [hX]; rfl
  have hX2 : X[2]? = some (.string U) := by rw [hX, hU]; rfl
  have hX3 : X[3]? = some (.string V) := by rw [hX, hV]; rfl
  have hY0 : Y[0]? = some (.int .u64 (a' : Int)) := by rw [hY]; rfl
  have hY1 : Y[1]? = some (.int .u64 (b' : Int)) := by rw [hY]; rfl
  have hXL : X.length = 4 := by rw [hX]; rfl
  have hYL : Y.length = 4 := by rw [hY]; rfl
  have hXo : ∀ v ∈ X, v.oneCell' = true := by rw [hX]; intro v hv; simp [credC] at hv; rcases hv with rfl | rfl | rfl | rfl <;> rfl
  have hYo : ∀ v ∈ Y, v.oneCell' = true := by rw [hY]; intro v hv; simp [credC] at hv; rcases hv with rfl | rfl | rfl | rfl <;> rfl
  have hbv : (bv salt).length = 16 := by rw [bv_length, hsa]
  rw [← hX, ← hY]
  obtain ⟨Z, hZ⟩ : ∃ Z, Z = X ++ Y := ⟨_, rfl⟩
  rw [← hZ]
  have H2 := H1.newg Z 56 (g := w.heap.size + 1) (by simp)
  have hZ0 : (Z.drop 0).take 4 = X := by rw [hZ, List.drop_zero, List.take_append_of_le_length (by omega), List.take_of_length_le (by omega)]
  have hZ4 : (Z.drop 4).take 4 = Y := by rw [hZ, ← hXL, List.drop_left, hXL, List.take_of_length_le (by omega)]
  obtain ⟨bs, hbs⟩ : ∃ bs, bs = bv salt := ⟨_, rfl⟩
  have hcel : ∀ W M' F g, St w W M' (eb g 52 X :: F) → W.cell? ⟨g, 0, none⟩ = some (.int .u64 (a : Int)) ∧ W.cell? ⟨g, 1, none⟩ = some (.int .u64 (b : Int)) ∧ W.cell? ⟨g, 2, none⟩ = some (.string U) ∧ W.cell? ⟨g, 3, none⟩ = some (.string V) := fun W M' F g H => ⟨(H.cell 0 rfl 0).trans hX0, (H.cell 0 rfl 1).trans hX1, (H.cell 0 rfl 2).trans hX2, (H.cell 0 rfl 3).trans hX3⟩
  have hcey : ∀ W M' F g e, St w W M' (e :: eb g 52 Y :: F) → W.cell? ⟨g, 0, none⟩ = some (.int .u64 (a' : Int)) ∧ W.cell? ⟨g, 1, none⟩ = some (.int .u64 (b' : Int)) := fun W M' F g e H => ⟨(H.cell 1 rfl 0).trans hY0, (H.cell 1 rfl 1).trans hY1⟩
  have hsr : ∀ W M' g e1 e2 e3, St w W M' [e1, e2, e3, eb g 24 (bv salt)] → W.rangeAt g 0 (bv salt) := fun W M' g e1 e2 e3 H => (H.blk 3 rfl).range 0 16 _ (by rw [List.drop_zero, List.take_of_length_le (by omega)])
  rw [← hbs] at H2 hbv hsr ⊢
  have HCE := Lib.hid hcel
  have HCY := Lib.hid hcey
  have HSR := Lib.hid hsr
  have HXL := Lib.hid hXL
  have HYL := Lib.hid hYL
  have HBV := Lib.hid hbv
  have HZ0 := Lib.hid hZ0
  have HZ4 := Lib.hid hZ4
  have HXO := Lib.hid hXo
  have HYO := Lib.hid hYo
  have ck := fun W => rvcheck_any u p W
  have vb := fun (W : World) M' F (H : St w W M' F) => basic_any H u p
  have vlb := fun (W : World) F (H : St w W (w.heap[·]?) F) (h : Va.cerr u p ≠ 0) => vlock_bad H (.slice A k.length c) salt a b u p h
  have vlg := fun (W : World) F (H : St w W (w.heap[·]?) F) (h : Va.cerr u p = 0) (h5 : k.length < 1000000) => vlock_any ht h10 H hA hc (sK F) h5 salt hsa a b ha hb u p h
  have rlg := fun (W : World) M' F (hM : Mem.le (w.heap[·]?) M') (H : St w W M' F) (h : Va.cerr u p = 0) (h5 : k.length < 1000000) => rlock_any H hA hc ((sK F).le hM) h5 salt hsa a b ha hb u p h
  have rb := fun W (h : u.length ≤ 128) (h' : p.length ≤ 128) => rbasic_any u p h h' W
  have un := fun (a b : Nat) (ha : a < 18446744073709551616) (hb : b < 18446744073709551616) (W : World) M' F (hM : Mem.le (w.heap[·]?) M') A' f' s (H : St w W M' F) (h5 : k.length < 1000000) (hA' : A' = none → f' = 0) (hl : s.length ≤ f') (hs' : Sr w M' F A' s) (hsn : s.length ≤ 10000) => unlock_any ht h10 H hA hc ((sK F).le hM) h5 a b ha hb hA' hl hs' hsn
  have ru := fun (W : World) M' F (hM : Mem.le (w.heap[·]?) M') A' f' s (H : St w W M' F) (h5 : k.length < 1000000) (hA' : A' = none → f' = 0) (hl : s.length ≤ f') (hs' : Sr w M' F A' s) (hsn : s.length ≤ 10000) => runlock_any H hA hc ((sK F).le hM) h5 a' b' ha' hb' hA' hl hs' hsn
  have wa := un a b ha hb
  have wb := un a' b' ha' hb'
  have hull := unlock_lock k salt (lab a b) u p hsa (lab_len a b ha hb)
  have hsz : Va.cerr u p = 0 → (Seal.sealR k salt (lab a b) (blob u p)).1.length ≤ 10000 := fun h => by
    have h1 := blob_len h
    have h2 : (Seal.sealR k salt (lab a b) (blob u p)) = (Seal.sealed k salt (lab a b) (blob u p), 0) := by unfold Seal.sealR; rw [if_neg (by have := lab_len a b ha hb; omega)]
    rw [h2]
    show (Seal.sealed k salt (lab a b) (blob u p)).length ≤ 10000
    rw [Seal.sealed_len]
    all_goals omega
  rw [← hbs, ← hU, ← hV] at vlb vlg rlg
  rw [← hU, ← hV] at ck vb rb
  have hc128 := fun h : Va.cerr u p = 0 => cerr_zero h
  obtain ⟨C, hC⟩ : ∃ C, C = Va.cerr u p := ⟨_, rfl⟩
  obtain ⟨⟨B, E⟩, hR⟩ : ∃ R, R = Seal.sealR k salt (lab a b) (blob u p) := ⟨_, rfl⟩
  simp only [← hC] at ck vlb vlg rlg hsz hull hc128
  simp only [← hR] at vlg rlg hull hsz
  unfold Va.basic at vb
  simp only [← hC] at vb
  have CK := Lib.hid ck
  have VB := Lib.hid vb
  have VLB := Lib.hid vlb
  have VLG := Lib.hid vlg
  have RLG := Lib.hid rlg
  have RB_ := Lib.hid rb
  have WA := Lib.hid wa
  have WB := Lib.hid wb
  have RU := Lib.hid ru
  have HULL := Lib.hid hull
  have HSZ := Lib.hid hsz
  have HC128 := Lib.hid hc128
  have WUV := Lib.hid (And.intro hU hV)
  have HUS := Lib.hid hUs
  have HVS := Lib.hid hVs
  clear ck vb vlb vlg rlg rb un wa wb ru hull hsz hc128 hC hR hUs hVs aw aw2 hX hY hU hV hX0 hX1 hX2 hX3 hY0 hY1 hXL hYL hXo hYo hZ hZ0 hZ4 hbs hbv hcel hcey hsr H0 H1 sK hA hc hkr
  have ins_all : ∀ z Y : List Value, z.length = 4 → Y.length = 4 → ins z 0 Y = Y := fun z Y h1 h2 => ins_all z Y (by rw [h1, h2])
  have INS := Lib.hid ins_all
  clear ins_all
  go_enter Tryd.func7, Tryd.ntmps7
  go_upto_region 1 with fail
  generalize hg5 : w.heap.size + 1 = g5 at *
  go_cut [7, 8] (fun x y wx => ∃ g7 g8 : Nat, x = .pointer (some ⟨g7, 0, none⟩) ∧ y = .pointer (some ⟨g8, 0, none⟩) ∧ St w wx (w.heap[·]?) [eb g7 52 X, eb g8 52 Y, eb g5 56 Z, eb w.heap.size 24 bs])
  case first =>
    refine Pt.wp_plan (fun w' => St w w' (w.heap[·]?) [eb g5 56 Z, eb w.heap.size 24 bs]) (Pt.prs [0, 2] (Pt.rds [1, 3] (.go2 4 (.go 5 (.go 6 (.go 7 .fin))) 5 (.go 4 (.go 6 (.go 7 .fin)))))) [] Tryd.mixed (by kernel_rfl) (fun _ _ d _ _ h => by cases d <;> exact h) H2.drew ?_
    have H3 := H2.drew
    simp only [Pt.toL, Pt.rds, Pt.prs, Pt.at_, List.drop_succ_cons, List.drop_zero]
    iterate 2 (refine Pt.pr_run (v := ?_) (by rfl) ?_ ?_; rotate_left; (focus (intro w'; go_simp; with_reducible rfl)); simp only [Act.put, List.setIfInBounds_toArray, List.set_cons_zero, List.set_cons_succ])
    refine Pt.rd_load (by rfl) 52 (.tmp 20) (by rfl) g5 0 (by rfl) X _ (fun w' hS => (hS.blk 0 rfl).range 0 4 X HZ0.out) Tryd.underlying52 rfl (by rw [HXL.out]; exact Tryd.sizeCred) ?_
    simp only [Act.put, List.setIfInBounds_toArray, List.set_cons_zero, List.set_cons_succ]
    refine Pt.rd_load (by rfl) 52 (.tmp 22) (by rfl) g5 4 (by rfl) Y _ (fun w' hS => (hS.blk 0 rfl).range 4 4 Y HZ4.out) Tryd.underlying52 rfl (by rw [HYL.out]; exact Tryd.sizeCred) ?_
    simp only [Act.put, List.setIfInBounds_toArray, List.set_cons_zero, List.set_cons_succ]
    refine Pt.run_go2 ?_ ?_
    · skip
      refine wpList_alloc_st H3 (by rfl) 52 (by rfl) Tryd.zeroCred ?_
      intro g7 w7 H4
      refine wpList_nil ?_
      simp only [Pl.Then, Act.put, List.setIfInBounds_toArray, List.set_cons_zero, List.set_cons_succ]
      refine Pt.same H4.d0 ?_
      refine Pt.run_go ?_
      refine wpList_alloc_st H4 (by rfl) 52 (by rfl) Tryd.zeroCred ?_
      intro g8 w8 H5
      refine wpList_nil ?_
      simp only [Pl.Then, Act.put, List.setIfInBounds_toArray, List.set_cons_zero, List.set_cons_succ]
      refine Pt.same H5.d0.d0 ?_
      have H5 := H5.f1
      refine Pt.run_go ?_
      refine wpList_store_st H5 (by rfl) 52 (.tmp 7) (.tmp 21) (by rfl) 0 X (by rfl) (by rfl) (by rw [HXL.out]; exact Nat.le_refl 4) (by rw [HXL.out]; exact Tryd.sizeCred) HXO.out ?_
      intro x1 H6
      refine wpList_nil ?_
      simp only [Pl.Then, Act.put, List.setIfInBounds_toArray, List.set_cons_zero, List.set_cons_succ]
      refine Pt.same H6.d0.d0 ?_
      rw [INS.out _ X rfl HXL.out] at H6
      have H6 := H6.f1
      refine Pt.run_go ?_
      refine wpList_store_st H6 (by rfl) 52 (.tmp 8) (.tmp 23) (by rfl) 0 Y (by rfl) (by rfl) (by rw [HYL.out]; exact Nat.le_refl 4) (by rw [HYL.out]; exact Tryd.sizeCred) HYO.out ?_
      intro x2 H7
      refine wpList_nil ?_
      simp only [Pl.Then, Act.put, List.setIfInBounds_toArray, List.set_cons_zero, List.set_cons_succ]
      refine Pt.same H7.d0.d0 ?_
      rw [INS.out _ Y rfl HYL.out] at H7
      refine Pt.run_fin ?_
      go_wp2_with fail
      go_meet
      exact ⟨_, _, rfl, rfl, H7.f1⟩
    · skip
      refine wpList_alloc_st H3 (by rfl) 52 (by rfl) Tryd.zeroCred ?_
      intro g8 w8 H4
      refine wpList_nil ?_
      simp only [Pl.Then, Act.put, List.setIfInBounds_toArray, List.set_cons_zero, List.set_cons_succ]
      refine Pt.same H4.d0 ?_
      refine Pt.run_go ?_
      refine wpList_alloc_st H4 (by rfl) 52 (by rfl) Tryd.zeroCred ?_
      intro g7 w7 H5
      refine wpList_nil ?_
      simp only [Pl.Then, Act.put, List.setIfInBounds_toArray, List.set_cons_zero, List.set_cons_succ]
      refine Pt.same H5.d0.d0 ?_
      refine Pt.run_go ?_
      refine wpList_store_st H5 (by rfl) 52 (.tmp 7) (.tmp 21) (by rfl) 0 X (by rfl) (by rfl) (by rw [HXL.out]; exact Nat.le_refl 4) (by rw [HXL.out]; exact Tryd.sizeCred) HXO.out ?_
      intro x1 H6
      refine wpList_nil ?_
      simp only [Pl.Then, Act.put, List.setIfInBounds_toArray, List.set_cons_zero, List.set_cons_succ]
      refine Pt.same H6.d0.d0 ?_
      rw [INS.out _ X rfl HXL.out] at H6
      have H6 := H6.f1
      refine Pt.run_go ?_
      refine wpList_store_st H6 (by rfl) 52 (.tmp 8) (.tmp 23) (by rfl) 0 Y (by rfl) (by rfl) (by rw [HYL.out]; exact Nat.le_refl 4) (by rw [HYL.out]; exact Tryd.sizeCred) HYO.out ?_
      intro x2 H7
      refine wpList_nil ?_
      simp only [Pl.Then, Act.put, List.setIfInBounds_toArray, List.set_cons_zero, List.set_cons_succ]
      refine Pt.same H7.d0.d0 ?_
      rw [INS.out _ Y rfl HYL.out] at H7
      refine Pt.run_fin ?_
      go_wp2_with fail
      go_meet
      exact ⟨_, _, rfl, rfl, H7.f1⟩
  case rest =>
    obtain ⟨g7, g8, rfl, rfl, H3⟩ := hcut
    clear H2
    obtain ⟨c0, c1, c2, c3⟩ := HCE.out _ _ _ _ H3
    have hus := HUS.out
    have hvs := HVS.out
    by_cases hk : 500 < k.length
    · have q1 : (500 : Int) < (k.length : Int) := by omega
      clear hk
      go_wp2_with fail
      refine (AW.out _ _ H3).mono ?_
      rintro e w1 ⟨rfl, H4⟩
      go_wp2
      go_ret
      exact ⟨rfl, H4.below⟩
    · have q1 : ¬ (500 : Int) < (k.length : Int) := by omega
      by_cases hul : 1000 < u.length
      · have q2 : (1000 : Int) < (u.length : Int) := by omega
        clear hk hul
        go_wp2_with fail
        refine (AW.out _ _ H3).mono ?_
        rintro e w1 ⟨rfl, H4⟩
        go_wp2
        go_ret
        exact ⟨rfl, H4.below⟩
      · have q2 : ¬ (1000 : Int) < (u.length : Int) := by omega
        by_cases hpl : 1000 < p.length
        · have q3 : (1000 : Int) < (p.length : Int) := by omega
          clear hk hul hpl
          go_wp2_with fail
          refine (AW.out _ _ H3).mono ?_
          rintro e w1 ⟨rfl, H4⟩
          go_wp2
          go_ret
          exact ⟨rfl, H4.below⟩
        · have q3 : ¬ (1000 : Int) < (p.length : Int) := by omega
          have hk5 : k.length < 1000000 := by omega
          have HK5 := Lib.hid hk5
          clear hk hul hpl hk5
          by_cases h0 : C = 0
          · have vb := VB.out
            simp only [if_pos h0] at vb
            have vlg := fun W F H => VLG.out W F H h0 HK5.out
            have rlg := fun W M' F hM H => RLG.out W M' F hM H h0 HK5.out
            have rbb := fun W => RB_.out W (HC128.out h0).1 (HC128.out h0).2
            have hull := HULL.out h0
            have hsz := HSZ.out h0
            obtain ⟨hE, hu1⟩ := hull
            change E = 0 at hE
            change unlockR k (lab a b) B = (u, p, 0) at hu1
            change B.length ≤ 10000 at hsz
            have ck := CK.out
            subst hE
            subst h0
            obtain ⟨T1, hT1⟩ : ∃ T, T = [66, 97, 115, 105, 99, 32] ++ B64.enc (u ++ [58] ++ p) := ⟨_, rfl⟩
            rw [← hT1] at vb rbb
            have wa := fun W M' F hM A' f' H hA' hl hs => WA.out W M' F hM A' f' B H HK5.out hA' hl hs hsz
            simp only [hu1] at wa
            have wb := fun W M' F hM A' f' H hA' hl hs => WB.out W M' F hM A' f' B H HK5.out hA' hl hs hsz
            have ru := fun W M' F hM A' f' H hA' hl hs => RU.out W M' F hM A' f' B H HK5.out hA' hl hs hsz
            obtain ⟨⟨U2, V2, E2⟩, hR2⟩ : ∃ R, R = unlockR k (lab a' b') B := ⟨_, rfl⟩
            simp only [← hR2] at wb ru
            rw [← WUV.out.1, ← WUV.out.2] at wa
            have VB0 := Lib.hid vb
            have VL := Lib.hid vlg
            have RL := Lib.hid rlg
            have RBB := Lib.hid rbb
            have CK0 := Lib.hid ck
            have WA0 := Lib.hid wa
            have WB0 := Lib.hid wb
            have RU0 := Lib.hid ru
            clear vb vlg rlg rbb hsz ck hT1 wa wb ru hR2 hu1 VB VLB VLG RLG RB_ CK WA WB RU HULL HSZ HC128
            go_upto_region 4 with fail
            refine wp_region_lit ?_
            (refine wpList_ex (v := ?_) (by rfl) ?_ ?_; rotate_left; (focus (go_simp; with_reducible rfl)); simp only [Act.put, List.setIfInBounds_toArray, List.set_cons_zero, List.set_cons_succ])
            refine wpList_load_mid (by rfl) 24 (.tmp 4) (by rfl) w.heap.size 0 (by rfl) bs _ (HSR.out _ _ _ _ _ _ H3) Tryd.underlying24 rfl (by rw [HBV.out]; exact Tryd.size16) ?_
            simp only [Act.put, List.setIfInBounds_toArray, List.set_cons_zero, List.set_cons_succ]
            go_wp2_with fail
            refine (VL.out _ _ H3).mono ?_
            rintro e w1 ⟨A8, c8, M8, rfl, h1, h2, hM, hin, H4⟩
            clear c0 c1 c2 c3
            obtain ⟨c0, c1, c2, c3⟩ := HCE.out _ _ _ _ H4
            have HIN := Lib.hid (And.intro h1 (And.intro h2 hin))
            have HM := Lib.hid hM
            clear h1 h2 hin hM H3
            go_wp2_with fail
            refine (VB0.out _ _ _ H4).mono ?_
            rintro e w2 ⟨rfl, H5⟩
            clear c0 c1 c2 c3 H4
            obtain ⟨c0, c1, c2, c3⟩ := HCE.out _ _ _ _ H5
            go_wp2_with fail
            refine (CK0.out _).mono ?_
            rintro e w3 ⟨rfl, rfl⟩
            have HW := Lib.hid (WA0.out _ _ _ HM.out A8 c8 H5 HIN.out.2.1 HIN.out.1 (Sr.of_in HIN.out.2.2))
            go_wp2_with fail
            refine HW.out.mono ?_
            rintro e w4 ⟨rfl, H6⟩
            clear c0 c1 c2 c3 H5 HW
            go_upto_region 10 with fail
            refine Pt.wp_plan (fun w' => St w w' M8 [eb g7 52 X, eb g8 52 Y, eb g5 56 Z, eb w.heap.size 24 bs]) (Pt.prs [0, 1, 2, 3, 4, 5, 6, 7, 8, 10] (Pt.rds [9, 11] (.go 12 (Pt.prs [13, 14, 15, 16, 18, 20, 22, 24, 26] (Pt.rds [17, 19, 21, 23, 25, 27] (.go 28 (Pt.rds [29] (Pt.prs [30, 31, 32, 33, 34, 35, 36, 37, 38] (Pt.rds [39] (Pt.prs [40, 41, 42, 43, 44] (Pt.rds [45] (Pt.prs [46, 47] .fin)))))))))))) [] Tryd.mixed (by kernel_rfl) (fun _ _ d _ _ h => by cases d <;> exact h) H6.drew ?_
            have H7 := H6.drew
            clear H6
            simp only [Pt.toL, Pt.rds, Pt.prs, Pt.at_, List.drop_succ_cons, List.drop_zero]
            iterate 10 (refine Pt.pr_run (v := ?_) (by rfl) ?_ ?_; rotate_left; (focus (intro w'; go_simp; with_reducible rfl)); simp only [Act.put, List.setIfInBounds_toArray, List.set_cons_zero, List.set_cons_succ])
            iterate 2 (refine Pt.rd_run (v := ?_) (by rfl) ?_ ?_; rotate_left; (focus (intro w' hS; obtain ⟨c0, c1, c2, c3⟩ := HCE.out _ _ _ _ hS; go_simp; with_reducible rfl)); simp only [Act.put, List.setIfInBounds_toArray, List.set_cons_zero, List.set_cons_succ])
            refine Pt.run_go ?_
            go_wp2_with fail
            refine (RBB.out _).mono ?_
            rintro e w5 ⟨rfl, rfl⟩
            go_wp2_with fail
            refine Pt.same H7 ?_
            iterate 9 (refine Pt.pr_run (v := ?_) (by rfl) ?_ ?_; rotate_left; (focus (intro w'; go_simp; with_reducible rfl)); simp only [Act.put, List.setIfInBounds_toArray, List.set_cons_zero, List.set_cons_succ])
            (refine Pt.rd_run (v := ?_) (by rfl) ?_ ?_; rotate_left; (focus (intro w' hS; have cv := conv_RB (P := Tryd.prog) (src := 42) (dst := 9) (c := c8) Tryd.underlying42 Tryd.underlying5 Tryd.underlying9 (HIN.out.2.2.now hS) rfl; go_simp; with_reducible rfl)); simp only [Act.put, List.setIfInBounds_toArray, List.set_cons_zero, List.set_cons_succ])
            refine Pt.rd_load (by rfl) 24 (.tmp 4) (by rfl) w.heap.size 0 (by rfl) bs _ (fun w' hS => HSR.out _ _ _ _ _ _ hS) Tryd.underlying24 rfl (by rw [HBV.out]; exact Tryd.size16) ?_
            simp only [Act.put, List.setIfInBounds_toArray, List.set_cons_zero, List.set_cons_succ]
            iterate 4 (refine Pt.rd_run (v := ?_) (by rfl) ?_ ?_; rotate_left; (focus (intro w' hS; obtain ⟨c0, c1, c2, c3⟩ := HCE.out _ _ _ _ hS; go_simp; with_reducible rfl)); simp only [Act.put, List.setIfInBounds_toArray, List.set_cons_zero, List.set_cons_succ])
            refine Pt.run_go ?_
            go_wp2_with fail
            refine (RL.out _ _ _ HM.out H7).mono ?_
            rintro e w6 ⟨A9, c9, M9, rfl, k1, k2, hM9, hin9, H8⟩
            have HIN9 := Lib.hid hin9
            have HM9 := Lib.hid hM9
            clear k1 k2 hin9 hM9
            go_wp2_with fail
            refine ⟨fun w' => St w w' M9 [eb g7 52 X, eb g8 52 Y, eb g5 56 Z, eb w.heap.size 24 bs], fun x h => h.weak H7 HM9.out, H8, ?_⟩
            (refine Pt.rd_run (v := ?_) (by rfl) ?_ ?_; rotate_left; (focus (intro w' hS; have cv := conv_RB (P := Tryd.prog) (src := 42) (dst := 9) (c := c9) Tryd.underlying42 Tryd.underlying5 Tryd.underlying9 (HIN9.out.now hS) rfl; go_simp; with_reducible rfl)); simp only [Act.put, List.setIfInBounds_toArray, List.set_cons_zero, List.set_cons_succ])
            iterate 9 (refine Pt.pr_run (v := ?_) (by rfl) ?_ ?_; rotate_left; (focus (intro w'; go_simp; with_reducible rfl)); simp only [Act.put, List.setIfInBounds_toArray, List.set_cons_zero, List.set_cons_succ])
            (refine Pt.rd_run (v := ?_) (by rfl) ?_ ?_; rotate_left; (focus (intro w' hS; obtain ⟨c0, c1, c2, c3⟩ := HCE.out _ _ _ _ hS; go_simp; with_reducible rfl)); simp only [Act.put, List.setIfInBounds_toArray, List.set_cons_zero, List.set_cons_succ])
            iterate 5 (refine Pt.pr_run (v := ?_) (by rfl) ?_ ?_; rotate_left; (focus (intro w'; go_simp; with_reducible rfl)); simp only [Act.put, List.setIfInBounds_toArray, List.set_cons_zero, List.set_cons_succ])
            (refine Pt.rd_run (v := ?_) (by rfl) ?_ ?_; rotate_left; (focus (intro w' hS; obtain ⟨c0, c1, c2, c3⟩ := HCE.out _ _ _ _ hS; go_simp; with_reducible rfl)); simp only [Act.put, List.setIfInBounds_toArray, List.set_cons_zero, List.set_cons_succ])
            iterate 2 (refine Pt.pr_run (v := ?_) (by rfl) ?_ ?_; rotate_left; (focus (intro w'; go_simp; with_reducible rfl)); simp only [Act.put, List.setIfInBounds_toArray, List.set_cons_zero, List.set_cons_succ])
            refine Pt.run_fin ?_
            obtain ⟨c0, c1⟩ := HCY.out _ _ _ _ _ H8
            have HMM := Lib.hid (HM.out.trans HM9.out)
            have HW := Lib.hid (WB0.out _ _ _ HMM.out A8 c8 H8 HIN.out.2.1 HIN.out.1 ((Sr.of_in HIN.out.2.2).le HM9.out))
            clear H7
            go_wp2_with fail
            refine HW.out.mono ?_
            rintro e w7 ⟨rfl, H9⟩
            clear c0 c1 HW H8
            obtain ⟨c0, c1⟩ := HCY.out _ _ _ _ _ H9
            have HW := Lib.hid (RU0.out _ _ _ HMM.out A8 c8 H9 HIN.out.2.1 HIN.out.1 ((Sr.of_in HIN.out.2.2).le HM9.out))
            go_wp2_with fail
            refine HW.out.mono ?_
            rintro e w8 ⟨rfl, H10⟩
            clear c0 c1 HW H9
            go_wp2_with fail
            refine (AW2.out _ _ _ H10).mono ?_
            rintro e w9 ⟨rfl, H11⟩
            go_wp2
            go_ret
            exact ⟨rfl, H11.below⟩
          · have vb := VB.out
            simp only [if_neg h0] at vb
            have VB0 := Lib.hid vb
            have VLB0 := Lib.hid (fun W F H => VLB.out W F H h0)
            have e1 : (C == 0) = false := by simpa using h0
            have e2 : (C != 0) = true := by simpa using h0
            clear vb VB VLB VLG RLG RB_ HULL HSZ HC128 h0
            go_upto_region 4 with fail
            have c0 := (HCE.out _ _ _ _ H3).1
            refine wp_region_lit ?_
            (refine wpList_ex (v := ?_) (by rfl) ?_ ?_; rotate_left; (focus (go_simp; with_reducible rfl)); simp only [Act.put, List.setIfInBounds_toArray, List.set_cons_zero, List.set_cons_succ])
            refine wpList_load_mid (by rfl) 24 (.tmp 4) (by rfl) w.heap.size 0 (by rfl) bs _ (HSR.out _ _ _ _ _ _ H3) Tryd.underlying24 rfl (by rw [HBV.out]; exact Tryd.size16) ?_
            simp only [Act.put, List.setIfInBounds_toArray, List.set_cons_zero, List.set_cons_succ]
            go_wp2_with fail
            refine (VLB0.out _ _ H3).mono ?_
            rintro e w1 ⟨rfl, H4⟩
            clear c0 c1 c2 c3
            obtain ⟨c0, c1, c2, c3⟩ := HCE.out _ _ _ _ H4
            go_wp2_with fail
            refine (VB0.out _ _ _ H4).mono ?_
            rintro e w2 ⟨rfl, H5⟩
            clear c0 c1 c2 c3
            obtain ⟨c0, c1, c2, c3⟩ := HCE.out _ _ _ _ H5
            go_wp2_with fail
            refine (CK.out _).mono ?_
            rintro e w3 ⟨rfl, rfl⟩
            go_wp2_with fail
            refine (AW.out _ _ H5).mono ?_
            rintro e w4 ⟨rfl, H6⟩
            go_wp2
            go_ret
            exact ⟨rfl, H6.below⟩
end Go.Proofs.YtcdljlaoedaliaaDoor
