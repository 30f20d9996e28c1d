/- The reference's Prime. -/
import Derived.Test.YtcegmakkfhfalaaDoorHs
set_option linter.unusedVariables false
set_option linter.unusedSimpArgs false
namespace Go.Proofs.YtcegmakkfhfalaaDoor
open Go.RowKit Wd
/-- None of 2 .. d - 1 parts p. -/
def noD (p : Nat) : Nat → Bool
  | 0 => true
  | d + 1 => noD p d && (decide (d < 2) || p % d != 0)
def isP (p : Nat) : Bool := noD p p
/-- How many primes among 2 .. p. -/
def cntP : Nat → Nat
  | 0 => 0
  | p + 1 => cntP p + (if 1 ≤ p && isP (p + 1) then 1 else 0)
def primes : List Nat := (List.range 312).filter fun p => decide (2 ≤ p) && isP p
theorem primes_at : ∀ p : Nat, p < 312 → 2 ≤ p → isP p = true → primes[cntP p - 1]? = some p := by decide +kernel
theorem cnt_311 : cntP 311 = 64 := by decide +kernel
theorem cnt_mono (p q : Nat) (h : p ≤ q) : cntP p ≤ cntP q := by
  induction q with
  | zero => obtain rfl : p = 0 := by omega
            exact Nat.le_refl _
  | succ q ih =>
    rcases Nat.lt_or_ge p (q + 1) with h1 | h1
    · have := ih (by omega)
      show _ ≤ cntP q + _
      omega
    · obtain rfl : p = q + 1 := by omega
      exact Nat.le_refl _
def prm (n : Nat) : Nat := primes.getD n 0
set_option maxRecDepth 100000 in
set_option maxHeartbeats 1000000 in
theorem prime_any (n : Nat) (hn : n < 64) (w : World) : Calls Tryd.prog 14 #[.int .i64 (n : Int)] w fun e w' => e = .returned (.int .i64 (prm n : Int)) ∧ w = w' := by
  go_enter Tryd.func14, Tryd.ntmps14
  go_wp2
  go_loopw [3, 4] (fun a b wr => wr = w ∧ ∃ p : Nat, 1 ≤ p ∧ p ≤ 311 ∧ a = .int .i64 p ∧ b = .int .i64 ((cntP p : Int) - 1) ∧ cntP p ≤ n + 1 ∧ (cntP p = n + 1 → 2 ≤ p ∧ isP p = true)) (fun a _ _ => 311 - (intOf a).toNat)
  case atStart => exact ⟨rfl, 1, by omega, by omega, rfl, by rfl, by show 0 ≤ n + 1; omega, fun h => absurd h (by show ¬ 0 = n + 1; omega)⟩
  case round =>
    obtain ⟨rfl, p, hp1, hp2, rfl, rfl, hc, hfin⟩ := hrel
    obtain ⟨c, hcc⟩ : ∃ c, c = cntP p := ⟨_, rfl⟩
    rw [← hcc] at hc hfin ⊢
    by_cases hlt : c ≤ n
    · have hl : (c : Int) - 1 < (n : Int) := by omega
      have hp : p < 311 := by
        rcases Nat.lt_or_ge p 311 with h | h
        · exact h
        · obtain rfl : p = 311 := by omega
          have := cnt_311
          omega
      obtain ⟨q, hq⟩ : ∃ q, q = p + 1 := ⟨_, rfl⟩
      have e1 : (p : Int) + 1 = (q : Int) := by omega
      have HQ := Lib.hid hq
      have HCC := Lib.hid hcc
      have q2 : q ≤ 311 := by omega
      have q1 : 2 ≤ q := by omega
      clear hq hcc hfin hc
      go_wp2
      go_loopw [5, 6] (fun t d wi => wi = wr ∧ ∃ k : Nat, 2 ≤ k ∧ k ≤ q ∧ d = .int .i64 k ∧ t = .bool (noD q k)) (fun _ d _ => q - (intOf d).toNat)
      case atStart => exact ⟨rfl, 2, by omega, by omega, rfl, by rfl⟩
      case round =>
        obtain ⟨rfl, k, hk2, hkq, rfl, rfl⟩ := hrel
        have hs : noD q (k + 1) = (noD q k && (decide (k < 2) || q % k != 0)) := rfl
        rw [decide_eq_false (show ¬ k < 2 by omega), Bool.false_or] at hs
        obtain ⟨t, ht⟩ : ∃ t, t = noD q k := ⟨_, rfl⟩
        rw [← ht] at hs ⊢
        by_cases hkl : k < q
        · have hb : (((q : Int) % (k : Int)) != 0) = (q % k != 0) := by
            rw [Bool.eq_iff_iff, bne_iff_ne, bne_iff_ne]
            omega
          obtain ⟨r, hr⟩ : ∃ r : Bool, r = (q % k != 0) := ⟨_, rfl⟩
          rw [← hr] at hb hs
          have hk0 : ¬ (k : Int) = 0 := by omega
          have hk1 : (0 : Int) < (k : Int) := by omega
          have hq0 : (0 : Int) ≤ (q : Int) := by omega
          have HS := Lib.hid hs
          clear hs ht hr
          cases t with
          | false =>
            go_wp2
            exact ⟨⟨trivial, k + 1, by omega, by omega, by go_num, by rw [HS.out]; rfl⟩, by simp [intOf]; omega⟩
          | true =>
            go_wp2
            exact ⟨⟨trivial, k + 1, by omega, by omega, by go_num, by rw [HS.out, Bool.true_and]⟩, by simp [intOf]; omega⟩
        · obtain rfl : k = q := by omega
          have hcq : cntP k = c + (if isP k then 1 else 0) := by
            rw [HQ.out, HCC.out]
            show cntP p + _ = _
            rw [decide_eq_true hp1, Bool.true_and]
          have HCQ := Lib.hid hcq
          have HT := Lib.hid (show t = isP k from ht)
          clear hs hcq ht
          cases t with
          | true =>
            go_wp2
            have hi : isP k = true := HT.out.symm
            have h1 : cntP k = c + 1 := by rw [HCQ.out, hi]; rfl
            exact ⟨⟨trivial, k, by omega, q2, rfl, by rw [h1]; congr 1; omega, by rw [h1]; omega, fun _ => ⟨q1, hi⟩⟩, by have := HQ.out; simp [intOf]; omega⟩
          | false =>
            go_wp2
            have hi : isP k = false := HT.out.symm
            have h1 : cntP k = c := by rw [HCQ.out, hi]; rfl
            exact ⟨⟨trivial, k, by omega, q2, rfl, by rw [h1], by rw [h1]; omega, fun h => absurd h (by rw [h1]; omega)⟩, by have := HQ.out; simp [intOf]; omega⟩
    · have hc1 : c = n + 1 := by omega
      have h1 := hfin hc1
      have h2 := primes_at p (by omega) h1.1 h1.2
      rw [← hcc, hc1, Nat.add_sub_cancel] at h2
      have h3 : prm n = p := by
        unfold prm
        rw [List.getD_eq_getElem?_getD, h2]
        rfl
      have H3 := Lib.hid h3
      have hl : ¬ (c : Int) - 1 < (n : Int) := by omega
      clear h3 h2 hcc hfin h1 hc1
      go_wp2
      go_ret
      exact ⟨by rw [H3.out]; rfl, rfl⟩
end Go.Proofs.YtcegmakkfhfalaaDoor
