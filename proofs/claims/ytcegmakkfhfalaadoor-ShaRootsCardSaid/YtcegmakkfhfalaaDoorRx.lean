/- The reference's Root; the constants are the primes' roots. -/
import Derived.Test.YtcegmakkfhfalaaDoorTi
import Derived.Test.YtcegmakkfhfalaaDoorPm
import Derived.KernelRfl
set_option linter.unusedVariables false
set_option linter.unusedSimpArgs false
namespace Go.Proofs.YtcegmakkfhfalaaDoor
open Go.RowKit Wd
/-- The search from the n-th bit down. -/
def rootGo (root p : Nat) : Nat → Nat → Nat
  | 0, x => x
  | n + 1, x => rootGo root p n (if (x + 2 ^ n) ^ root ≤ p * 65536 ^ (2 * root) then x + 2 ^ n else x)
def rootL (root p : Nat) : Nat := rootGo root p 40 0
theorem roots3 : ((List.range 64).map fun i => rootL 3 (prm i) % 4294967296) = Sha.known.map (·.toNat) := by decide +kernel
theorem roots2 : ((List.range 8).map fun i => rootL 2 (prm i) % 4294967296) = Sha.first.list.map (·.toNat) := by decide +kernel
theorem prm_lt : ∀ n : Nat, n < 64 → prm n < 65536 := by decide +kernel
section
variable {w0 w : World} {M : Mem} {L : List Ent}
set_option maxRecDepth 100000 in
set_option maxHeartbeats 2000000 in
theorem root_any (H : St w0 w M L) (root p : Nat) (hroot : root = 2 ∨ root = 3) (hp : p < 65536) :
    Calls Tryd.prog 13 #[.int .i64 (p : Int), .int .i64 (root : Int)] w fun e w' => e = .returned (.int .u32 ((rootL root p % 4294967296 : Nat) : Int)) ∧ St w0 w' M L := by
  obtain ⟨R, hR⟩ : ∃ R, R = rootL root p := ⟨_, rfl⟩
  rw [← hR]
  obtain ⟨r, hr⟩ : ∃ r, r = R % 4294967296 := ⟨_, rfl⟩
  rw [← hr]
  have HR := Lib.hid hR
  have HRR := Lib.hid hr
  clear hR hr
  go_enter Tryd.func13, Tryd.ntmps13
  go_wp2
  go_loopw [5, 6] (fun v i wr => ∃ (n x : Nat) (I : Int), n ≤ 40 ∧ I = (n : Int) - 1 ∧ i = .int .i64 I ∧ v = .int .u64 (x : Int) ∧ x + 2 ^ n ≤ 2 ^ 40 ∧ rootGo root p n x = R ∧ St w0 wr M L) (fun _ i _ => (intOf i + 1).toNat)
  case atStart => exact ⟨40, 0, 39, by omega, rfl, rfl, rfl, by omega, by rw [HR.out]; rfl, H⟩
  case round =>
    obtain ⟨n, x, I, hn, hI, rfl, rfl, hx, hgo, H1⟩ := hrel
    clear H
    cases n with
    | zero =>
      obtain rfl : I = -1 := by omega
      clear hI
      obtain rfl : x = R := hgo
      have hx2 : x < 1099511627776 := by have : (2 : Nat) ^ 40 = 1099511627776 := by decide
                                         omega
      have hr := HRR.out
      have e1 : (x : Int) % 4294967296 = (r : Int) := by omega
      have e2 : (x : Int).tmod 4294967296 = (r : Int) := by rw [Int.tmod_eq_emod_of_nonneg (by omega)]; exact e1
      have e3 : (r : Int) < 4294967296 := by omega
      clear hr hx hn
      go_wp2
      go_ret
      exact ⟨rfl, H1⟩
    | succ q =>
      obtain rfl : I = (q : Int) := by omega
      clear hI
      obtain ⟨s, hs⟩ : ∃ s, s = 2 ^ q := ⟨_, rfl⟩
      have hs1 : 1 ≤ s := by rw [hs]; exact Nat.one_le_two_pow
      have hs40 : s ≤ 549755813888 := by
        have h1 : (2 : Nat) ^ q ≤ 2 ^ 39 := Nat.pow_le_pow_right (by decide) (by omega)
        have h2 : (2 : Nat) ^ 39 = 549755813888 := by decide
        omega
      have hpw : (2 : Nat) ^ (q + 1) = 2 * s := by rw [hs, Nat.pow_succ]; omega
      have h40 : (2 : Nat) ^ 40 = 1099511627776 := by decide
      obtain ⟨y, hy⟩ : ∃ y, y = x + s := ⟨_, rfl⟩
      have f2 : (2 : Int) ^ q = (s : Int) := by rw [hs]; simp
      have f3 : (x : Int) + (s : Int) = (y : Int) := by omega
      have f4 : (y : Int) < 1099511627776 := by omega
      have f5 : (s : Int) < 1099511627776 := by omega
      have q0 : (0 : Int) ≤ (q : Int) := by omega
      have q1 : (q : Int) ≤ 39 := by omega
      have hti := times_any H1 y root p (by omega) hroot hp
      unfold rootGo at hgo
      rw [← hs, ← hy] at hgo
      by_cases hyes : y ^ root ≤ p * 65536 ^ (2 * root)
      · rw [if_pos hyes] at hgo
        rw [decide_eq_true hyes] at hti
        have HTI := Lib.hid hti
        have HG := Lib.hid (show y + 2 ^ q ≤ 2 ^ 40 ∧ rootGo root p q y = R from ⟨by omega, hgo⟩)
        clear hti hgo hyes hs hs1 hpw hy hx hs40 h40
        go_wp2_with fail
        refine HTI.out.mono ?_
        rintro e w2 ⟨rfl, H2⟩
        go_wp2
        obtain ⟨g1, g2⟩ := HG.out
        exact ⟨⟨q, y, (q : Int) - 1, by omega, rfl, by go_num, rfl, g1, g2, H2⟩, by first | (simp [intOf]; done) | (simp [intOf]; omega)⟩
      · rw [if_neg hyes] at hgo
        rw [decide_eq_false hyes] at hti
        have HTI := Lib.hid hti
        have HG := Lib.hid (show x + 2 ^ q ≤ 2 ^ 40 ∧ rootGo root p q x = R from ⟨by omega, hgo⟩)
        clear hti hgo hyes hs hs1 hpw hy hx hs40 h40
        go_wp2_with fail
        refine HTI.out.mono ?_
        rintro e w2 ⟨rfl, H2⟩
        go_wp2
        obtain ⟨g1, g2⟩ := HG.out
        exact ⟨⟨q, x, (q : Int) - 1, by omega, rfl, by go_num, rfl, g1, g2, H2⟩, by first | (simp [intOf]; done) | (simp [intOf]; omega)⟩
end
end Go.Proofs.YtcegmakkfhfalaaDoor
