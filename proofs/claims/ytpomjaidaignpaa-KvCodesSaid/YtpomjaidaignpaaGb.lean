/- The contracts of log.Sum and the other package's Sum. -/
import Derived.Test.YtpomjaidaignpaaGa
import Derived.Test.YtpomjaidaignpaaWk
import Derived.Test.YtpomjaidaignpaaI5
set_option linter.unusedVariables false
set_option linter.unusedSimpArgs false
namespace Go.Proofs.Ytpomjaidaignpaa
open Go.RowKit Wd
theorem Lg.and1 (x : Nat) (h : x < 4294967296) : bits .and .u32 (x : Int) 1 = ((x % 2 : Nat) : Int) := by
  have := u32_and_nat x 1 h (by decide)
  rw [Nat.and_one_is_mod] at this
  exact this
theorem Lg.step_run (x : Nat) (h : x < 4294967296) : ∃ b p q : Nat, bits .and .u32 (x : Int) 1 = (b : Int) ∧ (3988292384 * (b : Int)) % 4294967296 = (p : Int) ∧ (x : Int) / 2 = (q : Int) ∧ bits .xor .u32 (q : Int) (p : Int) = (Lg.step x : Int) := by
  refine ⟨x % 2, if x % 2 = 1 then Lg.poly else 0, x / 2, Lg.and1 x h, ?_, by omega, ?_⟩
  · unfold Lg.poly
    split <;> omega
  · rw [u32_xor_nat _ _ (by omega) (by split; exact Lg.poly_lt; decide)]; rfl
section
variable {w0 w : World} {M : Mem} {L : List Ent}
set_option maxRecDepth 100000 in
theorem sum_any {w : World} {A : Option Addr} {c : Nat} {l : List UInt8} (hl : RB w A l) (hn : l.length < 140737488355000) :
    Calls Try.prog 65 #[.slice A l.length c] w fun e w' => e = .returned (.int .u32 (Lg.crc l : Int)) ∧ w = w' := by
  obtain ⟨D, hD⟩ : ∃ D, D = Lg.crc l := ⟨_, rfl⟩
  rw [← hD]
  have HD := Lib.hid hD
  clear hD
  go_enter Try.func65, Try.ntmps65
  go_wp2
  go_loopw [3, 8] (fun x i wr => ∃ k : Nat, k ≤ l.length ∧ i = .int .i64 k ∧ x = .int .u32 (Lg.run (l.take k) : Int) ∧ wr = w) (fun _ i _ => l.length - (intOf i).toNat)
  case atStart => exact ⟨0, by omega, rfl, rfl, rfl⟩
  case round =>
    obtain ⟨k, hk, rfl, rfl, rfl⟩ := hrel
    by_cases hlt : k < l.length
    · obtain ⟨b, o, rfl, hc⟩ := hl.at k hlt
      have hr := Lg.run_take l k hlt
      have hy := Lg.run_lt (l.take k)
      obtain ⟨Y, hY⟩ : ∃ Y, Y = Lg.run (l.take k) := ⟨_, rfl⟩
      obtain ⟨v, hv⟩ : ∃ v, v = l[k] := ⟨_, rfl⟩
      rw [← hY, ← hv] at hr
      rw [← hY] at hy
      rw [← hv] at hc
      rw [← hY]
      have hv2 := v.toNat_lt
      have hx := u32_xor_nat Y v.toNat hy (by omega)
      obtain ⟨Z, hZ⟩ : ∃ Z, Z = Y ^^^ v.toNat := ⟨_, rfl⟩
      have hZl : Z < 4294967296 := by rw [hZ]; exact Nat.xor_lt_two_pow (n := 32) hy (by omega)
      rw [← hZ] at hx
      have hr2 : Lg.run (l.take (k + 1)) = Lg.steps 8 Z := by rw [hr, hZ]; rfl
      have HR := Lib.hid hr2
      have HZ := Lib.hid hZ
      have HLT := Lib.hid hlt
      have q1 : (k : Int) < (l.length : Int) := by omega
      clear hr hY hv hZ hr2 hlt hy
      go_wp2
      go_loopw [3, 16] (fun x i wr' => ∃ j : Nat, j ≤ 8 ∧ i = .int .i64 j ∧ x = .int .u32 (Lg.steps j Z : Int) ∧ wr' = wr) (fun _ i _ => 8 - (intOf i).toNat)
      case atStart => exact ⟨0, by omega, rfl, rfl, rfl⟩
      case round =>
        obtain ⟨j, hj, rfl, rfl, rfl⟩ := hrel
        by_cases hj8 : j < 8
        · have hs : Lg.steps (j + 1) Z = Lg.step (Lg.steps j Z) := rfl
          have hyl := Lg.steps_lt j Z hZl
          obtain ⟨Y, hY⟩ : ∃ Y, Y = Lg.steps j Z := ⟨_, rfl⟩
          rw [← hY] at hs hyl ⊢
          obtain ⟨b1, p1, q1, e1, e2, e3, e4⟩ := Lg.step_run Y hyl
          obtain ⟨T, hT⟩ : ∃ T, T = Lg.step Y := ⟨_, rfl⟩
          rw [← hT] at hs e4
          have HS := Lib.hid hs
          have q2 : (j : Int) < 8 := by omega
          clear hs hT hY
          go_wp2
          exact ⟨⟨j + 1, by omega, by go_num, by rw [HS.out], trivial⟩, by simp [intOf]; omega⟩
        · obtain rfl : j = 8 := by omega
          go_wp2
          have := HLT.out
          refine ⟨⟨k + 1, by omega, by go_num, by rw [HR.out], trivial⟩, by simp [intOf]; omega⟩
    · obtain rfl : k = l.length := by omega
      go_wp2
      have hx := u32_xor_nat 4294967295 (Lg.run l) (by decide) (Lg.run_lt l)
      rw [Nat.xor_comm] at hx
      go_ret
      exact ⟨by rw [HD.out]; exact congrArg (fun x => Ending.returned (Value.int IntKind.u32 x)) hx, rfl⟩
/-- One bit, the other package's way. -/
theorem Lg.bit_run (c : UInt8) (y j : Nat) (hj : j < 8) (h : y < 4294967296) : ∃ s a a2 x2 d q : Nat, (2 : Int) ^ j = (s : Int) ∧ (c.toNat : Int) / (s : Int) = (a : Int) ∧ (a : Int) % 2 = (a2 : Int) ∧ (y : Int) % 2 = (x2 : Int) ∧ bits .xor .u32 (a2 : Int) (x2 : Int) = (d : Int) ∧ (y : Int) / 2 = (q : Int) ∧
    ((d = 1 ∧ bits .xor .u32 (q : Int) 3988292384 = (Lg.bitStep c.toNat y j : Int)) ∨ (¬ d = 1 ∧ q = Lg.bitStep c.toNat y j)) := by
  refine ⟨2 ^ j, c.toNat / 2 ^ j, c.toNat / 2 ^ j % 2, y % 2, (c.toNat / 2 ^ j % 2) ^^^ (y % 2), y / 2, by push_cast; rfl, by push_cast; rfl, by omega, by omega, ?_, by omega, ?_⟩
  · rw [u32_xor_nat _ _ (by omega) (by omega)]
  · unfold Lg.bitStep
    by_cases hd : ((c.toNat / 2 ^ j % 2) ^^^ (y % 2)) = 1
    · refine .inl ⟨hd, ?_⟩
      rw [if_pos hd]
      exact u32_xor_nat (y / 2) 3988292384 (by omega) (by decide)
    · refine .inr ⟨hd, ?_⟩
      rw [if_neg hd, Nat.xor_zero]
theorem Lg.bitStep_lt (c y j : Nat) (h : y < 4294967296) : Lg.bitStep c y j < 4294967296 := by
  unfold Lg.bitStep
  refine Nat.xor_lt_two_pow (n := 32) (by omega) ?_
  split
  · exact Lg.poly_lt
  · omega
theorem Lg.bitSteps_lt (c n y : Nat) (h : y < 4294967296) : Lg.bitSteps c n y < 4294967296 := by
  induction n with
  | zero => exact h
  | succ n ih => exact Lg.bitStep_lt _ _ _ ih
end
end Go.Proofs.Ytpomjaidaignpaa
