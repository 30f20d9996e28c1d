/- The contracts of log.Sum and the other package's Sum. -/
import Derived.Test.YtepgmebklhemgaaGreatDoorA2
import Derived.Test.YtepgmebklhemgaaGreatDoorA1
import Derived.Test.YtepgmebklhemgaaGreatDoorA4
import Derived.Test.YtepgmebklhemgaaGreatDoorChecked
import Derived.Lib.LazyBuf
set_option linter.unusedVariables false
set_option linter.unusedSimpArgs false
namespace Go.Proofs.YtepgmebklhemgaaGreatDoor
open Go.RowKit Wd
theorem Lg.and1 (x : Nat) (h : x < 4294967296) : bits .and .u32 (x : Int) 1 = ((x % 2 : Nat) : Int) := by
  have := u32_and_nat x 1 h (by decide)
  rw [Nat.and_one_is_mod] at this
  exact this
theorem Lg.step_run (x : Nat) (h : x < 4294967296) : ∃ b p q : Nat, bits .and .u32 (x : Int) 1 = (b : Int) ∧ (3988292384 * (b : Int)) % 4294967296 = (p : Int) ∧ (x : Int) / 2 = (q : Int) ∧ bits .xor .u32 (q : Int) (p : Int) = (Lg.step x : Int) := by
  refine ⟨x % 2, if x % 2 = 1 then Lg.poly else 0, x / 2, Lg.and1 x h, ?_, by omega, ?_⟩
  · unfold Lg.poly
    split <;> omega
  · rw [u32_xor_nat _ _ (by omega) (by split; exact Lg.poly_lt; decide)]; rfl
section
variable {w0 w : World} {M : Mem} {L : List Ent}
set_option maxRecDepth 100000 in
theorem sum_any {w : World} {A : Option Addr} {c : Nat} {l : List UInt8} (hl : RB w A l) (hn : l.length < 140737488355000) :
    Calls Tryz.prog 120 #[.slice A l.length c] w fun e w' => e = .returned (.int .u32 (Lg.crc l : Int)) ∧ w = w' := by
  obtain ⟨D, hD⟩ : ∃ D, D = Lg.crc l := ⟨_, rfl⟩
  rw [← hD]
  have HD := Lib.hid hD
  clear hD
  go_enter Tryz.func120, Tryz.ntmps120
  go_wp2
  go_loopw [3, 8] (fun x i wr => ∃ k : Nat, k ≤ l.length ∧ i = .int .i64 k ∧ x = .int .u32 (Lg.run (l.take k) : Int) ∧ wr = w) (fun _ i _ => l.length - (intOf i).toNat)
  case atStart => exact ⟨0, by omega, rfl, rfl, rfl⟩
  case round =>
    obtain ⟨k, hk, rfl, rfl, rfl⟩ := hrel
    by_cases hlt : k < l.length
    · obtain ⟨b, o, rfl, hc⟩ := hl.at k hlt
      have hr := Lg.run_take l k hlt
      have hy := Lg.run_lt (l.take k)
      obtain ⟨Y, hY⟩ : ∃ Y, Y = Lg.run (l.take k) := ⟨_, rfl⟩
      obtain ⟨v, hv⟩ : ∃ v, v = l[k] := ⟨_, rfl⟩
      rw [← hY, ← hv] at hr
      rw [← hY] at hy
      rw [← hv] at hc
      rw [← hY]
      have hv2 := v.toNat_lt
      have hx := u32_xor_nat Y v.toNat hy (by omega)
      obtain ⟨Z, hZ⟩ : ∃ Z, Z = Y ^^^ v.toNat := ⟨_, rfl⟩
      have hZl : Z < 4294967296 := by rw [hZ]; exact Nat.xor_lt_two_pow (n := 32) hy (by omega)
      rw [← hZ] at hx
      have hr2 : Lg.run (l.take (k + 1)) = Lg.steps 8 Z := by rw [hr, hZ]; rfl
      have HR := Lib.hid hr2
      have HZ := Lib.hid hZ
      have HLT := Lib.hid hlt
      have q1 : (k : Int) < (l.length : Int) := by omega
      clear hr hY hv hZ hr2 hlt hy
      go_wp2
      go_loopw [3, 16] (fun x i wr' => ∃ j : Nat, j ≤ 8 ∧ i = .int .i64 j ∧ x = .int .u32 (Lg.steps j Z : Int) ∧ wr' = wr) (fun _ i _ => 8 - (intOf i).toNat)
      case atStart => exact ⟨0, by omega, rfl, rfl, rfl⟩
      case round =>
        obtain ⟨j, hj, rfl, rfl, rfl⟩ := hrel
        by_cases hj8 : j < 8
        · have hs : Lg.steps (j + 1) Z = Lg.step (Lg.steps j Z) := rfl
          have hyl := Lg.steps_lt j Z hZl
          obtain ⟨Y, hY⟩ : ∃ Y, Y = Lg.steps j Z := ⟨_, rfl⟩
          rw [← hY] at hs hyl ⊢
          obtain ⟨b1, p1, q1, e1, e2, e3, e4⟩ := Lg.step_run Y hyl
          obtain ⟨T, hT⟩ : ∃ T, T = Lg.step Y := ⟨_, rfl⟩
          rw [← hT] at hs e4
          have HS := Lib.hid hs
          have q2 : (j : Int) < 8 := by omega
          clear hs hT hY
          go_wp2
          exact ⟨⟨j + 1, by omega, by go_num, by rw [HS.out], trivial⟩, by simp [intOf]; omega⟩
        · obtain rfl : j = 8 := by omega
          go_wp2
          have := HLT.out
          refine ⟨⟨k + 1, by omega, by go_num, by rw [HR.out], trivial⟩, by simp [intOf]; omega⟩
    · obtain rfl : k = l.length := by omega
      go_wp2
      have hx := u32_xor_nat 4294967295 (Lg.run l) (by decide) (Lg.run_lt l)
      rw [Nat.xor_comm] at hx
      go_ret
      exact ⟨by rw [HD.out]; exact congrArg (fun x => Ending.returned (Value.int IntKind.u32 x)) hx, rfl⟩
/-- One bit, the other package's way. -/
theorem Lg.bit_run (c : UInt8) (y j : Nat) (hj : j < 8) (h : y < 4294967296) : ∃ s a a2 x2 d q : Nat, (2 : Int) ^ j = (s : Int) ∧ (c.toNat : Int) / (s : Int) = (a : Int) ∧ (a : Int) % 2 = (a2 : Int) ∧ (y : Int) % 2 = (x2 : Int) ∧ bits .xor .u32 (a2 : Int) (x2 : Int) = (d : Int) ∧ (y : Int) / 2 = (q : Int) ∧
    ((d = 1 ∧ bits .xor .u32 (q : Int) 3988292384 = (Lg.bitStep c.toNat y j : Int)) ∨ (¬ d = 1 ∧ q = Lg.bitStep c.toNat y j)) := by
  refine ⟨2 ^ j, c.toNat / 2 ^ j, c.toNat / 2 ^ j % 2, y % 2, (c.toNat / 2 ^ j % 2) ^^^ (y % 2), y / 2, by push_cast; rfl, by push_cast; rfl, by omega, by omega, ?_, by omega, ?_⟩
  · rw [u32_xor_nat _ _ (by omega) (by omega)]
  · unfold Lg.bitStep
    by_cases hd : ((c.toNat / 2 ^ j % 2) ^^^ (y % 2)) = 1
    · refine .inl ⟨hd, ?_⟩
      rw [if_pos hd]
      exact u32_xor_nat (y / 2) 3988292384 (by omega) (by decide)
    · refine .inr ⟨hd, ?_⟩
      rw [if_neg hd, Nat.xor_zero]
theorem Lg.bitStep_lt (c y j : Nat) (h : y < 4294967296) : Lg.bitStep c y j < 4294967296 := by
  unfold Lg.bitStep
  refine Nat.xor_lt_two_pow (n := 32) (by omega) ?_
  split
  · exact Lg.poly_lt
  · omega
theorem Lg.bitSteps_lt (c n y : Nat) (h : y < 4294967296) : Lg.bitSteps c n y < 4294967296 := by
  induction n with
  | zero => exact h
  | succ n ih => exact Lg.bitStep_lt _ _ _ ih
set_option maxRecDepth 100000 in
theorem rsum_any {w : World} {A : Option Addr} {c : Nat} {l : List UInt8} (hl : RB w A l) (hn : l.length < 140737488355000) :
    Calls Tryz.prog 91 #[.slice A l.length c] w fun e w' => e = .returned (.int .u32 (Lg.crc l : Int)) ∧ w = w' := by
  obtain ⟨D, hD⟩ : ∃ D, D = Lg.crc l := ⟨_, rfl⟩
  rw [← hD]
  have HD := Lib.hid hD
  clear hD
  go_enter Tryz.func91, Tryz.ntmps91
  go_wp2
  go_loopw [3, 4] (fun x i wr => ∃ k : Nat, k ≤ l.length ∧ i = .int .i64 k ∧ x = .int .u32 (Lg.run (l.take k) : Int) ∧ wr = w) (fun _ i _ => l.length - (intOf i).toNat)
  case atStart => exact ⟨0, by omega, rfl, rfl, rfl⟩
  case round =>
    obtain ⟨k, hk, rfl, rfl, rfl⟩ := hrel
    by_cases hlt : k < l.length
    · obtain ⟨b, o, rfl, hc⟩ := hl.at k hlt
      have hr := Lg.run_take l k hlt
      have hy := Lg.run_lt (l.take k)
      obtain ⟨Z, hY⟩ : ∃ Y, Y = Lg.run (l.take k) := ⟨_, rfl⟩
      obtain ⟨v, hv⟩ : ∃ v, v = l[k] := ⟨_, rfl⟩
      rw [← hY, ← hv, ← Lg.bits_byte] at hr
      rw [← hY] at hy
      rw [← hv] at hc
      rw [← hY]
      have hv2 := v.toNat_lt
      have HR := Lib.hid hr
      have HLT := Lib.hid hlt
      have HZL := Lib.hid hy
      have q1 : (k : Int) < (l.length : Int) := by omega
      clear hr hY hv hlt hy
      go_wp2
      go_loopw [3, 5] (fun x i wr' => ∃ j : Nat, j ≤ 8 ∧ i = .int .i64 j ∧ x = .int .u32 (Lg.bitSteps v.toNat j Z : Int) ∧ wr' = wr) (fun _ i _ => 8 - (intOf i).toNat)
      case atStart => exact ⟨0, by omega, rfl, rfl, rfl⟩
      case round =>
        obtain ⟨j, hj, rfl, rfl, rfl⟩ := hrel
        by_cases hj8 : j < 8
        · have hs : Lg.bitSteps v.toNat (j + 1) Z = Lg.bitStep v.toNat (Lg.bitSteps v.toNat j Z) j := rfl
          have hyl := Lg.bitSteps_lt v.toNat j Z HZL.out
          obtain ⟨Y, hY⟩ : ∃ Y, Y = Lg.bitSteps v.toNat j Z := ⟨_, rfl⟩
          rw [← hY] at hs hyl ⊢
          obtain ⟨s1, a1, a2, x2, d1, p1, e1, e2, e3, e4, e5, e6, e7⟩ := Lg.bit_run v Y j hj8 hyl
          obtain ⟨T, hT⟩ : ∃ T, T = Lg.bitStep v.toNat Y j := ⟨_, rfl⟩
          rw [← hT] at hs e7
          have HS := Lib.hid hs
          have q2 : (j : Int) < 8 := by omega
          clear hs hT hY
          rcases e7 with ⟨e7, e8⟩ | ⟨e7, e8⟩
          · subst e7
            go_wp2
            exact ⟨⟨j + 1, by omega, by go_num, by rw [HS.out], trivial⟩, by simp [intOf]; omega⟩
          · have q3 : ¬ (d1 : Int) = 1 := by omega
            have H8 := Lib.hid e8
            clear e7 e8
            go_wp2
            exact ⟨⟨j + 1, by omega, by go_num, by rw [HS.out, H8.out], trivial⟩, by simp [intOf]; omega⟩
        · obtain rfl : j = 8 := by omega
          go_wp2
          have := HLT.out
          refine ⟨⟨k + 1, by omega, by go_num, by rw [HR.out], trivial⟩, by simp [intOf]; omega⟩
    · obtain rfl : k = l.length := by omega
      go_wp2
      have hx := u32_xor_nat (Lg.run l) 4294967295 (Lg.run_lt l) (by decide)
      go_ret
      exact ⟨by rw [HD.out]; exact congrArg (fun x => Ending.returned (Value.int IntKind.u32 x)) hx, rfl⟩
end
end Go.Proofs.YtepgmebklhemgaaGreatDoor
/- The contracts of log's small functions: number, value, half, check. -/
set_option linter.unusedVariables false
set_option linter.unusedSimpArgs false
namespace Go.Proofs.YtepgmebklhemgaaGreatDoor
open Go.RowKit Wd
theorem Lg.be_get (n k j : Nat) (h : j < k) : (Lg.be n k)[j]? = some (UInt8.ofNat (n / 2 ^ (8 * (k - 1 - j)))) := by
  unfold Lg.be
  rw [List.getElem?_map, List.getElem?_range h]
  rfl
theorem Lg.be_take (n k j : Nat) (h : j < k) : (Lg.be n k).take (j + 1) = (Lg.be n k).take j ++ [UInt8.ofNat (n / 2 ^ (8 * (k - 1 - j)))] := by
  have hl : j < (Lg.be n k).length := by rw [Lg.be_len]; exact h
  rw [List.take_succ_eq_append_getElem hl]
  congr 2
  have h1 := Lg.be_get n k j h
  rw [List.getElem?_eq_getElem hl] at h1
  injection h1
set_option maxRecDepth 100000 in
theorem Lg.val_run (x : Nat) (c : UInt8) (h : x * 256 + c.toNat < 18446744073709551616) : ∃ m : Nat, IntKind.u64.wrap ((x : Int) * 256) = (m : Int) ∧ IntKind.u64.wrap (c.toNat : Int) = (c.toNat : Int) ∧ bits .or .u64 (m : Int) (c.toNat : Int) = ((x * 256 + c.toNat : Nat) : Int) := by
  have hc := c.toNat_lt
  have hx : x * 256 < 18446744073709551616 := by omega
  have w1 : IntKind.u64.wrap ((x : Int) * 256) = ((x * 256 : Nat) : Int) := by
    have e : ((x * 256 : Nat) : Int) % 18446744073709551616 = ((x * 256 : Nat) : Int) := Int.emod_eq_of_lt (Int.natCast_nonneg _) (Int.ofNat_lt.2 hx)
    rw [IntKind.wrap_u64]
    exact e
  have w2 : IntKind.u64.wrap (c.toNat : Int) = (c.toNat : Int) := by
    rw [IntKind.wrap_u64]
    exact Int.emod_eq_of_lt (by omega) (by omega)
  refine ⟨x * 256, w1, w2, ?_⟩
  have hc2 : c.toNat < 18446744073709551616 := by omega
  rw [u64_or_nat _ _ hx hc2]
  have h1 := Nat.two_pow_add_eq_or_of_lt (i := 8) (b := c.toNat) (by omega) x
  have h2 : 2 ^ 8 * x = x * 256 := by omega
  rw [h2] at h1
  rw [← h1]
section
variable {w0 w : World} {M : Mem} {L : List Ent}
set_option maxRecDepth 100000 in
theorem number_any (H : St w0 w M L) (n k : Nat) (hn : n < 18446744073709551616) (hk : k ≤ 8) :
    Calls Tryz.prog 119 #[.int .u64 (n : Int), .int .i64 (k : Int)] w fun e w' => ∃ v, e = .returned v ∧ St w0 w' M (er 5 1 v k (bv (Lg.be n k)) :: L) := by
  have H0 := H.addNil 5 1
  have q0 : (k : Int) ≤ 8 := by omega
  go_enter Tryz.func119, Tryz.ntmps119
  go_wp2
  go_loopw [5, 6] (fun v i wr => ∃ j : Nat, j ≤ k ∧ i = .int .i64 ((k : Int) - 1 - (j : Int)) ∧ St w0 wr M (er 5 1 v j (bv ((Lg.be n k).take j)) :: L)) (fun _ i _ => (intOf i + 1).toNat)
  case atStart => exact ⟨0, by omega, by go_num, H0⟩
  case round =>
    obtain ⟨j, hj, rfl, H1⟩ := hrel
    clear H0 H
    by_cases hlt : j < k
    · obtain ⟨i, hi⟩ : ∃ i : Nat, i = k - 1 - j := ⟨_, rfl⟩
      have hi2 : (k : Int) - 1 - (j : Int) = (i : Int) := by omega
      have ht := Lg.be_take n k j hlt
      rw [← hi] at ht
      rw [hi2]
      obtain ⟨m, hm⟩ : ∃ m : Nat, m = 8 * i := ⟨_, rfl⟩
      have e1 : 8 * (i : Int) = (m : Int) := by omega
      obtain ⟨s, hs⟩ : ∃ s : Nat, s = 2 ^ m := ⟨_, rfl⟩
      have e2 : (2 : Int) ^ m = (s : Int) := by rw [hs]; push_cast; rfl
      obtain ⟨q, hq⟩ : ∃ q : Nat, q = n / s := ⟨_, rfl⟩
      have e3 : (n : Int) / (s : Int) = (q : Int) := by rw [hq]; push_cast; rfl
      obtain ⟨b, hb⟩ : ∃ b : UInt8, b = UInt8.ofNat q := ⟨_, rfl⟩
      have e4 : (q : Int) % 256 = (b.toNat : Int) := by rw [hb]; simp
      rw [← hm, ← hs, ← hq, ← hb] at ht
      have HT := Lib.hid ht
      have HI := Lib.hid hi2
      have hi3 : (i : Int) ≤ 7 := by omega
      have hm3 : m < 64 := by omega
      have HLT := Lib.hid hlt
      have H2 := Lib.hid H1
      clear ht hi2 hs hq hb hm hi hlt H1
      go_wp2_with (at_builtin; refine wpList_append1_st H2.out (by rfl) (.tmp 13) (.tmp 19) 30 (by rfl) Tryz.info5 (by rfl) Tryz.underlying30 (by rfl) (by rfl) (by rfl) (by have := HLT.out; omega) (by have := HLT.out; omega) ?_)
      intro v' w' H3
      go_wp2
      refine ⟨⟨j + 1, by have := HLT.out; omega, congrArg (Value.int .i64) (by have := HI.out; omega), by rw [HT.out, bv_append]; exact H3⟩, by simp [intOf]⟩
    · obtain rfl : j = k := by omega
      rw [List.take_of_length_le (by rw [Lg.be_len]; exact Nat.le_refl _)] at H1
      go_wp2
      go_ret
      exact ⟨_, rfl, H1⟩
set_option maxRecDepth 100000 in
theorem value_any {w : World} {A : Option Addr} {c : Nat} {l : List UInt8} (hl : RB w A l) (hn : l.length ≤ 8) :
    Calls Tryz.prog 138 #[.slice A l.length c] w fun e w' => e = .returned (.int .u64 (Lg.num l : Int)) ∧ w = w' := by
  go_enter Tryz.func138, Tryz.ntmps138
  go_wp2
  go_loopw [3, 8] (fun x i wr => ∃ k : Nat, k ≤ l.length ∧ i = .int .i64 k ∧ x = .int .u64 (Lg.num (l.take k) : Int) ∧ wr = w) (fun _ i _ => l.length - (intOf i).toNat)
  case atStart => exact ⟨0, by omega, rfl, rfl, rfl⟩
  case round =>
    obtain ⟨k, hk, rfl, rfl, rfl⟩ := hrel
    by_cases hlt : k < l.length
    · obtain ⟨b, o, rfl, hc⟩ := hl.at k hlt
      have hr := Lg.num_take l k hlt
      have hlim := Lg.num_lt (l.take (k + 1))
      have hpow : 256 ^ (l.take (k + 1)).length ≤ 256 ^ 8 := Nat.pow_le_pow_right (by decide) (by rw [List.length_take]; omega)
      rw [hr] at hlim
      obtain ⟨Y, hY⟩ : ∃ Y, Y = Lg.num (l.take k) := ⟨_, rfl⟩
      obtain ⟨v, hv⟩ : ∃ v, v = l[k] := ⟨_, rfl⟩
      rw [← hY, ← hv] at hr hlim
      rw [← hv] at hc
      rw [← hY]
      obtain ⟨m, e1, e3, e2⟩ := Lg.val_run Y v (Nat.lt_of_lt_of_le hlim hpow)
      obtain ⟨T, hT⟩ : ∃ T, T = Y * 256 + v.toNat := ⟨_, rfl⟩
      rw [← hT] at hr e2
      have HR := Lib.hid hr
      have HLT := Lib.hid hlt
      have q1 : (k : Int) < (l.length : Int) := by omega
      clear hr hY hv hT hlt hlim hpow
      go_wp2
      refine ⟨⟨k + 1, by have := HLT.out; omega, by go_num, by rw [HR.out], trivial⟩, by have := HLT.out; simp [intOf]; omega⟩
    · obtain rfl : k = l.length := by omega
      rw [List.take_length]
      go_wp2
      go_ret
      exact ⟨rfl, rfl⟩
set_option maxRecDepth 100000 in
theorem half_any (n g : Nat) (h1 : 2 ≤ n) (h2 : n ≤ 4096) (hg : g < 18446744073709551616) (w : World) :
    Calls Tryz.prog 110 #[.int .i64 (n : Int), .int .u64 (g : Int)] w fun e w' => e = .returned (.tuple #[.int .i64 (Lg.halfFrom n g : Int), .int .i64 (Lg.halfN n : Int)]) ∧ w = w' := by
  obtain ⟨h, hh⟩ : ∃ h, h = Lg.halfN n := ⟨_, rfl⟩
  obtain ⟨f, hf⟩ : ∃ f, f = Lg.halfFrom n g := ⟨_, rfl⟩
  obtain ⟨b, hb⟩ : ∃ b, b = g % 2 := ⟨_, rfl⟩
  obtain ⟨m, hm⟩ : ∃ m, m = b * h := ⟨_, rfl⟩
  have hh2 : h ≤ 2047 := by rw [hh]; unfold Lg.halfN; omega
  have hf2 : f = 2 + m := by rw [hf, hm, hb, hh]; rfl
  have hm2 : m ≤ 2047 := by
    have hb2 : b = 0 ∨ b = 1 := by omega
    rcases hb2 with h0 | h0 <;> rw [hm, h0] <;> omega
  have e1 : ((n : Int) - 2) / 2 = (h : Int) := by rw [hh]; unfold Lg.halfN; omega
  have e1' : ((n : Int) - 2).tdiv 2 = (h : Int) := by rw [Int.tdiv_eq_ediv_of_nonneg (by omega)]; exact e1
  have e2 : (g : Int) % 2 = (b : Int) := by omega
  have e2' : (g : Int).tmod 2 = (b : Int) := by rw [Int.tmod_eq_emod_of_nonneg (by omega)]; exact e2
  have e3 : (b : Int) * (h : Int) = (m : Int) := by rw [hm]; push_cast; rfl
  have e4 : 2 + (m : Int) = (f : Int) := by omega
  rw [← hf, ← hh]
  clear hh hf hb hm hf2
  go_enter Tryz.func110, Tryz.ntmps110
  go_wp2
  go_ret2
  exact ⟨rfl, rfl⟩
set_option maxRecDepth 100000 in
theorem lcheck_any (A : Option Addr) (n c : Nat) (w : World) (hn : n < 140737488355000) :
    Calls Tryz.prog 98 #[.slice A n c] w fun e w' => e = .returned (.int .i64 (if n = 0 then 1 else if 65535 < n then 3 else 0)) ∧ w = w' := by
  by_cases h0 : n = 0
  · subst h0
    go_enter Tryz.func98, Tryz.ntmps98
    go_wp2
    go_ret
    exact ⟨rfl, rfl⟩
  · have q0 : ¬ (n : Int) = 0 := by omega
    by_cases h1 : 65535 < n
    · have q1 : (65535 : Int) < (n : Int) := by omega
      rw [if_neg h0, if_pos h1]
      go_enter Tryz.func98, Tryz.ntmps98
      go_wp2
      go_ret
      exact ⟨rfl, rfl⟩
    · have q1 : ¬ (65535 : Int) < (n : Int) := by omega
      rw [if_neg h0, if_neg h1]
      go_enter Tryz.func98, Tryz.ntmps98
      go_wp2
      go_ret
      exact ⟨rfl, rfl⟩
end
end Go.Proofs.YtepgmebklhemgaaGreatDoor
/- The contracts of slices.Grow and slices.Concat at bytes. -/
set_option linter.unusedVariables false
set_option linter.unusedSimpArgs false
namespace Go.Proofs.YtepgmebklhemgaaGreatDoor
open Go.RowKit Wd
/-- A slice of bytes among others. -/
structure Pc where
  A : Option Addr
  n : Nat
  c : Nat
  l : List UInt8
def Pc.v (p : Pc) : Value := .slice p.A p.n p.c
def Pc.ok (p : Pc) : Prop := p.n = p.l.length ∧ (p.A = none → p.c = 0) ∧ p.n ≤ p.c
def flat (ps : List Pc) : List UInt8 := ps.flatMap Pc.l
theorem flat_take (ps : List Pc) (k : Nat) (hk : k < ps.length) : flat (ps.take (k + 1)) = flat (ps.take k) ++ (ps[k]).l := by
  unfold flat
  rw [List.take_succ_eq_append_getElem hk, List.flatMap_append]
  simp only [List.flatMap_cons, List.flatMap_nil, List.append_nil]
theorem flat_take_le (ps : List Pc) (k : Nat) : (flat (ps.take k)).length ≤ (flat ps).length := by
  have h : flat ps = flat (ps.take k) ++ flat (ps.drop k) := by
    have := List.flatMap_append (f := Pc.l) (xs := ps.take k) (ys := ps.drop k)
    rw [List.take_append_drop] at this
    exact this
  rw [h, List.length_append]
  omega
/-- The cells at A read so wherever F and M hold. -/
def SrA (w0 : World) (M : Mem) (F : List Ent) (A : Option Addr) (cs : List Value) : Prop := ∀ w' M', M.le M' → St w0 w' M' F → RA w' A cs
section
variable {w0 w : World} {M : Mem} {L : List Ent}
theorem SrA.cons {A : Option Addr} {cs : List Value} (h : SrA w0 M L A cs) (e : Ent) : SrA w0 M (e :: L) A cs := fun w' M' hM H => h w' M' hM H.d0
theorem SrA.now {A : Option Addr} {cs : List Value} (h : SrA w0 M L A cs) (H : St w0 w M L) : RA w A cs := h w M (Mem.le.refl M) H
theorem SrA.row {e : TypeId} {sz n c : Nat} {A : Option Addr} {cs : List Value} (i : Nat) (hi : L[i]? = some (er e sz (.slice A n c) n cs)) : SrA w0 M L A cs := fun w' M' hM H => er_RA (H.get i hi)
theorem SrA.of_in {A : Option Addr} {cs : List Value} (h : In M (RA · A cs)) : SrA w0 M L A cs := fun w' M' hM H => (h.le hM).now H
theorem SrA.at {A : Option Addr} {cs : List Value} (h : RA w A cs) (k : Nat) (hk : k < cs.length) : ∃ b o, A = some ⟨b, o, none⟩ ∧ w.cell? ⟨b, o + k, none⟩ = some cs[k] := by
  obtain ⟨b, o, rfl, _, hr⟩ := h (by rintro rfl; simp at hk)
  exact ⟨b, o, rfl, hr k _ (List.getElem?_eq_getElem hk)⟩
set_option maxRecDepth 100000 in
theorem grow_nil (H : St w0 w M L) (n : Nat) (hn : n < 140737488355000) :
    Calls Tryz.prog 141 #[.slice none 0 0, .int .i64 (n : Int)] w fun e w' => ∃ v, e = .returned v ∧ St w0 w' M (er 5 1 v 0 [] :: L) := by
  obtain ⟨i0, hi, hz0, hz1, hz2⟩ := info_parts Tryz.info5
  by_cases h0 : n = 0
  · subst h0
    have H1 := H.addNil 5 1
    go_enter Tryz.func141, Tryz.ntmps141
    go_wp2
    go_ret
    exact ⟨_, rfl, H1⟩
  · have hr := fun ty => Lib.run_append_nil_zeros (P := Tryz.prog) w 30 3 ty 5 i0 (.int .u8 0) .i64 .i64 Tryz.underlying30 (by kernel_rfl) hi hz0 n (by omega) (by omega) (by omega) (by rw [hz2]; omega)
    have hG := grownCap_ge w n 0 5
    have hG2 := grownCap_le_maxLen w n 0 5 (by unfold maxLen; omega)
    obtain ⟨G, hGe⟩ : ∃ G, G = grownCap w n 0 5 := ⟨_, rfl⟩
    rw [← hGe] at hr hG hG2
    obtain ⟨Z, hZ⟩ : ∃ Z, Z = Builtin.zeroCells (Value.int .u8 0).cells n ++ Builtin.zeroCells (Value.int .u8 0).cells (G - n) := ⟨_, rfl⟩
    rw [← hZ] at hr
    have hZs : Z.size = G := by rw [hZ, Array.size_append, size_zeroCells, size_zeroCells]; simp [Value.cells]; omega
    have H2 : St w0 (w.drew.alloc (.cells Z 5)) M (er 5 1 (.slice (some ⟨w.heap.size, 0, none⟩) 0 G) 0 [] :: L) := by
      refine H.drew.addRow ((Below.refl _ _).alloc (Nat.le_refl _) _) ⟨by simp, .inr ⟨w.heap.size, G, Z, rfl, Nat.le_refl _, heap_alloc_new w.drew _, Nat.zero_le _, hG2, by rw [hZs, Nat.mul_one], by simp⟩⟩
    have HZ := Lib.hid hZ
    have HZS := Lib.hid hZs
    have HG := Lib.hid hGe
    have q1 : ¬ (n : Int) < 0 := by omega
    have q2 : (0 : Int) < (n : Int) := by omega
    have q3 : (G : Int) ≤ 9223372036854775807 := by unfold maxLen at hG2; omega
    clear hZ hZs hGe hi hz0 hz1 hz2 h0
    go_enter Tryz.func141, Tryz.ntmps141
    go_wp2_with (at_builtin; refine Lib.wpList_append_run _ rfl _ _ _ _ rfl _ _ rfl rfl _ _ (hr _) ?_)
    all_goals (go_ret; exact ⟨_, rfl, H2⟩)
set_option maxRecDepth 100000 in
theorem concat_any (H : St w0 w M L) {A : Option Addr} {c m : Nat} {ps : List Pc} (hm : m = ps.length) (hs : SrA w0 M L A (ps.map Pc.v)) (hp : ∀ p ∈ ps, p.ok ∧ Sr w0 M L p.A p.l) (hn : (flat ps).length < 140737488355000) (hlen : m ≤ 1000) :
    Calls Tryz.prog 121 #[.slice A m c] w fun e w' => ∃ v, e = .returned v ∧ St w0 w' M (er 5 1 v (flat ps).length (bv (flat ps)) :: L) := by
  have HM := Lib.hid hm
  clear hm
  go_enter Tryz.func121, Tryz.ntmps121
  go_wp2
  go_loopw [3, 11] (fun x i wr => ∃ k : Nat, k ≤ m ∧ i = .int .i64 k ∧ x = .int .i64 ((flat (ps.take k)).length : Int) ∧ wr = w) (fun _ i _ => m - (intOf i).toNat)
  case atStart => exact ⟨0, by omega, rfl, rfl, rfl⟩
  case round =>
    obtain ⟨k, hk, rfl, rfl, rfl⟩ := hrel
    by_cases hlt : k < m
    · have hlt' : k < ps.length := by have := HM.out; omega
      obtain ⟨b, o, rfl, hc⟩ := SrA.at (hs.now H) k (by rw [List.length_map]; exact hlt')
      have ht := flat_take ps k hlt'
      have hl := flat_take_le ps (k + 1)
      have hok := (hp ps[k] (List.getElem_mem hlt')).1
      rw [List.getElem_map] at hc
      obtain ⟨p, hpe⟩ : ∃ p, p = ps[k] := ⟨_, rfl⟩
      rw [← hpe] at hc ht hok
      change wr.cell? _ = some (.slice p.A p.n p.c) at hc
      have h1 : (flat (ps.take (k + 1))).length = (flat (ps.take k)).length + p.n := by rw [ht, List.length_append, hok.1]
      rw [h1] at hl
      obtain ⟨T, hT⟩ : ∃ T, T = (flat (ps.take k)).length := ⟨_, rfl⟩
      rw [← hT] at h1 hl ⊢
      obtain ⟨N, hN⟩ : ∃ N, N = p.n := ⟨_, rfl⟩
      obtain ⟨B, hB⟩ : ∃ B, B = p.A := ⟨_, rfl⟩
      obtain ⟨C, hC⟩ : ∃ C, C = p.c := ⟨_, rfl⟩
      rw [← hN] at h1 hl hc
      rw [← hB, ← hC] at hc
      have q1 : (T : Int) + (N : Int) < 140737488355000 := by omega
      have q2 : (k : Int) < (m : Int) := by omega
      have q3 : ¬ (T : Int) + (N : Int) < 0 := by omega
      have H1 := Lib.hid h1
      have HLT := Lib.hid hlt
      clear h1 hN hB hC hT hpe hok ht hl hlt hlt' hk
      go_wp2
      exact ⟨⟨k + 1, by have := HLT.out; omega, by go_num, by rw [H1.out]; go_num, trivial⟩, by have := HLT.out; simp [intOf]; omega⟩
    · obtain rfl : k = m := by omega
      have e0 : ps.take k = ps := by rw [HM.out, List.take_length]
      rw [e0]
      obtain ⟨T, hT⟩ : ∃ T, T = (flat ps).length := ⟨_, rfl⟩
      rw [← hT]
      have HT := Lib.hid hT
      have HE := Lib.hid e0
      clear hT e0 hlt hk
      go_wp2_with fail
      refine (grow_nil H T (by rw [HT.out]; exact hn)).mono ?_
      rintro e w1 ⟨v, rfl, H1⟩
      go_wp2
      go_loopw [6, 27] (fun x i wr2 => ∃ j : Nat, j ≤ k ∧ i = .int .i64 j ∧ St w0 wr2 M (er 5 1 x (flat (ps.take j)).length (bv (flat (ps.take j))) :: L)) (fun _ i _ => k - (intOf i).toNat)
      case atStart => exact ⟨0, by omega, rfl, H1⟩
      case round =>
        obtain ⟨j, hj, rfl, H2⟩ := hrel
        clear H1
        by_cases hlt : j < k
        · have hlt' : j < ps.length := by have := HM.out; omega
          obtain ⟨b, o, rfl, hc⟩ := SrA.at (hs.now H2.d0) j (by rw [List.length_map]; exact hlt')
          have ht := flat_take ps j hlt'
          have hl := flat_take_le ps (j + 1)
          have hok := hp ps[j] (List.getElem_mem hlt')
          rw [List.getElem_map] at hc
          obtain ⟨p, hpe⟩ : ∃ p, p = ps[j] := ⟨_, rfl⟩
          rw [← hpe] at hc ht hok
          change World.cell? _ _ = some (Value.slice p.A p.n p.c) at hc
          obtain ⟨⟨o1, o2, o3⟩, o4⟩ := hok
          have h1 : (flat (ps.take (j + 1))).length = (flat (ps.take j)).length + p.n := by rw [ht, List.length_append, o1]
          rw [h1] at hl
          have r1 := (o4.cons _).now H2
          obtain ⟨T2, hT2⟩ : ∃ T, T = (flat (ps.take j)).length := ⟨_, rfl⟩
          rw [← hT2] at h1 hl H2
          obtain ⟨N, hN⟩ : ∃ N, N = p.n := ⟨_, rfl⟩
          obtain ⟨B, hB⟩ : ∃ B, B = p.A := ⟨_, rfl⟩
          obtain ⟨C, hC⟩ : ∃ C, C = p.c := ⟨_, rfl⟩
          obtain ⟨D, hD⟩ : ∃ D, D = p.l := ⟨_, rfl⟩
          rw [← hN] at h1 hl hc o1 o3
          rw [← hB, ← hC] at hc
          rw [← hB, ← hD] at r1
          rw [← hB, ← hC] at o2
          rw [← hD] at ht o1
          have O1 := Lib.hid o1
          have O2 := Lib.hid o2
          have HH1 := Lib.hid h1
          have HTT := Lib.hid ht
          have HLT := Lib.hid hlt
          have HL := Lib.hid hl
          have HN := Lib.hid hn
          have H3 := Lib.hid H2
          clear h1 hN hB hC hD hT2 hpe o1 o2 o4 ht hl hlt hlt' H2 hn o3
          go_wp2_with (at_builtin; refine wpList_append_st H3.out (by rfl) (.tmp 31) (.tmp 32) 30 (by rfl) Tryz.info5 Tryz.underlying30 (by rfl) B N C D (by rfl) O1.out O2.out r1 (by have := HL.out; have := HN.out; omega) ?_)
          intro v' w' H4
          go_wp2
          exact ⟨⟨j + 1, by have := HLT.out; omega, by go_num, by rw [HH1.out, HTT.out, bv_append]; exact H4⟩, by have := HLT.out; simp [intOf]; omega⟩
        · obtain rfl : j = k := by omega
          rw [HE.out] at H2
          go_wp2
          go_ret
          exact ⟨_, rfl, H2⟩
end
end Go.Proofs.YtepgmebklhemgaaGreatDoor
/- The contracts of log's head and record. -/
set_option linter.unusedVariables false
set_option linter.unusedSimpArgs false
namespace Go.Proofs.YtepgmebklhemgaaGreatDoor
open Go.RowKit Wd
theorem Lg.wrap64 (n : Nat) (h : n < 18446744073709551616) : IntKind.u64.wrap (n : Int) = (n : Int) := by
  rw [IntKind.wrap_u64]
  exact Int.emod_eq_of_lt (Int.natCast_nonneg _) (Int.ofNat_lt.2 h)
section
variable {w0 w : World} {M : Mem} {L : List Ent}
set_option maxRecDepth 100000 in
theorem head_any (H : St w0 w M L) (g : Nat) (hg : g < 18446744073709551616) :
    Calls Tryz.prog 101 #[.int .u64 (g : Int)] w fun e w' => ∃ v, e = .returned v ∧ St w0 w' M (er 5 1 v 64 (bv (Lg.head g)) :: L) := by
  obtain ⟨a, ha⟩ : ∃ a, a = Lg.be g 8 := ⟨_, rfl⟩
  have hal : a.length = 8 := by rw [ha, Lg.be_len]
  obtain ⟨s, hs⟩ : ∃ s, s = Lg.crc a := ⟨_, rfl⟩
  have hsl : s < 4294967296 := by rw [hs]; exact Lg.crc_lt a
  have hsw := Lg.wrap64 s (by omega)
  have HS := Lib.hid hs
  have HA := Lib.hid ha
  have HAL := Lib.hid hal
  clear hs ha hal
  go_enter Tryz.func101, Tryz.ntmps101
  go_wp2_with fail
  refine (number_any H g 8 hg (by omega)).mono ?_
  rintro e w1 ⟨v1, rfl, H1⟩
  obtain ⟨A1, c1, rfl, hc1, hA1⟩ := H1.shape' 0 rfl
  rw [← HA.out] at H1
  have r1 : RB w1 A1 a := er_RB (H1.get 0 rfl)
  have q1 := sum_any (c := c1) r1 (by rw [HAL.out]; omega)
  rw [HAL.out, ← HS.out] at q1
  have Q1 := Lib.hid q1
  clear q1
  go_wp2_with fail
  refine Q1.out.mono ?_
  rintro e w2 ⟨rfl, rfl⟩
  go_wp2_with fail
  refine (number_any H1 s 4 (by omega) (by omega)).mono ?_
  rintro e w2 ⟨v2, rfl, H2⟩
  obtain ⟨A2, c2, rfl, hc2, hA2⟩ := H2.shape' 0 rfl
  have r2 : RB w2 A2 (Lg.be s 4) := er_RB (H2.get 0 rfl)
  clear H1 r1 Q1
  go_wp2_with (at_builtin; refine wpList_append_st H2.f1 (by rfl) (.tmp 6) (.tmp 10) 30 (by rfl) Tryz.info5 Tryz.underlying30 (by rfl) A2 4 c2 (Lg.be s 4) (by rfl) (by rw [Lg.be_len]) hA2 r2 (by omega) ?_)
  intro v3 w3 H3
  obtain ⟨A3, c3, rfl, hc3, hA3⟩ := H3.shape' 0 rfl
  have e1 : 64 - ((8 + 4 : Nat) : Int) = ((52 : Nat) : Int) := by omega
  rw [← bv_append] at H3
  clear H2 r2
  go_wp2_with (at_builtin; refine wpList_append_zeros_st H3 (by rfl) (.tmp 12) (.tmp 15) 30 3 9 .i64 .i64 (by rfl) Tryz.info5 Tryz.underlying30 (by kernel_rfl) (by kernel_rfl) (by rfl) 52 (by rfl) (by omega) ?_)
  intro v4 w4 H4
  rw [← bv_append, HS.out, HA.out] at H4
  go_wp2
  go_ret
  exact ⟨_, rfl, H4.d1⟩
set_option maxRecDepth 100000 in
theorem record_any (H : St w0 w M L) (g at_ : Nat) (hg : g < 18446744073709551616) (hat : at_ < 4294967296) {B : Option Addr} {n d : Nat} {b : List UInt8} (hn : n = b.length) (hB : B = none → d = 0) (hd : n ≤ d) (hb : Sr w0 M L B b) (hbn : n < 4294967296) :
    Calls Tryz.prog 99 #[.int .u64 (g : Int), .int .i64 (at_ : Int), .slice B n d] w fun e w' => ∃ v, e = .returned v ∧ St w0 w' M (er 5 1 v (n + 6) (bv (Lg.record g at_ b)) :: L) := by
  obtain ⟨a, ha⟩ : ∃ a, a = Lg.be n 2 := ⟨_, rfl⟩
  have hal : a.length = 2 := by rw [ha, Lg.be_len]
  obtain ⟨T, hT⟩ : ∃ T, T = Lg.be g 8 ++ (Lg.be at_ 4 ++ (a ++ (b ++ []))) := ⟨_, rfl⟩
  have hTl : T.length = n + 14 := by rw [hT]; simp [Lg.be_len, hal, hn]; omega
  obtain ⟨s, hs⟩ : ∃ s, s = Lg.crc T := ⟨_, rfl⟩
  have hsl : s < 4294967296 := by rw [hs]; exact Lg.crc_lt T
  obtain ⟨R, hR⟩ : ∃ R, R = a ++ (Lg.be s 4 ++ (b ++ [])) := ⟨_, rfl⟩
  have hRl : R.length = n + 6 := by rw [hR]; simp [Lg.be_len, hal, hn]; omega
  have hRe : R = Lg.record g at_ b := by rw [hR, hs, hT, ha, hn]; simp [Lg.record]
  have hsw := Lg.wrap64 s (by omega)
  have hnw := Lg.wrap64 n (by omega)
  have haw := Lg.wrap64 at_ (by omega)
  rw [← hRe]
  have HR := Lib.hid hR
  have HRL := Lib.hid hRl
  have HS := Lib.hid hs
  have HT := Lib.hid hT
  have HTL := Lib.hid hTl
  have HA := Lib.hid ha
  have HAL := Lib.hid hal
  have HN := Lib.hid hn
  clear hR hRl hRe hs hT hTl ha hal hn
  go_enter Tryz.func99, Tryz.ntmps99
  go_wp2_with fail
  refine (number_any H n 2 (by omega) (by omega)).mono ?_
  rintro e w1 ⟨v1, rfl, H1⟩
  obtain ⟨A1, c1, rfl, hc1, hA1⟩ := H1.shape' 0 rfl
  rw [← HA.out] at H1
  go_wp2_with fail
  refine (number_any H1 g 8 hg (by omega)).mono ?_
  rintro e w2 ⟨v2, rfl, H2⟩
  obtain ⟨A2, c2, rfl, hc2, hA2⟩ := H2.shape' 0 rfl
  go_wp2_with fail
  refine (number_any H2 at_ 4 (by omega) (by omega)).mono ?_
  rintro e w3 ⟨v3, rfl, H3⟩
  obtain ⟨A3, c3, rfl, hc3, hA3⟩ := H3.shape' 0 rfl
  have H4 := H3.lit [.slice A2 8 c2, .slice A3 4 c3, .slice A1 2 c1, .slice B n d] 30 (by simp [maxLen])
  clear H1 H2 H3
  go_wp2_with fail
  refine (concat_any (ps := [⟨A2, 8, c2, Lg.be g 8⟩, ⟨A3, 4, c3, Lg.be at_ 4⟩, ⟨A1, 2, c1, a⟩, ⟨B, n, d, b⟩]) H4 rfl (SrA.row 0 rfl) ?_ ?_ (by simp)).mono ?_
  · intro p hp
    simp only [List.mem_cons, List.not_mem_nil, or_false] at hp
    rcases hp with rfl | rfl | rfl | rfl
    · exact ⟨⟨(Lg.be_len _ _).symm, hA2, hc2⟩, Sr.row 2 rfl⟩
    · exact ⟨⟨(Lg.be_len _ _).symm, hA3, hc3⟩, Sr.row 1 rfl⟩
    · exact ⟨⟨HAL.out.symm, hA1, hc1⟩, Sr.row 3 rfl⟩
    · exact ⟨⟨HN.out, hB, hd⟩, (((hb.cons _).cons _).cons _).cons _⟩
  · show (Lg.be g 8 ++ (Lg.be at_ 4 ++ (a ++ (b ++ [])))).length < _
    rw [← HT.out, HTL.out]
    omega
  rintro e w5 ⟨v5, rfl, H5⟩
  change St w0 w5 M (er 5 1 v5 (Lg.be g 8 ++ (Lg.be at_ 4 ++ (a ++ (b ++ [])))).length (bv (Lg.be g 8 ++ (Lg.be at_ 4 ++ (a ++ (b ++ []))))) :: _) at H5
  rw [← HT.out, HTL.out] at H5
  obtain ⟨A5, c5, rfl, hc5, hA5⟩ := H5.shape' 0 rfl
  have r5 : RB w5 A5 T := er_RB (H5.get 0 rfl)
  have q5 := sum_any (c := c5) r5 (by rw [HTL.out]; omega)
  rw [HTL.out, ← HS.out] at q5
  have Q5 := Lib.hid q5
  clear q5 H4
  go_wp2_with fail
  refine Q5.out.mono ?_
  rintro e w6 ⟨rfl, rfl⟩
  have H6 := H5.sub (L' := er 5 1 (.slice A1 2 c1) 2 (bv a) :: L) (by repeat (first | exact List.Sublist.refl _ | exact List.Sublist.cons _ (List.Sublist.refl _) | apply List.Sublist.cons))
  clear H5 r5 Q5
  go_wp2_with fail
  refine (number_any H6 s 4 (by omega) (by omega)).mono ?_
  rintro e w7 ⟨v7, rfl, H7⟩
  obtain ⟨A7, c7, rfl, hc7, hA7⟩ := H7.shape' 0 rfl
  have H8 := H7.lit [.slice A1 2 c1, .slice A7 4 c7, .slice B n d] 30 (by simp [maxLen])
  clear H6 H7
  go_wp2_with fail
  refine (concat_any (ps := [⟨A1, 2, c1, a⟩, ⟨A7, 4, c7, Lg.be s 4⟩, ⟨B, n, d, b⟩]) H8 rfl (SrA.row 0 rfl) ?_ ?_ (by simp)).mono ?_
  · intro p hp
    simp only [List.mem_cons, List.not_mem_nil, or_false] at hp
    rcases hp with rfl | rfl | rfl
    · exact ⟨⟨HAL.out.symm, hA1, hc1⟩, Sr.row 2 rfl⟩
    · exact ⟨⟨(Lg.be_len _ _).symm, hA7, hc7⟩, Sr.row 1 rfl⟩
    · exact ⟨⟨HN.out, hB, hd⟩, ((hb.cons _).cons _).cons _⟩
  · show (a ++ (Lg.be s 4 ++ (b ++ []))).length < _
    rw [← HR.out, HRL.out]
    omega
  rintro e w9 ⟨v9, rfl, H9⟩
  change St w0 w9 M (er 5 1 v9 (a ++ (Lg.be s 4 ++ (b ++ []))).length (bv (a ++ (Lg.be s 4 ++ (b ++ [])))) :: _) at H9
  rw [← HR.out, HRL.out] at H9
  go_wp2
  go_ret
  exact ⟨_, rfl, H9.d1.d1.d1⟩
end
end Go.Proofs.YtepgmebklhemgaaGreatDoor
/- The contract of slices.Clone at bytes. -/
set_option linter.unusedVariables false
set_option linter.unusedSimpArgs false
namespace Go.Proofs.YtepgmebklhemgaaGreatDoor
open Go.RowKit Wd
section
variable {w0 w : World} {M : Mem} {L : List Ent}
set_option maxRecDepth 100000 in
theorem clone_any (H : St w0 w M L) {A : Option Addr} {c : Nat} {l : List UInt8} (hA : A = none → c = 0) (hc : l.length ≤ c) (hl : Sr w0 M L A l) (hn : l.length < 140737488355000) :
    Calls Tryz.prog 73 #[.slice A l.length c] w fun e w' => ∃ v, e = .returned v ∧ St w0 w' M (er 5 1 v l.length (bv l) :: L) := by
  have hq := fun (a : Option Addr) (n c : Nat) (w : World) => run_eql_slice_nil (P := Tryz.prog) w 30 5 a n c Tryz.underlying30
  cases A with
  | none =>
    obtain rfl := hA rfl
    obtain rfl : l = [] := List.eq_nil_of_length_eq_zero (by omega)
    have H1 := H.addNil 5 1
    go_enter Tryz.func73, Tryz.ntmps73
    go_wp2
    go_ret
    exact ⟨_, rfl, H1⟩
  | some ad =>
    have H1 := H.lit0 5
    have r1 := (hl.cons (er 5 1 (.slice (some ⟨w.heap.size, 0, none⟩) 0 0) 0 [])).now H1
    go_enter Tryz.func73, Tryz.ntmps73
    go_wp2_with (at_builtin; refine wpList_append_st H1 (by rfl) (.tmp 5) (.tmp 6) 30 (by rfl) Tryz.info5 Tryz.underlying30 (by rfl) (some ad) l.length c l (by rfl) rfl hA r1 (by omega) ?_)
    intro v1 w1 H2
    try simp only [Nat.zero_add, List.nil_append] at H2
    go_wp2
    go_ret
    exact ⟨_, rfl, H2⟩
end
end Go.Proofs.YtepgmebklhemgaaGreatDoor
