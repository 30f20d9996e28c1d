/- The reference's put, number, Head, Record (layer 18). -/
import Derived.Test.YtnaocjhhnlndmaaGe
import Derived.Test.YtnaocjhhnlndmaaPt
set_option linter.unusedVariables false
set_option linter.unusedSimpArgs false
namespace Go.Proofs.Ytnaocjhhnlndmaa
open Go.RowKit Wd
section
variable {w0 w : World} {M : Mem} {L : List Ent}
set_option maxRecDepth 100000 in
theorem rput_any {v : Value} {m : Nat} {l : List UInt8} (H : St w0 w M (er 5 1 v m (bv l) :: L)) (n k : Nat) (hn : n < 18446744073709551616) (hk : k ≤ 8) (hm : m ≤ 10000000000) :
    Calls Try.prog 42 #[v, .int .u64 (n : Int), .int .i64 (k : Int)] w fun e w' => ∃ v', e = .returned v' ∧ St w0 w' M (er 5 1 v' (m + k) (bv (l ++ Lg.be n k)) :: L) := by
  have q0 : (k : Int) ≤ 8 := by omega
  go_enter Try.func42, Try.ntmps42
  go_wp2
  go_loopw [0, 7] (fun v i wr => ∃ j : Nat, j ≤ k ∧ i = .int .i64 ((k : Int) - 1 - (j : Int)) ∧ St w0 wr M (er 5 1 v (m + j) (bv (l ++ (Lg.be n k).take j)) :: L)) (fun _ i _ => (intOf i + 1).toNat)
  case atStart => exact ⟨0, by omega, by go_num, by simpa using H⟩
  case round =>
    obtain ⟨j, hj, rfl, H1⟩ := hrel
    clear H
    by_cases hlt : j < k
    · obtain ⟨i, hi⟩ : ∃ i : Nat, i = k - 1 - j := ⟨_, rfl⟩
      have hi2 : (k : Int) - 1 - (j : Int) = (i : Int) := by omega
      have ht := Lg.be_take n k j hlt
      rw [← hi] at ht
      rw [hi2]
      obtain ⟨p, hp⟩ : ∃ p : Nat, p = 8 * i := ⟨_, rfl⟩
      have e1 : 8 * (i : Int) = (p : Int) := by omega
      obtain ⟨s, hs⟩ : ∃ s : Nat, s = 2 ^ p := ⟨_, rfl⟩
      have e2 : (2 : Int) ^ p = (s : Int) := by rw [hs]; push_cast; rfl
      obtain ⟨q, hq⟩ : ∃ q : Nat, q = n / s := ⟨_, rfl⟩
      have e3 : (n : Int) / (s : Int) = (q : Int) := by rw [hq]; push_cast; rfl
      obtain ⟨b, hb⟩ : ∃ b : UInt8, b = UInt8.ofNat q := ⟨_, rfl⟩
      have e4 : (q : Int) % 256 = (b.toNat : Int) := by rw [hb]; simp
      rw [← hp, ← hs, ← hq, ← hb] at ht
      have HT := Lib.hid ht
      have HI := Lib.hid hi2
      have hi3 : (i : Int) ≤ 7 := by omega
      have hm3 : p < 64 := by omega
      have HLT := Lib.hid hlt
      have H2 := Lib.hid H1
      clear ht hi2 hs hq hb hp hi hlt H1
      go_wp2_with (at_builtin; refine wpList_append1_st H2.out (by rfl) (.tmp 14) (.tmp 21) 22 (by rfl) Try.info5 (by rfl) Try.underlying22 (by rfl) (by rfl) (by rfl) (by have := HLT.out; omega) (by have := HLT.out; omega) ?_)
      intro v' w' H3
      go_wp2
      refine ⟨⟨j + 1, by have := HLT.out; omega, congrArg (Value.int .i64) (by have := HI.out; omega), by rw [HT.out, ← List.append_assoc, bv_append]; exact H3⟩, by simp [intOf]⟩
    · obtain rfl : j = k := by omega
      rw [List.take_of_length_le (by rw [Lg.be_len]; exact Nat.le_refl _)] at H1
      go_wp2
      go_ret
      exact ⟨_, rfl, H1⟩
set_option maxRecDepth 100000 in
theorem rnumber_any {w : World} {A : Option Addr} {c : Nat} {l : List UInt8} (hl : RB w A l) (hn : l.length ≤ 8) :
    Calls Try.prog 29 #[.slice A l.length c] w fun e w' => e = .returned (.int .u64 (Lg.num l : Int)) ∧ w = w' := by
  go_enter Try.func29, Try.ntmps29
  go_wp2
  go_loopw [3, 4] (fun x i wr => ∃ k : Nat, k ≤ l.length ∧ i = .int .i64 k ∧ x = .int .u64 (Lg.num (l.take k) : Int) ∧ wr = w) (fun _ i _ => l.length - (intOf i).toNat)
  case atStart => exact ⟨0, by omega, rfl, rfl, rfl⟩
  case round =>
    obtain ⟨k, hk, rfl, rfl, rfl⟩ := hrel
    by_cases hlt : k < l.length
    · obtain ⟨b, o, rfl, hc⟩ := hl.at k hlt
      have hr := Lg.num_take l k hlt
      have hlim := Lg.num_lt (l.take (k + 1))
      have hpow : 256 ^ (l.take (k + 1)).length ≤ 256 ^ 8 := Nat.pow_le_pow_right (by decide) (by rw [List.length_take]; omega)
      rw [hr] at hlim
      obtain ⟨Y, hY⟩ : ∃ Y, Y = Lg.num (l.take k) := ⟨_, rfl⟩
      obtain ⟨v, hv⟩ : ∃ v, v = l[k] := ⟨_, rfl⟩
      rw [← hY, ← hv] at hr hlim
      rw [← hv] at hc
      rw [← hY]
      have hlim2 := Nat.lt_of_lt_of_le hlim hpow
      obtain ⟨m, e1, e3, _⟩ := Lg.val_run Y v hlim2
      have hmy : m = Y * 256 := by
        have h1 : Y * 256 < 18446744073709551616 := Nat.lt_of_le_of_lt (Nat.le_add_right _ _) hlim2
        have h2 := Lg.wrap64 (Y * 256) h1
        push_cast at h2
        rw [h2] at e1
        omega
      obtain ⟨T, hT⟩ : ∃ T, T = Y * 256 + v.toNat := ⟨_, rfl⟩
      have e4 : IntKind.u64.wrap ((m : Int) + (v.toNat : Int)) = (T : Int) := by
        have h2 := Lg.wrap64 (Y * 256 + v.toNat) hlim2
        rw [hmy, hT]
        push_cast at h2 ⊢
        exact h2
      rw [← hT] at hr
      have HR := Lib.hid hr
      have HLT := Lib.hid hlt
      have q1 : (k : Int) < (l.length : Int) := by omega
      clear hr hY hv hT hlt hlim hpow hlim2 hmy
      go_wp2
      refine ⟨⟨k + 1, by have := HLT.out; omega, by go_num, by rw [HR.out], trivial⟩, by have := HLT.out; simp [intOf]; omega⟩
    · obtain rfl : k = l.length := by omega
      rw [List.take_length]
      go_wp2
      go_ret
      exact ⟨rfl, rfl⟩
end
end Go.Proofs.Ytnaocjhhnlndmaa
