/- The contracts of log's small functions: number, value, half, check. -/
import Derived.Test.YtpomjaidaignpaaGb
set_option linter.unusedVariables false
set_option linter.unusedSimpArgs false
namespace Go.Proofs.Ytpomjaidaignpaa
open Go.RowKit Wd
theorem Lg.be_get (n k j : Nat) (h : j < k) : (Lg.be n k)[j]? = some (UInt8.ofNat (n / 2 ^ (8 * (k - 1 - j)))) := by
  unfold Lg.be
  rw [List.getElem?_map, List.getElem?_range h]
  rfl
theorem Lg.be_take (n k j : Nat) (h : j < k) : (Lg.be n k).take (j + 1) = (Lg.be n k).take j ++ [UInt8.ofNat (n / 2 ^ (8 * (k - 1 - j)))] := by
  have hl : j < (Lg.be n k).length := by rw [Lg.be_len]; exact h
  rw [List.take_succ_eq_append_getElem hl]
  congr 2
  have h1 := Lg.be_get n k j h
  rw [List.getElem?_eq_getElem hl] at h1
  injection h1
set_option maxRecDepth 100000 in
theorem Lg.val_run (x : Nat) (c : UInt8) (h : x * 256 + c.toNat < 18446744073709551616) : ∃ m : Nat, IntKind.u64.wrap ((x : Int) * 256) = (m : Int) ∧ IntKind.u64.wrap (c.toNat : Int) = (c.toNat : Int) ∧ bits .or .u64 (m : Int) (c.toNat : Int) = ((x * 256 + c.toNat : Nat) : Int) := by
  have hc := c.toNat_lt
  have hx : x * 256 < 18446744073709551616 := by omega
  have w1 : IntKind.u64.wrap ((x : Int) * 256) = ((x * 256 : Nat) : Int) := by
    have e : ((x * 256 : Nat) : Int) % 18446744073709551616 = ((x * 256 : Nat) : Int) := Int.emod_eq_of_lt (Int.natCast_nonneg _) (Int.ofNat_lt.2 hx)
    rw [IntKind.wrap_u64]
    exact e
  have w2 : IntKind.u64.wrap (c.toNat : Int) = (c.toNat : Int) := by
    rw [IntKind.wrap_u64]
    exact Int.emod_eq_of_lt (by omega) (by omega)
  refine ⟨x * 256, w1, w2, ?_⟩
  have hc2 : c.toNat < 18446744073709551616 := by omega
  rw [u64_or_nat _ _ hx hc2]
  have h1 := Nat.two_pow_add_eq_or_of_lt (i := 8) (b := c.toNat) (by omega) x
  have h2 : 2 ^ 8 * x = x * 256 := by omega
  rw [h2] at h1
  rw [← h1]
section
variable {w0 w : World} {M : Mem} {L : List Ent}
set_option maxRecDepth 100000 in
theorem number_any (H : St w0 w M L) (n k : Nat) (hn : n < 18446744073709551616) (hk : k ≤ 8) :
    Calls Try.prog 64 #[.int .u64 (n : Int), .int .i64 (k : Int)] w fun e w' => ∃ v, e = .returned v ∧ St w0 w' M (er 5 1 v k (bv (Lg.be n k)) :: L) := by
  have H0 := H.addNil 5 1
  have q0 : (k : Int) ≤ 8 := by omega
  go_enter Try.func64, Try.ntmps64
  go_wp2
  go_loopw [5, 6] (fun v i wr => ∃ j : Nat, j ≤ k ∧ i = .int .i64 ((k : Int) - 1 - (j : Int)) ∧ St w0 wr M (er 5 1 v j (bv ((Lg.be n k).take j)) :: L)) (fun _ i _ => (intOf i + 1).toNat)
  case atStart => exact ⟨0, by omega, by go_num, H0⟩
  case round =>
    obtain ⟨j, hj, rfl, H1⟩ := hrel
    clear H0 H
    by_cases hlt : j < k
    · obtain ⟨i, hi⟩ : ∃ i : Nat, i = k - 1 - j := ⟨_, rfl⟩
      have hi2 : (k : Int) - 1 - (j : Int) = (i : Int) := by omega
      have ht := Lg.be_take n k j hlt
      rw [← hi] at ht
      rw [hi2]
      obtain ⟨m, hm⟩ : ∃ m : Nat, m = 8 * i := ⟨_, rfl⟩
      have e1 : 8 * (i : Int) = (m : Int) := by omega
      obtain ⟨s, hs⟩ : ∃ s : Nat, s = 2 ^ m := ⟨_, rfl⟩
      have e2 : (2 : Int) ^ m = (s : Int) := by rw [hs]; push_cast; rfl
      obtain ⟨q, hq⟩ : ∃ q : Nat, q = n / s := ⟨_, rfl⟩
      have e3 : (n : Int) / (s : Int) = (q : Int) := by rw [hq]; push_cast; rfl
      obtain ⟨b, hb⟩ : ∃ b : UInt8, b = UInt8.ofNat q := ⟨_, rfl⟩
      have e4 : (q : Int) % 256 = (b.toNat : Int) := by rw [hb]; simp
      rw [← hm, ← hs, ← hq, ← hb] at ht
      have HT := Lib.hid ht
      have HI := Lib.hid hi2
      have hi3 : (i : Int) ≤ 7 := by omega
      have hm3 : m < 64 := by omega
      have HLT := Lib.hid hlt
      have H2 := Lib.hid H1
      clear ht hi2 hs hq hb hm hi hlt H1
      go_wp2_with (at_builtin; refine wpList_append1_st H2.out (by rfl) (.tmp 13) (.tmp 19) 25 (by rfl) Try.info5 (by rfl) Try.underlying25 (by rfl) (by rfl) (by rfl) (by have := HLT.out; omega) (by have := HLT.out; omega) ?_)
      intro v' w' H3
      go_wp2
      refine ⟨⟨j + 1, by have := HLT.out; omega, congrArg (Value.int .i64) (by have := HI.out; omega), by rw [HT.out, bv_append]; exact H3⟩, by simp [intOf]⟩
    · obtain rfl : j = k := by omega
      rw [List.take_of_length_le (by rw [Lg.be_len]; exact Nat.le_refl _)] at H1
      go_wp2
      go_ret
      exact ⟨_, rfl, H1⟩
set_option maxRecDepth 100000 in
theorem value_any {w : World} {A : Option Addr} {c : Nat} {l : List UInt8} (hl : RB w A l) (hn : l.length ≤ 8) :
    Calls Try.prog 82 #[.slice A l.length c] w fun e w' => e = .returned (.int .u64 (Lg.num l : Int)) ∧ w = w' := by
  go_enter Try.func82, Try.ntmps82
  go_wp2
  go_loopw [3, 8] (fun x i wr => ∃ k : Nat, k ≤ l.length ∧ i = .int .i64 k ∧ x = .int .u64 (Lg.num (l.take k) : Int) ∧ wr = w) (fun _ i _ => l.length - (intOf i).toNat)
  case atStart => exact ⟨0, by omega, rfl, rfl, rfl⟩
  case round =>
    obtain ⟨k, hk, rfl, rfl, rfl⟩ := hrel
    by_cases hlt : k < l.length
    · obtain ⟨b, o, rfl, hc⟩ := hl.at k hlt
      have hr := Lg.num_take l k hlt
      have hlim := Lg.num_lt (l.take (k + 1))
      have hpow : 256 ^ (l.take (k + 1)).length ≤ 256 ^ 8 := Nat.pow_le_pow_right (by decide) (by rw [List.length_take]; omega)
      rw [hr] at hlim
      obtain ⟨Y, hY⟩ : ∃ Y, Y = Lg.num (l.take k) := ⟨_, rfl⟩
      obtain ⟨v, hv⟩ : ∃ v, v = l[k] := ⟨_, rfl⟩
      rw [← hY, ← hv] at hr hlim
      rw [← hv] at hc
      rw [← hY]
      obtain ⟨m, e1, e3, e2⟩ := Lg.val_run Y v (Nat.lt_of_lt_of_le hlim hpow)
      obtain ⟨T, hT⟩ : ∃ T, T = Y * 256 + v.toNat := ⟨_, rfl⟩
      rw [← hT] at hr e2
      have HR := Lib.hid hr
      have HLT := Lib.hid hlt
      have q1 : (k : Int) < (l.length : Int) := by omega
      clear hr hY hv hT hlt hlim hpow
      go_wp2
      refine ⟨⟨k + 1, by have := HLT.out; omega, by go_num, by rw [HR.out], trivial⟩, by have := HLT.out; simp [intOf]; omega⟩
    · obtain rfl : k = l.length := by omega
      rw [List.take_length]
      go_wp2
      go_ret
      exact ⟨rfl, rfl⟩
set_option maxRecDepth 100000 in
theorem half_any (n g : Nat) (h1 : 2 ≤ n) (h2 : n ≤ 4096) (hg : g < 18446744073709551616) (w : World) :
    Calls Try.prog 62 #[.int .i64 (n : Int), .int .u64 (g : Int)] w fun e w' => e = .returned (.tuple #[.int .i64 (Lg.halfFrom n g : Int), .int .i64 (Lg.halfN n : Int)]) ∧ w = w' := by
  obtain ⟨h, hh⟩ : ∃ h, h = Lg.halfN n := ⟨_, rfl⟩
  obtain ⟨f, hf⟩ : ∃ f, f = Lg.halfFrom n g := ⟨_, rfl⟩
  obtain ⟨b, hb⟩ : ∃ b, b = g % 2 := ⟨_, rfl⟩
  obtain ⟨m, hm⟩ : ∃ m, m = b * h := ⟨_, rfl⟩
  have hh2 : h ≤ 2047 := by rw [hh]; unfold Lg.halfN; omega
  have hf2 : f = 2 + m := by rw [hf, hm, hb, hh]; rfl
  have hm2 : m ≤ 2047 := by
    have hb2 : b = 0 ∨ b = 1 := by omega
    rcases hb2 with h0 | h0 <;> rw [hm, h0] <;> omega
  have e1 : ((n : Int) - 2) / 2 = (h : Int) := by rw [hh]; unfold Lg.halfN; omega
  have e1' : ((n : Int) - 2).tdiv 2 = (h : Int) := by rw [Int.tdiv_eq_ediv_of_nonneg (by omega)]; exact e1
  have e2 : (g : Int) % 2 = (b : Int) := by omega
  have e2' : (g : Int).tmod 2 = (b : Int) := by rw [Int.tmod_eq_emod_of_nonneg (by omega)]; exact e2
  have e3 : (b : Int) * (h : Int) = (m : Int) := by rw [hm]; push_cast; rfl
  have e4 : 2 + (m : Int) = (f : Int) := by omega
  rw [← hf, ← hh]
  clear hh hf hb hm hf2
  go_enter Try.func62, Try.ntmps62
  go_wp2
  go_ret2
  exact ⟨rfl, rfl⟩
set_option maxRecDepth 100000 in
theorem lcheck_any (A : Option Addr) (n c : Nat) (w : World) (hn : n < 140737488355000) :
    Calls Try.prog 47 #[.slice A n c] w fun e w' => e = .returned (.int .i64 (if n = 0 then 1 else if 65535 < n then 3 else 0)) ∧ w = w' := by
  by_cases h0 : n = 0
  · subst h0
    go_enter Try.func47, Try.ntmps47
    go_wp2
    go_ret
    exact ⟨rfl, rfl⟩
  · have q0 : ¬ (n : Int) = 0 := by omega
    by_cases h1 : 65535 < n
    · have q1 : (65535 : Int) < (n : Int) := by omega
      rw [if_neg h0, if_pos h1]
      go_enter Try.func47, Try.ntmps47
      go_wp2
      go_ret
      exact ⟨rfl, rfl⟩
    · have q1 : ¬ (65535 : Int) < (n : Int) := by omega
      rw [if_neg h0, if_neg h1]
      go_enter Try.func47, Try.ntmps47
      go_wp2
      go_ret
      exact ⟨rfl, rfl⟩
end
end Go.Proofs.Ytpomjaidaignpaa
