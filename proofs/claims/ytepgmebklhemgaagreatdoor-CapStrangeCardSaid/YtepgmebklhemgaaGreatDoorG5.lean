/- The reference's put, number, Head, Record (layer 18). -/
import Derived.Test.YtepgmebklhemgaaGreatDoorA5
import Derived.Test.YtepgmebklhemgaaGreatDoorA3
import Derived.Test.YtepgmebklhemgaaGreatDoorG4
set_option linter.unusedVariables false
set_option linter.unusedSimpArgs false
namespace Go.Proofs.YtepgmebklhemgaaGreatDoor
open Go.RowKit Wd
section
variable {w0 w : World} {M : Mem} {L : List Ent}
set_option maxRecDepth 100000 in
theorem rput_any {v : Value} {m : Nat} {l : List UInt8} (H : St w0 w M (er 5 1 v m (bv l) :: L)) (n k : Nat) (hn : n < 18446744073709551616) (hk : k ≤ 8) (hm : m ≤ 10000000000) :
    Calls Tryz.prog 90 #[v, .int .u64 (n : Int), .int .i64 (k : Int)] w fun e w' => ∃ v', e = .returned v' ∧ St w0 w' M (er 5 1 v' (m + k) (bv (l ++ Lg.be n k)) :: L) := by
  have q0 : (k : Int) ≤ 8 := by omega
  go_enter Tryz.func90, Tryz.ntmps90
  go_wp2
  go_loopw [0, 7] (fun v i wr => ∃ j : Nat, j ≤ k ∧ i = .int .i64 ((k : Int) - 1 - (j : Int)) ∧ St w0 wr M (er 5 1 v (m + j) (bv (l ++ (Lg.be n k).take j)) :: L)) (fun _ i _ => (intOf i + 1).toNat)
  case atStart => exact ⟨0, by omega, by go_num, by simpa using H⟩
  case round =>
    obtain ⟨j, hj, rfl, H1⟩ := hrel
    clear H
    by_cases hlt : j < k
    · obtain ⟨i, hi⟩ : ∃ i : Nat, i = k - 1 - j := ⟨_, rfl⟩
      have hi2 : (k : Int) - 1 - (j : Int) = (i : Int) := by omega
      have ht := Lg.be_take n k j hlt
      rw [← hi] at ht
      rw [hi2]
      obtain ⟨p, hp⟩ : ∃ p : Nat, p = 8 * i := ⟨_, rfl⟩
      have e1 : 8 * (i : Int) = (p : Int) := by omega
      obtain ⟨s, hs⟩ : ∃ s : Nat, s = 2 ^ p := ⟨_, rfl⟩
      have e2 : (2 : Int) ^ p = (s : Int) := by rw [hs]; push_cast; rfl
      obtain ⟨q, hq⟩ : ∃ q : Nat, q = n / s := ⟨_, rfl⟩
      have e3 : (n : Int) / (s : Int) = (q : Int) := by rw [hq]; push_cast; rfl
      obtain ⟨b, hb⟩ : ∃ b : UInt8, b = UInt8.ofNat q := ⟨_, rfl⟩
      have e4 : (q : Int) % 256 = (b.toNat : Int) := by rw [hb]; simp
      rw [← hp, ← hs, ← hq, ← hb] at ht
      have HT := Lib.hid ht
      have HI := Lib.hid hi2
      have hi3 : (i : Int) ≤ 7 := by omega
      have hm3 : p < 64 := by omega
      have HLT := Lib.hid hlt
      have H2 := Lib.hid H1
      clear ht hi2 hs hq hb hp hi hlt H1
      go_wp2_with (at_builtin; refine wpList_append1_st H2.out (by rfl) (.tmp 14) (.tmp 21) 30 (by rfl) Tryz.info5 (by rfl) Tryz.underlying30 (by rfl) (by rfl) (by rfl) (by have := HLT.out; omega) (by have := HLT.out; omega) ?_)
      intro v' w' H3
      go_wp2
      refine ⟨⟨j + 1, by have := HLT.out; omega, congrArg (Value.int .i64) (by have := HI.out; omega), by rw [HT.out, ← List.append_assoc, bv_append]; exact H3⟩, by simp [intOf]⟩
    · obtain rfl : j = k := by omega
      rw [List.take_of_length_le (by rw [Lg.be_len]; exact Nat.le_refl _)] at H1
      go_wp2
      go_ret
      exact ⟨_, rfl, H1⟩
set_option maxRecDepth 100000 in
theorem rnumber_any {w : World} {A : Option Addr} {c : Nat} {l : List UInt8} (hl : RB w A l) (hn : l.length ≤ 8) :
    Calls Tryz.prog 59 #[.slice A l.length c] w fun e w' => e = .returned (.int .u64 (Lg.num l : Int)) ∧ w = w' := by
  go_enter Tryz.func59, Tryz.ntmps59
  go_wp2
  go_loopw [3, 4] (fun x i wr => ∃ k : Nat, k ≤ l.length ∧ i = .int .i64 k ∧ x = .int .u64 (Lg.num (l.take k) : Int) ∧ wr = w) (fun _ i _ => l.length - (intOf i).toNat)
  case atStart => exact ⟨0, by omega, rfl, rfl, rfl⟩
  case round =>
    obtain ⟨k, hk, rfl, rfl, rfl⟩ := hrel
    by_cases hlt : k < l.length
    · obtain ⟨b, o, rfl, hc⟩ := hl.at k hlt
      have hr := Lg.num_take l k hlt
      have hlim := Lg.num_lt (l.take (k + 1))
      have hpow : 256 ^ (l.take (k + 1)).length ≤ 256 ^ 8 := Nat.pow_le_pow_right (by decide) (by rw [List.length_take]; omega)
      rw [hr] at hlim
      obtain ⟨Y, hY⟩ : ∃ Y, Y = Lg.num (l.take k) := ⟨_, rfl⟩
      obtain ⟨v, hv⟩ : ∃ v, v = l[k] := ⟨_, rfl⟩
      rw [← hY, ← hv] at hr hlim
      rw [← hv] at hc
      rw [← hY]
      have hlim2 := Nat.lt_of_lt_of_le hlim hpow
      obtain ⟨m, e1, e3, _⟩ := Lg.val_run Y v hlim2
      have hmy : m = Y * 256 := by
        have h1 : Y * 256 < 18446744073709551616 := Nat.lt_of_le_of_lt (Nat.le_add_right _ _) hlim2
        have h2 := Lg.wrap64 (Y * 256) h1
        push_cast at h2
        rw [h2] at e1
        omega
      obtain ⟨T, hT⟩ : ∃ T, T = Y * 256 + v.toNat := ⟨_, rfl⟩
      have e4 : IntKind.u64.wrap ((m : Int) + (v.toNat : Int)) = (T : Int) := by
        have h2 := Lg.wrap64 (Y * 256 + v.toNat) hlim2
        rw [hmy, hT]
        push_cast at h2 ⊢
        exact h2
      rw [← hT] at hr
      have HR := Lib.hid hr
      have HLT := Lib.hid hlt
      have q1 : (k : Int) < (l.length : Int) := by omega
      clear hr hY hv hT hlt hlim hpow hlim2 hmy
      go_wp2
      refine ⟨⟨k + 1, by have := HLT.out; omega, by go_num, by rw [HR.out], trivial⟩, by have := HLT.out; simp [intOf]; omega⟩
    · obtain rfl : k = l.length := by omega
      rw [List.take_length]
      go_wp2
      go_ret
      exact ⟨rfl, rfl⟩
end
end Go.Proofs.YtepgmebklhemgaaGreatDoor
/- The reference's Head and Record (layer 18). -/
set_option linter.unusedVariables false
set_option linter.unusedSimpArgs false
namespace Go.Proofs.YtepgmebklhemgaaGreatDoor
open Go.RowKit Wd
section
variable {w0 w : World} {M : Mem} {L : List Ent}
set_option maxRecDepth 100000 in
theorem rhead_any (H : St w0 w M L) (g : Nat) (hg : g < 18446744073709551616) :
    Calls Tryz.prog 60 #[.int .u64 (g : Int)] w fun e w' => ∃ v, e = .returned v ∧ St w0 w' M (er 5 1 v 64 (bv (Lg.head g)) :: L) := by
  obtain ⟨a, ha⟩ : ∃ a, a = Lg.be g 8 := ⟨_, rfl⟩
  have hal : a.length = 8 := by rw [ha, Lg.be_len]
  obtain ⟨s, hs⟩ : ∃ s, s = Lg.crc a := ⟨_, rfl⟩
  have hsl : s < 4294967296 := by rw [hs]; exact Lg.crc_lt a
  have hsw := Lg.wrap64 s (by omega)
  have HS := Lib.hid hs
  have HA := Lib.hid ha
  have HAL := Lib.hid hal
  have H0 := H.addNil 5 1
  have hp1 := rput_any (l := []) H0 g 8 hg (by omega) (by omega)
  rw [List.nil_append, ← ha] at hp1
  have HP1 := Lib.hid hp1
  clear hs ha hal hp1
  go_enter Tryz.func60, Tryz.ntmps60
  go_wp2_with fail
  refine HP1.out.mono ?_
  rintro e w1 ⟨v1, rfl, H1⟩
  rw [Nat.zero_add] at H1
  obtain ⟨A1, c1, rfl, hc1, hA1⟩ := H1.shape' 0 rfl
  have r1 : RB w1 A1 a := er_RB (H1.get 0 rfl)
  clear H0 HP1
  go_wp2_with fail
  have q1 := sum_any (c := c1) r1 (by rw [HAL.out]; omega)
  have q2 := rsum_any (c := c1) r1 (by rw [HAL.out]; omega)
  rw [HAL.out, ← HS.out] at q2
  refine q2.mono ?_
  rintro e w2 ⟨rfl, rfl⟩
  have hp2 := rput_any H1 s 4 (by omega) (by omega) (by omega)
  have HP2 := Lib.hid hp2
  clear hp2 q1 q2
  go_wp2_with fail
  refine HP2.out.mono ?_
  rintro e w2 ⟨v2, rfl, H2⟩
  obtain ⟨A2, c2, rfl, hc2, hA2⟩ := H2.shape' 0 rfl
  clear H1 r1 HP2
  go_wp2_with (at_builtin; refine wpList_append_zeros_st H2 (by rfl) (.tmp 11) (.const (.int .i64 52)) 30 3 9 .i64 .i64 (by rfl) Tryz.info5 Tryz.underlying30 (by kernel_rfl) (by kernel_rfl) (by rfl) 52 (by rfl) (by omega) ?_)
  intro v4 w4 H4
  rw [← bv_append, HS.out, HA.out] at H4
  go_wp2
  go_ret
  exact ⟨_, rfl, H4⟩
set_option maxRecDepth 100000 in
set_option maxHeartbeats 1000000 in
theorem rrecord_any (H : St w0 w M L) (g at_ : Nat) (hg : g < 18446744073709551616) (hat : at_ < 4294967296) {B : Option Addr} {n d : Nat} {b : List UInt8} (hn : n = b.length) (hB : B = none → d = 0) (hd : n ≤ d) (hb : Sr w0 M L B b) (hbn : n < 4294967296) :
    Calls Tryz.prog 61 #[.int .u64 (g : Int), .int .i64 (at_ : Int), .slice B n d] w fun e w' => ∃ v, e = .returned v ∧ St w0 w' M (er 5 1 v (n + 6) (bv (Lg.record g at_ b)) :: L) := by
  obtain ⟨T, hT⟩ : ∃ T, T = Lg.be g 8 ++ Lg.be at_ 4 ++ Lg.be n 2 ++ b := ⟨_, rfl⟩
  have hTl : T.length = n + 14 := by rw [hT]; simp [Lg.be_len, hn]; omega
  obtain ⟨s, hs⟩ : ∃ s, s = Lg.crc T := ⟨_, rfl⟩
  have hsl : s < 4294967296 := by rw [hs]; exact Lg.crc_lt T
  have hRe : Lg.be n 2 ++ Lg.be s 4 ++ b = Lg.record g at_ b := by rw [hs, hT, hn]; rfl
  have hsw := Lg.wrap64 s (by omega)
  have hnw := Lg.wrap64 n (by omega)
  have haw := Lg.wrap64 at_ (by omega)
  have H0 := H.addNil 5 1
  have hp1 := rput_any (l := []) H0 g 8 hg (by omega) (by omega)
  rw [List.nil_append] at hp1
  have HP1 := Lib.hid hp1
  have HRE := Lib.hid hRe
  have HS := Lib.hid hs
  have HT := Lib.hid hT
  have HTL := Lib.hid hTl
  have HN := Lib.hid hn
  clear hp1 hRe hs hT hTl hn
  go_enter Tryz.func61, Tryz.ntmps61
  go_wp2_with fail
  refine HP1.out.mono ?_
  rintro e w1 ⟨v1, rfl, H1⟩
  rw [Nat.zero_add] at H1
  clear H0 HP1
  go_wp2_with fail
  refine (rput_any H1 at_ 4 (by omega) (by omega) (by omega)).mono ?_
  rintro e w2 ⟨v2, rfl, H2⟩
  clear H1
  go_wp2_with fail
  refine (rput_any H2 n 2 (by omega) (by omega) (by omega)).mono ?_
  rintro e w3 ⟨v3, rfl, H3⟩
  clear H2
  have H4 := H3.addNil 5 1
  go_wp2_with fail
  refine (rput_any (l := []) H4 n 2 (by omega) (by omega) (by omega)).mono ?_
  rintro e w4 ⟨v4, rfl, H5⟩
  rw [List.nil_append, Nat.zero_add] at H5
  clear H3 H4
  have r5 : RB w4 B b := ((hb.cons _).cons _).now H5
  go_wp2_with (at_builtin; refine wpList_append_st H5.f1 (by rfl) (.tmp 25) (.tmp 26) 30 (by rfl) Tryz.info5 Tryz.underlying30 (by rfl) B n d b (by rfl) HN.out hB r5 (by omega) ?_)
  intro v5 w5 H6
  rw [← bv_append, show Lg.be g 8 ++ (Lg.be at_ 4 ++ Lg.be n 2) ++ b = T from by rw [HT.out]; simp] at H6
  obtain ⟨A5, c5, rfl, hc5, hA5⟩ := H6.shape' 0 rfl
  have r6 : RB w5 A5 T := er_RB (H6.get 0 rfl)
  have q6 := rsum_any (c := c5) r6 (by rw [HTL.out]; omega)
  rw [HTL.out, ← HS.out, show n + 14 = 14 + n from by omega] at q6
  have Q6 := Lib.hid q6
  clear q6 r5
  go_wp2_with fail
  refine Q6.out.mono ?_
  rintro e w6 ⟨rfl, rfl⟩
  have hp := rput_any H6.d0 s 4 (by omega) (by omega) (by omega)
  have HP := Lib.hid hp
  clear hp H5 H6 r6 Q6
  go_wp2_with fail
  refine HP.out.mono ?_
  rintro e w7 ⟨v7, rfl, H7⟩
  have r7 : RB w7 B b := (hb.cons _).now H7
  clear HP
  go_wp2_with (at_builtin; refine wpList_append_st H7 (by rfl) (.tmp 31) (.tmp 32) 30 (by rfl) Tryz.info5 Tryz.underlying30 (by rfl) B n d b (by rfl) HN.out hB r7 (by omega) ?_)
  intro v8 w8 H8
  rw [← bv_append, HRE.out, show 2 + 4 + n = n + 6 from by omega] at H8
  go_wp2
  go_ret
  exact ⟨_, rfl, H8⟩
end
end Go.Proofs.YtepgmebklhemgaaGreatDoor
/- The reference's Half, Room, Same; the log's Generation (layer 18). -/
set_option linter.unusedVariables false
set_option linter.unusedSimpArgs false
namespace Go.Proofs.YtepgmebklhemgaaGreatDoor
open Go.RowKit Wd
set_option maxRecDepth 100000 in
theorem rhalf_any (bb bo n c nb g : Nat) (hn : n = 64 * nb) (h1 : 6 ≤ nb) (h2 : nb ≤ 4096) (hc : n ≤ c) (hc2 : c ≤ 9223372036854775807) (hg : g < 18446744073709551616) (w : World) :
    Calls Tryz.prog 29 #[.slice (some ⟨bb, bo, none⟩) n c, .int .u64 (g : Int)] w fun e w' => e = .returned (.slice (some ⟨bb, bo + 64 * Lg.halfFrom nb g, none⟩) (64 * Lg.halfN nb) (c - 64 * Lg.halfFrom nb g)) ∧ w = w' := by
  obtain ⟨N, hN⟩ : ∃ N, N = Lg.halfN nb := ⟨_, rfl⟩
  have hN2 : N = (nb - 2) / 2 := hN
  have hf : Lg.halfFrom nb g = 2 + g % 2 * N := by rw [hN]; rfl
  rw [hf, ← hN]
  obtain ⟨d2, hd2⟩ : ∃ d2, d2 = nb - 2 := ⟨_, rfl⟩
  obtain ⟨H, hH⟩ : ∃ H, H = 64 * N := ⟨_, rfl⟩
  have e1 : (n : Int) / 64 = (nb : Int) := by omega
  have e1' : (n : Int).tdiv 64 = (nb : Int) := by rw [Int.tdiv_eq_ediv_of_nonneg (by omega)]; exact e1
  have e2 : (nb : Int) - 2 = (d2 : Int) := by omega
  have e3 : (d2 : Int) / 2 = (N : Int) := by omega
  have e3' : (d2 : Int).tdiv 2 = (N : Int) := by rw [Int.tdiv_eq_ediv_of_nonneg (by omega)]; exact e3
  have e4 : (N : Int) * 64 = (H : Int) := by omega
  have hHb : H ≤ 131072 := by omega
  have hHf : 128 + H + H ≤ n := by omega
  have hH0 : 128 ≤ H := by omega
  have q3 : (c : Int) ≤ 9223372036854775807 := by omega
  have hgm : g % 2 = 0 ∨ g % 2 = 1 := by omega
  rw [← hH]
  rcases hgm with h0 | h0
  · have e5 : (g : Int) % 2 = 0 := by omega
    have e5' : (g : Int).tmod 2 = 0 := by rw [Int.tmod_eq_emod_of_nonneg (by omega)]; exact e5
    obtain ⟨o2, ho2⟩ : ∃ o2, o2 = 128 + H := ⟨_, rfl⟩
    have e6 : 128 + (H : Int) = (o2 : Int) := by omega
    have e7 : o2 - 128 = H := by omega
    have e8 : 128 ≤ o2 := by omega
    have e9 : o2 ≤ n := by omega
    have ez : 64 * (2 + 0 * N) = 128 := by omega
    rw [h0, ez]
    clear h0 hN hN2 hf hd2 hH ho2 hn
    go_enter Tryz.func29, Tryz.ntmps29
    go_wp2
    go_ret
    exact ⟨rfl, rfl⟩
  · have e5 : (g : Int) % 2 = 1 := by omega
    have e5' : (g : Int).tmod 2 = 1 := by rw [Int.tmod_eq_emod_of_nonneg (by omega)]; exact e5
    obtain ⟨o1, ho1⟩ : ∃ o1, o1 = 128 + H := ⟨_, rfl⟩
    obtain ⟨o2, ho2⟩ : ∃ o2, o2 = o1 + H := ⟨_, rfl⟩
    have e6 : 128 + (H : Int) = (o1 : Int) := by omega
    have e6' : (o1 : Int) + (H : Int) = (o2 : Int) := by omega
    have e7 : o2 - o1 = H := by omega
    have e8 : o1 ≤ o2 := by omega
    have e9 : o2 ≤ n := by omega
    have ez : 64 * (2 + 1 * N) = o1 := by omega
    rw [h0, ez]
    clear h0 hN hN2 hf hd2 hH ho1 ho2 hn
    go_enter Tryz.func29, Tryz.ntmps29
    go_wp2
    go_ret
    exact ⟨rfl, rfl⟩
section
variable {w0 w : World} {M : Mem} {L : List Ent} {g f gen en : Nat} {F : FM} {ls : List (List UInt8)}
end
end Go.Proofs.YtepgmebklhemgaaGreatDoor
/- The reference's Records (layer 18). -/
set_option linter.unusedVariables false
set_option linter.unusedSimpArgs false
namespace Go.Proofs.YtepgmebklhemgaaGreatDoor
open Go.RowKit Wd
section
variable {w0 w : World} {M : Mem} {L : List Ent}
set_option maxRecDepth 100000 in
set_option maxHeartbeats 1000000 in
theorem rrecords_any (H : St w0 w M L) (g : Nat) (hg : g < 18446744073709551616) {A : Option Addr} {c n : Nat} {h : List UInt8} (hn : n = h.length) (hl : Sr w0 M L A h) (hA : A = none → c = 0) (hc : n ≤ c) (hc2 : c ≤ 9223372036854775807) (hn2 : n ≤ 1000000) :
    Calls Tryz.prog 30 #[.slice A n c, .int .u64 (g : Int)] w fun e w' => RetScan w0 M L (Lg.records g h).1 (Lg.records g h).2 e w' := by
  obtain ⟨R1, hR1⟩ : ∃ R, R = (Lg.records g h).1 := ⟨_, rfl⟩
  obtain ⟨R2, hR2⟩ : ∃ R, R = (Lg.records g h).2 := ⟨_, rfl⟩
  rw [← hR1, ← hR2]
  have HR1 := Lib.hid hR1
  have HR2 := Lib.hid hR2
  have HN := Lib.hid hn
  have H0 := H.lit00 30 1
  clear hR1 hR2 hn
  go_enter Tryz.func30, Tryz.ntmps30
  go_wp2
  go_loopw [6, 7, 8] (fun v i j wr => ∃ (e k : Nat) (ps : List Pc) (ls : List (List UInt8)) (M' : Mem), i = .int .i64 e ∧ j = .int .i64 k ∧ k ≤ e ∧ M.le M' ∧ Rows M' ps ls ∧ ps.length ≤ e ∧ Lg.sofar g h ls e ∧ St w0 wr M' (er 30 1 v ps.length (ps.map Pc.v) :: L)) (fun _ i _ _ => n - (intOf i).toNat)
  case atStart => exact ⟨0, 0, [], [], M, rfl, rfl, Nat.le_refl _, Mem.le.refl M, Rows.nil M, Nat.zero_le _, Lg.sofar_start g h, H0⟩
  case round =>
    obtain ⟨e, k, ps, ls, M', rfl, rfl, hke, hM', hrow, hps, hso, H1⟩ := hrel
    clear H0 H
    have he := hso.1
    rw [← HN.out] at he
    have qk : (k : Int) ≤ (n : Int) := by omega
    have qkn : k ≤ n := by omega
    have HKE := Lib.hid hke
    clear hke
    by_cases hlt : e + 6 ≤ n
    · obtain ⟨bb, bo, rfl, hbb, hbo⟩ := (hl.le hM').now H1.d0 (by rintro rfl; have := HN.out; simp at this; omega)
      obtain ⟨m, hm⟩ : ∃ m, m = Lg.num ((h.drop e).take 2) := ⟨_, rfl⟩
      have s2 : Sr w0 M' L (some ⟨bb, bo + e, none⟩) ((h.drop e).take 2) := (hl.le hM').sub _ _
      have l2 : ((h.drop e).take 2).length = 2 := by rw [List.length_take, List.length_drop, ← HN.out]; omega
      have hm2 : m < 65536 := by rw [hm]; have := Lg.num_lt ((h.drop e).take 2); rw [l2] at this; exact this
      have hv := fun c' => rnumber_any (c := c') (s2.now H1.d0) (by rw [l2]; omega)
      rw [← hm, l2] at hv
      have HV := Lib.hid hv
      have HM := Lib.hid hm
      have HSO := Lib.hid hso
      have HRW := Lib.hid hrow
      have HPS := Lib.hid hps
      obtain ⟨o6, ho6⟩ : ∃ o6 : Nat, o6 = e + 6 := ⟨_, rfl⟩
      obtain ⟨o7, ho7⟩ : ∃ o7 : Nat, o7 = e + 6 + m := ⟨_, rfl⟩
      have q8 : (e : Int) + 6 = (o6 : Int) := by omega
      have q9 : (o6 : Int) + (m : Int) = (o7 : Int) := by omega
      have q1 : ¬ (n : Int) < (o6 : Int) := by omega
      have q1n : ¬ n < o6 := by omega
      have q2 : (n : Int) ≤ 1000000 := by omega
      have q3 : (c : Int) ≤ 9223372036854775807 := by omega
      have qe2 : e + 2 ≤ n := by omega
      have O6 := Lib.hid ho6
      have O7 := Lib.hid ho7
      have q11b : o7 ≤ 2000000 := by omega
      clear hm hv l2 s2 hso hrow hps ho6 ho7 hbb hbo
      go_upto_region 8 with fail
      go_wp2_with fail
      refine (HV.out _).mono ?_
      rintro x w1 ⟨rfl, rfl⟩
      have stop : Lg.there g h e = none → R2 = e ∧ R1 = ls := fun hno => by
        have hr := Lg.sofar_stop HSO.out hno
        exact ⟨by rw [HR2.out, hr], by rw [HR1.out, hr]⟩
      by_cases h1 : 1 ≤ m ∧ o7 ≤ n
      · obtain ⟨h1, h2⟩ := h1
        have ho6 := O6.out
        have ho7 := O7.out
        have q4 : ¬ (m : Int) = 0 := by omega
        have q6 : ¬ (n : Int) < (o7 : Int) := by omega
        have q6n : ¬ n < o7 := by omega
        have q10 : o7 - o6 = m := by omega
        have q11 : o7 ≤ n := by omega
        have q12 : o6 ≤ o7 := by omega
        have q13 : e ≤ o7 := by omega
        have q14 : o7 - e = m + 6 := by omega
        obtain ⟨b1, hb1⟩ : ∃ b1, b1 = (h.drop (e + 6)).take m := ⟨_, rfl⟩
        have hb1l : b1.length = m := by rw [hb1, List.length_take, List.length_drop, ← HN.out]; omega
        have sb : Sr w0 M' L (some ⟨bb, bo + o6, none⟩) b1 := by rw [hb1, ho6]; exact (hl.le hM').sub _ _
        obtain ⟨E, hE⟩ : ∃ E, E = (h.drop e).take (6 + m) := ⟨_, rfl⟩
        have hEl : E.length = m + 6 := by rw [hE, List.length_take, List.length_drop, ← HN.out]; omega
        have sE : Sr w0 M' L (some ⟨bb, bo + e, none⟩) E := by rw [hE]; exact (hl.le hM').sub _ _
        obtain ⟨D, hD⟩ : ∃ D, D = Lg.record g e b1 := ⟨_, rfl⟩
        have hDl : D.length = m + 6 := by rw [hD, Lg.record_len, hb1l]
        obtain ⟨t, ht⟩ : ∃ t, t = decide (D = E) := ⟨_, rfl⟩
        have hse := list_eq D E
        rw [← ht] at hse
        have hrec := fun (W : World) (HW : St w0 W M' (er 30 1 u6 ps.length (ps.map Pc.v) :: L)) d (hd : m ≤ d) => rrecord_any HW g e hg (by omega) (B := some ⟨bb, bo + o6, none⟩) (d := d) hb1l.symm (by rintro ⟨⟩) hd (sb.cons _) (by omega)
        rw [← hD] at hrec
        have hth : if t = true then Lg.there g h e = some m else Lg.there g h e = none := by
          have hgd : Lg.good g h e m ↔ D = E := by rw [hD, hE, hb1]; exact Iff.rfl
          cases t with
          | true => exact Lg.there_yes (by rw [← HN.out]; omega) HM.out h1 (by rw [← HN.out]; omega) (hgd.2 (by simpa using ht.symm))
          | false => exact Lg.there_no HM.out fun h3 => by have := hgd.1 h3.2.2.2; simp [this] at ht
        have HTH := Lib.hid hth
        have HREC := Lib.hid hrec
        have HSE := Lib.hid hse
        have HB1 := Lib.hid hb1
        have HBL := Lib.hid hb1l
        have HEL := Lib.hid hEl
        have HDL := Lib.hid hDl
        have HLT := Lib.hid hlt
        have STOP := Lib.hid stop
        have Q1 := Lib.hid q1
        clear hb1 hb1l hE hEl hD hDl ht hse hrec hth HV hlt stop h2 h1 ho6 ho7 qkn q1 q1n qe2
        obtain ⟨s6, hs6⟩ : ∃ s6, s6 = m + 6 := ⟨_, rfl⟩
        rw [← hs6] at q14 HEL HDL HREC
        have S6 := Lib.hid hs6
        have hmc : m ≤ c - o6 := by omega
        have hml : m ≤ 1000000 := by omega
        have HML := Lib.hid hml
        clear hml
        have hce : ¬ c = e := by have := HLT.out; omega
        have hce2 : ¬ c = o6 := by omega
        have hco : (o7 : Int) ≤ (c : Int) := by omega
        have w6 : IntKind.i64.wrap (o6 : Int) = (o6 : Int) := by rw [IntKind.wrap_i64]; omega
        have w7 : IntKind.i64.wrap (o7 : Int) = (o7 : Int) := by rw [IntKind.wrap_i64]; omega
        clear hs6 he hm2
        go_wp2
        refine Pt.wp_plan (fun w' => St w0 w' M' (er 30 1 u6 ps.length (ps.map Pc.v) :: L)) (Pt.prs [0, 1, 2, 5, 6, 7, 8, 9, 10, 11] (Pt.rds [12] (.go 3 (Pt.rds [4] (Pt.prs [13] .fin))))) [] Tryz.mixed (by kernel_rfl) (fun _ _ d _ _ h => by cases d <;> exact h) H1.drew ?_
        have H2 := H1.drew
        simp only [Pt.toL, Pt.rds, Pt.prs, Pt.at_, List.drop_succ_cons, List.drop_zero]
        iterate 10 (refine Pt.pr_run (v := ?_) (by rfl) ?_ ?_; rotate_left; (focus (intro w'; go_simp; with_reducible rfl)); simp only [Act.put, List.setIfInBounds_toArray, List.set_cons_zero, List.set_cons_succ])
        (refine Pt.rd_run (v := ?_) (by rfl) ?_ ?_; rotate_left; (focus (intro w' hS; have cv := fun c'' => conv_RB (P := Tryz.prog) (src := 30) (dst := 9) (n := s6) (c := c'') Tryz.underlying30 Tryz.underlying5 Tryz.underlying9 ((sE.cons _).now hS) HEL.out.symm; go_simp; with_reducible rfl)); simp only [Act.put, List.setIfInBounds_toArray, List.set_cons_zero, List.set_cons_succ])
        refine Pt.run_go ?_
        go_wp2_with fail
        refine (HREC.out _ H2 _ hmc).mono ?_
        rintro x w3 ⟨v3, rfl, H3⟩
        obtain ⟨A3, c3, rfl, hc3, hA3⟩ := H3.shape' 0 rfl
        go_wp2_with fail
        refine Pt.more (fun w' => St w0 w' M' (er 5 1 (.slice A3 s6 c3) s6 (bv D) :: er 30 1 u6 ps.length (ps.map Pc.v) :: L)) H3.d0 H3 ?_
        (refine Pt.rd_run (v := ?_) (by rfl) ?_ ?_; rotate_left; (focus (intro w' hS; have cv := conv_RB (P := Tryz.prog) (src := 30) (dst := 9) (n := s6) (c := c3) Tryz.underlying30 Tryz.underlying5 Tryz.underlying9 (er_RB (hS.2.get 0 rfl)) HDL.out.symm; go_simp; with_reducible rfl)); simp only [Act.put, List.setIfInBounds_toArray, List.set_cons_zero, List.set_cons_succ])
        have hse := HSE.out
        (refine Pt.pr_run (v := ?_) (by rfl) ?_ ?_; rotate_left; (focus (intro w'; go_simp; with_reducible rfl)); simp only [Act.put, List.setIfInBounds_toArray, List.set_cons_zero, List.set_cons_succ])
        clear hse
        refine Pt.run_fin ?_
        have H4 := H3.d0
        have Q11 := Lib.hid q11
        have Q9 := Lib.hid q9
        have Q8 := Lib.hid q8
        clear H1 H2 H3 q4 q6 q6n q10 q11 q12 q13 q14 hce hce2 w6 w7
        cases t with
        | false =>
          obtain ⟨e1, e2⟩ := STOP.out (by simpa using HTH.out)
          have E1 := Lib.hid e1
          have E2 := Lib.hid e2
          clear e1 e2
          go_upto_if 66 with fail
          simp only [Bool.not_false]
          go_wp2
          go_ret2
          exact RetScan.mk E1.out E2.out hM' HRW.out H4
        | true =>
          have hth : Lg.there g h e = some m := by simpa using HTH.out
          have hso := Lg.sofar_step HSO.out hth
          rw [← O7.out, ← HB1.out] at hso
          have HS2 := Lib.hid hso
          clear hso hth
          go_upto_if 66 with fail
          simp only [Bool.not_true]
          have H5 := H4.lit0 5
          have r5 : RB _ (some ⟨bb, bo + o6, none⟩) b1 := ((sb.cons _).cons _).now H5
          go_wp2_with (at_builtin; refine wpList_append_st H5 (by rfl) (.tmp 70) (.tmp 71) 30 (by rfl) Tryz.info5 Tryz.underlying30 (by rfl) (some ⟨bb, bo + o6, none⟩) m (c - o6) b1 (by rfl) HBL.out.symm (by rintro ⟨⟩) r5 (by have := HML.out; omega) ?_)
          intro v5 w5 H6
          obtain ⟨A5, c5, rfl, hc5, hA5⟩ := H6.shape' 0 rfl
          have hn1 : ps.length < 1000000 := by have := HPS.out; have := HLT.out; omega
          have HN1 := Lib.hid hn1
          have HA5 := Lib.hid hA5
          have HC5 := Lib.hid hc5
          clear hn1 hA5 hc5 hmc hco hc3 hA3 hA r5 H5
          go_wp2_with (at_builtin; refine wpList_append1_st H6.f1 (by rfl) (.tmp 69) (.tmp 73) 36 (by rfl) Tryz.info22 (by rfl) Tryz.underlying36 (by rfl) (by rfl) (by rfl) (by have := HN1.out; omega) (by have := HN1.out; omega) ?_)
          intro v6 w6 H7
          obtain ⟨M2, hM2, H8, hin⟩ := H7.f1.keepRow
          have hrow := (HRW.out.le hM2).snoc (p := ⟨A5, m, c5, b1⟩) ⟨HBL.out.symm, HA5.out, HC5.out⟩ hin
          have H9 : St w0 w6 M2 (er 30 1 v6 (ps ++ [(⟨A5, m, c5, b1⟩ : Pc)]).length ((ps ++ [(⟨A5, m, c5, b1⟩ : Pc)]).map Pc.v) :: L) := by
            rw [List.length_append, List.map_append]; exact H8
          have HH := Lib.hid hrow
          have q8 := Q8.out
          have q9 := Q9.out
          clear H4 H6 H7 H8 hrow hin
          go_wp2
          refine ⟨⟨o7, k + 1, _, _, M2, rfl, by go_num, ?_, hM'.trans hM2, HH.out, ?_, HS2.out, H9⟩, ?_⟩
          · have := HKE.out; have := O7.out; omega
          · have := O7.out; have := HPS.out; rw [List.length_append]; simp; omega
          · have := Q11.out; have := O7.out; simp [intOf]; omega
      · have hno : Lg.there g h e = none := Lg.there_no HM.out fun h3 => h1 ⟨h3.2.1, by have := h3.2.2.1; have := O7.out; have := HN.out; omega⟩
        obtain ⟨e1, e2⟩ := stop hno
        have E1 := Lib.hid e1
        have E2 := Lib.hid e2
        have hx : (m : Int) = 0 ∨ (¬ (m : Int) = 0 ∧ (n : Int) < (o7 : Int) ∧ n < o7) := by have := O7.out; omega
        clear e1 e2 hno h1 stop
        rcases hx with q4 | ⟨q4, q6, q6n⟩
        · obtain rfl : m = 0 := by omega
          clear q4
          go_wp2
          go_ret2
          exact RetScan.mk E1.out E2.out hM' HRW.out H1
        · go_wp2
          go_ret2
          exact RetScan.mk E1.out E2.out hM' HRW.out H1
    · have hno : Lg.there g h e = none := Lg.there_no rfl fun h => hlt (by have := h.1; rw [← HN.out] at this; omega)
      have hr := Lg.sofar_stop hso hno
      have e1 : R2 = e := by rw [HR2.out, hr]
      have e2 : R1 = ls := by rw [HR1.out, hr]
      have E1 := Lib.hid e1
      have E2 := Lib.hid e2
      have q1 : (n : Int) < (e : Int) + 6 := by omega
      clear hr e1 e2 hno hlt hso
      go_wp2
      go_ret2
      exact RetScan.mk E1.out E2.out hM' hrow H1
end
end Go.Proofs.YtepgmebklhemgaaGreatDoor
/- The reference's Same (layer 18); the law's all. -/
set_option linter.unusedVariables false
set_option linter.unusedSimpArgs false
namespace Go.Proofs.YtepgmebklhemgaaGreatDoor
open Go.RowKit Wd
section
variable {w0 w : World} {M : Mem} {L : List Ent}
variable {g f gen en : Nat} {F : FM} {ls : List (List UInt8)}
/-- Slices of bytes of their own. -/
def RetRows (w0 : World) (M : Mem) (L : List Ent) (ls : List (List UInt8)) (e : Ending) (w' : World) : Prop :=
  ∃ v ps M', e = .returned v ∧ M.le M' ∧ Rows M' ps ls ∧ St w0 w' M' (er 30 1 v ps.length (ps.map Pc.v) :: L)
end
end Go.Proofs.YtepgmebklhemgaaGreatDoor
