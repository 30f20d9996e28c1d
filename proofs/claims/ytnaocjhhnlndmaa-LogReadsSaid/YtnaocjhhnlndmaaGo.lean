/- The reference's Head and Record (layer 18). -/
import Derived.Test.YtnaocjhhnlndmaaGn
set_option linter.unusedVariables false
set_option linter.unusedSimpArgs false
namespace Go.Proofs.Ytnaocjhhnlndmaa
open Go.RowKit Wd
section
variable {w0 w : World} {M : Mem} {L : List Ent}
set_option maxRecDepth 100000 in
theorem rhead_any (H : St w0 w M L) (g : Nat) (hg : g < 18446744073709551616) :
    Calls Try.prog 30 #[.int .u64 (g : Int)] w fun e w' => ∃ v, e = .returned v ∧ St w0 w' M (er 5 1 v 64 (bv (Lg.head g)) :: L) := by
  obtain ⟨a, ha⟩ : ∃ a, a = Lg.be g 8 := ⟨_, rfl⟩
  have hal : a.length = 8 := by rw [ha, Lg.be_len]
  obtain ⟨s, hs⟩ : ∃ s, s = Lg.crc a := ⟨_, rfl⟩
  have hsl : s < 4294967296 := by rw [hs]; exact Lg.crc_lt a
  have hsw := Lg.wrap64 s (by omega)
  have HS := Lib.hid hs
  have HA := Lib.hid ha
  have HAL := Lib.hid hal
  have H0 := H.addNil 5 1
  have hp1 := rput_any (l := []) H0 g 8 hg (by omega) (by omega)
  rw [List.nil_append, ← ha] at hp1
  have HP1 := Lib.hid hp1
  clear hs ha hal hp1
  go_enter Try.func30, Try.ntmps30
  go_wp2_with fail
  refine HP1.out.mono ?_
  rintro e w1 ⟨v1, rfl, H1⟩
  rw [Nat.zero_add] at H1
  obtain ⟨A1, c1, rfl, hc1, hA1⟩ := H1.shape' 0 rfl
  have r1 : RB w1 A1 a := er_RB (H1.get 0 rfl)
  clear H0 HP1
  go_wp2_with fail
  have q1 := sum_any (c := c1) r1 (by rw [HAL.out]; omega)
  have q2 := rsum_any (c := c1) r1 (by rw [HAL.out]; omega)
  rw [HAL.out, ← HS.out] at q2
  refine q2.mono ?_
  rintro e w2 ⟨rfl, rfl⟩
  have hp2 := rput_any H1 s 4 (by omega) (by omega) (by omega)
  have HP2 := Lib.hid hp2
  clear hp2 q1 q2
  go_wp2_with fail
  refine HP2.out.mono ?_
  rintro e w2 ⟨v2, rfl, H2⟩
  obtain ⟨A2, c2, rfl, hc2, hA2⟩ := H2.shape' 0 rfl
  clear H1 r1 HP2
  go_wp2_with (at_builtin; refine wpList_append_zeros_st H2 (by rfl) (.tmp 11) (.const (.int .i64 52)) 22 3 9 .i64 .i64 (by rfl) Try.info5 Try.underlying22 (by kernel_rfl) (by kernel_rfl) (by rfl) 52 (by rfl) (by omega) ?_)
  intro v4 w4 H4
  rw [← bv_append, HS.out, HA.out] at H4
  go_wp2
  go_ret
  exact ⟨_, rfl, H4⟩
set_option maxRecDepth 100000 in
set_option maxHeartbeats 1000000 in
theorem rrecord_any (H : St w0 w M L) (g at_ : Nat) (hg : g < 18446744073709551616) (hat : at_ < 4294967296) {B : Option Addr} {n d : Nat} {b : List UInt8} (hn : n = b.length) (hB : B = none → d = 0) (hd : n ≤ d) (hb : Sr w0 M L B b) (hbn : n < 4294967296) :
    Calls Try.prog 31 #[.int .u64 (g : Int), .int .i64 (at_ : Int), .slice B n d] w fun e w' => ∃ v, e = .returned v ∧ St w0 w' M (er 5 1 v (n + 6) (bv (Lg.record g at_ b)) :: L) := by
  obtain ⟨T, hT⟩ : ∃ T, T = Lg.be g 8 ++ Lg.be at_ 4 ++ Lg.be n 2 ++ b := ⟨_, rfl⟩
  have hTl : T.length = n + 14 := by rw [hT]; simp [Lg.be_len, hn]; omega
  obtain ⟨s, hs⟩ : ∃ s, s = Lg.crc T := ⟨_, rfl⟩
  have hsl : s < 4294967296 := by rw [hs]; exact Lg.crc_lt T
  have hRe : Lg.be n 2 ++ Lg.be s 4 ++ b = Lg.record g at_ b := by rw [hs, hT, hn]; rfl
  have hsw := Lg.wrap64 s (by omega)
  have hnw := Lg.wrap64 n (by omega)
  have haw := Lg.wrap64 at_ (by omega)
  have H0 := H.addNil 5 1
  have hp1 := rput_any (l := []) H0 g 8 hg (by omega) (by omega)
  rw [List.nil_append] at hp1
  have HP1 := Lib.hid hp1
  have HRE := Lib.hid hRe
  have HS := Lib.hid hs
  have HT := Lib.hid hT
  have HTL := Lib.hid hTl
  have HN := Lib.hid hn
  clear hp1 hRe hs hT hTl hn
  go_enter Try.func31, Try.ntmps31
  go_wp2_with fail
  refine HP1.out.mono ?_
  rintro e w1 ⟨v1, rfl, H1⟩
  rw [Nat.zero_add] at H1
  clear H0 HP1
  go_wp2_with fail
  refine (rput_any H1 at_ 4 (by omega) (by omega) (by omega)).mono ?_
  rintro e w2 ⟨v2, rfl, H2⟩
  clear H1
  go_wp2_with fail
  refine (rput_any H2 n 2 (by omega) (by omega) (by omega)).mono ?_
  rintro e w3 ⟨v3, rfl, H3⟩
  clear H2
  have H4 := H3.addNil 5 1
  go_wp2_with fail
  refine (rput_any (l := []) H4 n 2 (by omega) (by omega) (by omega)).mono ?_
  rintro e w4 ⟨v4, rfl, H5⟩
  rw [List.nil_append, Nat.zero_add] at H5
  clear H3 H4
  have r5 : RB w4 B b := ((hb.cons _).cons _).now H5
  go_wp2_with (at_builtin; refine wpList_append_st H5.f1 (by rfl) (.tmp 25) (.tmp 26) 22 (by rfl) Try.info5 Try.underlying22 (by rfl) B n d b (by rfl) HN.out hB r5 (by omega) ?_)
  intro v5 w5 H6
  rw [← bv_append, show Lg.be g 8 ++ (Lg.be at_ 4 ++ Lg.be n 2) ++ b = T from by rw [HT.out]; simp] at H6
  obtain ⟨A5, c5, rfl, hc5, hA5⟩ := H6.shape' 0 rfl
  have r6 : RB w5 A5 T := er_RB (H6.get 0 rfl)
  have q6 := rsum_any (c := c5) r6 (by rw [HTL.out]; omega)
  rw [HTL.out, ← HS.out, show n + 14 = 14 + n from by omega] at q6
  have Q6 := Lib.hid q6
  clear q6 r5
  go_wp2_with fail
  refine Q6.out.mono ?_
  rintro e w6 ⟨rfl, rfl⟩
  have hp := rput_any H6.d0 s 4 (by omega) (by omega) (by omega)
  have HP := Lib.hid hp
  clear hp H5 H6 r6 Q6
  go_wp2_with fail
  refine HP.out.mono ?_
  rintro e w7 ⟨v7, rfl, H7⟩
  have r7 : RB w7 B b := (hb.cons _).now H7
  clear HP
  go_wp2_with (at_builtin; refine wpList_append_st H7 (by rfl) (.tmp 31) (.tmp 32) 22 (by rfl) Try.info5 Try.underlying22 (by rfl) B n d b (by rfl) HN.out hB r7 (by omega) ?_)
  intro v8 w8 H8
  rw [← bv_append, HRE.out, show 2 + 4 + n = n + 6 from by omega] at H8
  go_wp2
  go_ret
  exact ⟨_, rfl, H8⟩
end
end Go.Proofs.Ytnaocjhhnlndmaa
