/- The contracts of log's head and record. -/
import Derived.Test.YtpomjaidaignpaaGc
import Derived.Test.YtpomjaidaignpaaGd
set_option linter.unusedVariables false
set_option linter.unusedSimpArgs false
namespace Go.Proofs.Ytpomjaidaignpaa
open Go.RowKit Wd
theorem Lg.wrap64 (n : Nat) (h : n < 18446744073709551616) : IntKind.u64.wrap (n : Int) = (n : Int) := by
  rw [IntKind.wrap_u64]
  exact Int.emod_eq_of_lt (Int.natCast_nonneg _) (Int.ofNat_lt.2 h)
section
variable {w0 w : World} {M : Mem} {L : List Ent}
set_option maxRecDepth 100000 in
theorem head_any (H : St w0 w M L) (g : Nat) (hg : g < 18446744073709551616) :
    Calls Try.prog 51 #[.int .u64 (g : Int)] w fun e w' => ∃ v, e = .returned v ∧ St w0 w' M (er 5 1 v 64 (bv (Lg.head g)) :: L) := by
  obtain ⟨a, ha⟩ : ∃ a, a = Lg.be g 8 := ⟨_, rfl⟩
  have hal : a.length = 8 := by rw [ha, Lg.be_len]
  obtain ⟨s, hs⟩ : ∃ s, s = Lg.crc a := ⟨_, rfl⟩
  have hsl : s < 4294967296 := by rw [hs]; exact Lg.crc_lt a
  have hsw := Lg.wrap64 s (by omega)
  have HS := Lib.hid hs
  have HA := Lib.hid ha
  have HAL := Lib.hid hal
  clear hs ha hal
  go_enter Try.func51, Try.ntmps51
  go_wp2_with fail
  refine (number_any H g 8 hg (by omega)).mono ?_
  rintro e w1 ⟨v1, rfl, H1⟩
  obtain ⟨A1, c1, rfl, hc1, hA1⟩ := H1.shape' 0 rfl
  rw [← HA.out] at H1
  have r1 : RB w1 A1 a := er_RB (H1.get 0 rfl)
  have q1 := sum_any (c := c1) r1 (by rw [HAL.out]; omega)
  rw [HAL.out, ← HS.out] at q1
  have Q1 := Lib.hid q1
  clear q1
  go_wp2_with fail
  refine Q1.out.mono ?_
  rintro e w2 ⟨rfl, rfl⟩
  go_wp2_with fail
  refine (number_any H1 s 4 (by omega) (by omega)).mono ?_
  rintro e w2 ⟨v2, rfl, H2⟩
  obtain ⟨A2, c2, rfl, hc2, hA2⟩ := H2.shape' 0 rfl
  have r2 : RB w2 A2 (Lg.be s 4) := er_RB (H2.get 0 rfl)
  clear H1 r1 Q1
  go_wp2_with (at_builtin; refine wpList_append_st H2.f1 (by rfl) (.tmp 6) (.tmp 10) 25 (by rfl) Try.info5 Try.underlying25 (by rfl) A2 4 c2 (Lg.be s 4) (by rfl) (by rw [Lg.be_len]) hA2 r2 (by omega) ?_)
  intro v3 w3 H3
  obtain ⟨A3, c3, rfl, hc3, hA3⟩ := H3.shape' 0 rfl
  have e1 : 64 - ((8 + 4 : Nat) : Int) = ((52 : Nat) : Int) := by omega
  rw [← bv_append] at H3
  clear H2 r2
  go_wp2_with (at_builtin; refine wpList_append_zeros_st H3 (by rfl) (.tmp 12) (.tmp 15) 25 3 9 .i64 .i64 (by rfl) Try.info5 Try.underlying25 (by kernel_rfl) (by kernel_rfl) (by rfl) 52 (by rfl) (by omega) ?_)
  intro v4 w4 H4
  rw [← bv_append, HS.out, HA.out] at H4
  go_wp2
  go_ret
  exact ⟨_, rfl, H4.d1⟩
set_option maxRecDepth 100000 in
theorem record_any (H : St w0 w M L) (g at_ : Nat) (hg : g < 18446744073709551616) (hat : at_ < 4294967296) {B : Option Addr} {n d : Nat} {b : List UInt8} (hn : n = b.length) (hB : B = none → d = 0) (hd : n ≤ d) (hb : Sr w0 M L B b) (hbn : n < 4294967296) :
    Calls Try.prog 48 #[.int .u64 (g : Int), .int .i64 (at_ : Int), .slice B n d] w fun e w' => ∃ v, e = .returned v ∧ St w0 w' M (er 5 1 v (n + 6) (bv (Lg.record g at_ b)) :: L) := by
  obtain ⟨a, ha⟩ : ∃ a, a = Lg.be n 2 := ⟨_, rfl⟩
  have hal : a.length = 2 := by rw [ha, Lg.be_len]
  obtain ⟨T, hT⟩ : ∃ T, T = Lg.be g 8 ++ (Lg.be at_ 4 ++ (a ++ (b ++ []))) := ⟨_, rfl⟩
  have hTl : T.length = n + 14 := by rw [hT]; simp [Lg.be_len, hal, hn]; omega
  obtain ⟨s, hs⟩ : ∃ s, s = Lg.crc T := ⟨_, rfl⟩
  have hsl : s < 4294967296 := by rw [hs]; exact Lg.crc_lt T
  obtain ⟨R, hR⟩ : ∃ R, R = a ++ (Lg.be s 4 ++ (b ++ [])) := ⟨_, rfl⟩
  have hRl : R.length = n + 6 := by rw [hR]; simp [Lg.be_len, hal, hn]; omega
  have hRe : R = Lg.record g at_ b := by rw [hR, hs, hT, ha, hn]; simp [Lg.record]
  have hsw := Lg.wrap64 s (by omega)
  have hnw := Lg.wrap64 n (by omega)
  have haw := Lg.wrap64 at_ (by omega)
  rw [← hRe]
  have HR := Lib.hid hR
  have HRL := Lib.hid hRl
  have HS := Lib.hid hs
  have HT := Lib.hid hT
  have HTL := Lib.hid hTl
  have HA := Lib.hid ha
  have HAL := Lib.hid hal
  have HN := Lib.hid hn
  clear hR hRl hRe hs hT hTl ha hal hn
  go_enter Try.func48, Try.ntmps48
  go_wp2_with fail
  refine (number_any H n 2 (by omega) (by omega)).mono ?_
  rintro e w1 ⟨v1, rfl, H1⟩
  obtain ⟨A1, c1, rfl, hc1, hA1⟩ := H1.shape' 0 rfl
  rw [← HA.out] at H1
  go_wp2_with fail
  refine (number_any H1 g 8 hg (by omega)).mono ?_
  rintro e w2 ⟨v2, rfl, H2⟩
  obtain ⟨A2, c2, rfl, hc2, hA2⟩ := H2.shape' 0 rfl
  go_wp2_with fail
  refine (number_any H2 at_ 4 (by omega) (by omega)).mono ?_
  rintro e w3 ⟨v3, rfl, H3⟩
  obtain ⟨A3, c3, rfl, hc3, hA3⟩ := H3.shape' 0 rfl
  have H4 := H3.lit [.slice A2 8 c2, .slice A3 4 c3, .slice A1 2 c1, .slice B n d] 25 (by simp [maxLen])
  clear H1 H2 H3
  go_wp2_with fail
  refine (concat_any (ps := [⟨A2, 8, c2, Lg.be g 8⟩, ⟨A3, 4, c3, Lg.be at_ 4⟩, ⟨A1, 2, c1, a⟩, ⟨B, n, d, b⟩]) H4 rfl (SrA.row 0 rfl) ?_ ?_ (by simp)).mono ?_
  · intro p hp
    simp only [List.mem_cons, List.not_mem_nil, or_false] at hp
    rcases hp with rfl | rfl | rfl | rfl
    · exact ⟨⟨(Lg.be_len _ _).symm, hA2, hc2⟩, Sr.row 2 rfl⟩
    · exact ⟨⟨(Lg.be_len _ _).symm, hA3, hc3⟩, Sr.row 1 rfl⟩
    · exact ⟨⟨HAL.out.symm, hA1, hc1⟩, Sr.row 3 rfl⟩
    · exact ⟨⟨HN.out, hB, hd⟩, (((hb.cons _).cons _).cons _).cons _⟩
  · show (Lg.be g 8 ++ (Lg.be at_ 4 ++ (a ++ (b ++ [])))).length < _
    rw [← HT.out, HTL.out]
    omega
  rintro e w5 ⟨v5, rfl, H5⟩
  change St w0 w5 M (er 5 1 v5 (Lg.be g 8 ++ (Lg.be at_ 4 ++ (a ++ (b ++ [])))).length (bv (Lg.be g 8 ++ (Lg.be at_ 4 ++ (a ++ (b ++ []))))) :: _) at H5
  rw [← HT.out, HTL.out] at H5
  obtain ⟨A5, c5, rfl, hc5, hA5⟩ := H5.shape' 0 rfl
  have r5 : RB w5 A5 T := er_RB (H5.get 0 rfl)
  have q5 := sum_any (c := c5) r5 (by rw [HTL.out]; omega)
  rw [HTL.out, ← HS.out] at q5
  have Q5 := Lib.hid q5
  clear q5 H4
  go_wp2_with fail
  refine Q5.out.mono ?_
  rintro e w6 ⟨rfl, rfl⟩
  have H6 := H5.sub (L' := er 5 1 (.slice A1 2 c1) 2 (bv a) :: L) (by repeat (first | exact List.Sublist.refl _ | exact List.Sublist.cons _ (List.Sublist.refl _) | apply List.Sublist.cons))
  clear H5 r5 Q5
  go_wp2_with fail
  refine (number_any H6 s 4 (by omega) (by omega)).mono ?_
  rintro e w7 ⟨v7, rfl, H7⟩
  obtain ⟨A7, c7, rfl, hc7, hA7⟩ := H7.shape' 0 rfl
  have H8 := H7.lit [.slice A1 2 c1, .slice A7 4 c7, .slice B n d] 25 (by simp [maxLen])
  clear H6 H7
  go_wp2_with fail
  refine (concat_any (ps := [⟨A1, 2, c1, a⟩, ⟨A7, 4, c7, Lg.be s 4⟩, ⟨B, n, d, b⟩]) H8 rfl (SrA.row 0 rfl) ?_ ?_ (by simp)).mono ?_
  · intro p hp
    simp only [List.mem_cons, List.not_mem_nil, or_false] at hp
    rcases hp with rfl | rfl | rfl
    · exact ⟨⟨HAL.out.symm, hA1, hc1⟩, Sr.row 2 rfl⟩
    · exact ⟨⟨(Lg.be_len _ _).symm, hA7, hc7⟩, Sr.row 1 rfl⟩
    · exact ⟨⟨HN.out, hB, hd⟩, ((hb.cons _).cons _).cons _⟩
  · show (a ++ (Lg.be s 4 ++ (b ++ []))).length < _
    rw [← HR.out, HRL.out]
    omega
  rintro e w9 ⟨v9, rfl, H9⟩
  change St w0 w9 M (er 5 1 v9 (a ++ (Lg.be s 4 ++ (b ++ []))).length (bv (a ++ (Lg.be s 4 ++ (b ++ [])))) :: _) at H9
  rw [← HR.out, HRL.out] at H9
  go_wp2
  go_ret
  exact ⟨_, rfl, H9.d1.d1.d1⟩
end
end Go.Proofs.Ytpomjaidaignpaa
