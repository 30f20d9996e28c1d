/- The contract of the reference's Derive. -/
import Derived.Test.YtcdljlaoedaliaaDoorMr
import Derived.Test.YtcdljlaoedaliaaDoorMd
set_option linter.unusedVariables false
set_option linter.unusedSimpArgs false
namespace Go.Proofs.YtcdljlaoedaliaaDoor
open Go.RowKit Wd
section
variable {w0 w : World} {M : Mem} {L : List Ent}
set_option maxRecDepth 100000 in
set_option maxHeartbeats 2000000 in
theorem rderive_any (H : St w0 w M L) {A : Option Addr} {c : Nat} {k lb : List UInt8} (hA : A = none → c = 0) (hc : k.length ≤ c) (hk : Sr w0 M L A k) (hn : k.length < 1000000) (hbn : lb.length < 1000000) (N : Nat) (hN : N ≤ 1024) :
    Calls Tryd.prog 88 #[.slice A k.length c, .string ⟨lb.toArray⟩, .int .i64 (N : Int)] w (RetBytes w0 M L (Mac.derive k lb N) .returned) := by
  have H1 := H.lit0 5
  go_enter Tryd.func88, Tryd.ntmps88
  go_wp2
  go_loopw [7, 8] (fun v i wr => ∃ (m q : Nat) (T : List UInt8), m ≤ 32 ∧ (32 * m < N + 32) ∧ T = (Mac.stream k lb m).take N ∧ q = m + 1 ∧ i = .int .i64 q ∧ St w0 wr M (er 5 1 v T.length (bv T) :: L)) (fun _ i _ => 34 - (intOf i).toNat)
  case atStart => exact ⟨0, 1, [], by omega, by omega, by simp [Mac.stream], rfl, rfl, H1⟩
  case round =>
    obtain ⟨m, q, T, hm, hmN, hT, hq, rfl, H2⟩ := hrel
    clear H1
    obtain ⟨A1, c1, rfl, hc1, hA1⟩ := H2.shape' 0 rfl
    have hTl : T.length = min N (32 * m) := by rw [hT, List.length_take, Mac.stream_len]
    by_cases hlt : T.length < N
    · have hltI : (T.length : Int) < (N : Int) := by omega
      have hTs : T = Mac.stream k lb m := by rw [hT]; exact List.take_of_length_le (by rw [Mac.stream_len]; omega)
      have hT32 : T.length = 32 * m := by rw [hTs, Mac.stream_len]
      obtain ⟨x, hx⟩ : ∃ x : UInt8, x = UInt8.ofNat (m + 1) := ⟨_, rfl⟩
      have hxq : x.toNat = q := by rw [hx, UInt8.toNat_ofNat']; omega
      subst hxq
      have hq33 : (x.toNat : Int) ≤ 33 := by omega
      have hq64 : (x.toNat : Int) < 64 := by omega
      have hq0 : x.toNat = m + 1 := hq
      have HC := Lib.hid (show T.length < N ∧ x.toNat = m + 1 ∧ T.length = 32 * m ∧ x = UInt8.ofNat (m + 1) ∧ T = Mac.stream k lb m ∧ m ≤ 32 from ⟨hlt, hq, hT32, hx, hTs, hm⟩)
      clear hlt hq hT32 hx hTs hTl hT hm hmN hq0
      have H3 := H2.lit0 5
      go_wp2_with (at_builtin; refine wpList_append_str_st H3 (by rfl) (.tmp 23) (.tmp 24) 42 9 (by rfl) Tryd.info5 Tryd.underlying42 Tryd.underlying9 (by rfl) lb (by rfl) (by omega) ?_)
      intro v4 w4 H4
      try simp only [Nat.zero_add, List.nil_append] at H4
      have H5 := H4.lit (bv [0, x]) 5 (by show 2 ≤ maxLen; decide)
      go_wp2_with (at_builtin; refine wpList_append_st H5.f1 (by rfl) (.tmp 25) (.tmp 28) 42 (by rfl) Tryd.info5 Tryd.underlying42 (by rfl) (some ⟨w4.heap.size, 0, none⟩) 2 2 [0, x] (by rfl) rfl (by rintro ⟨⟩) (er_RB (H5.get 0 rfl)) (by omega) ?_)
      intro v5 w5 H6
      rw [← bv_append] at H6
      obtain ⟨A3, c3, rfl, hc3, hA3⟩ := H6.shape' 0 rfl
      have hbl : (lb ++ [0, x]).length = lb.length + 2 := by simp
      rw [← hbl] at H6
      have hmc := rmac_any H6 hA (((hk.cons _).cons _).cons _) (by omega) hc (B := A3) (d := c3) (b := lb ++ [0, x]) hA3 (Sr.row 0 rfl) (by omega)
      rw [hbl] at hmc
      obtain ⟨D, hD⟩ : ∃ D, D = Mac.mac k (lb ++ [0, x]) := ⟨_, rfl⟩
      rw [← hD] at hmc
      have hdl : (bv D).length = 32 := by rw [bv_length, hD, Mac.mac_len]
      have hdl' : D.length = 32 := by rw [hD, Mac.mac_len]
      have HD := Lib.hid hD
      have HMC := Lib.hid hmc
      have HDL := Lib.hid hdl'
      clear hD hmc hdl' hbl H3 H4 H5
      go_wp2_with fail
      refine HMC.out.mono ?_
      rintro e w6 ⟨rfl, H7⟩
      have H8 := H7.d0.d0.new (bv (List.replicate 32 0)) 40
      obtain ⟨w7, hst, H9⟩ := run_store_st (P := Tryd.prog) H8 (cs := bv D) (by rw [hdl, bv_length, List.length_replicate]) (bv_one _)
      rw [← obj32] at hst
      clear H6 H7 H8 HMC H2
      have H10 : St w0 w7 M (er 5 1 (.slice A1 T.length c1) (T.length + 0) (bv (T ++ D.take 0)) :: eb w6.heap.size 40 (bv D) :: L) := by
        rw [List.take_zero, List.append_nil]
        exact H9.f1
      clear H9
      go_wp2
      clear hst
      generalize w6.heap.size = g6 at *
      go_loopw [7, 10] (fun v i wr => ∃ j : Nat, j ≤ 32 ∧ T.length + j ≤ N ∧ i = .int .i64 j ∧ St w0 wr M (er 5 1 v (T.length + j) (bv (T ++ D.take j)) :: eb g6 40 (bv D) :: L)) (fun _ i _ => 32 - (intOf i).toNat)
      case atStart => exact ⟨0, by omega, by omega, rfl, H10⟩
      case round =>
        obtain ⟨j, hj, hjN, rfl, H7⟩ := hrel
        clear H10
        obtain ⟨A4, c4, rfl, hc4, hA4⟩ := H7.shape' 0 rfl
        have hel := HDL.out
        obtain ⟨J, hJ⟩ : ∃ J, J = T.length + j := ⟨_, rfl⟩
        rw [← hJ] at H7 hjN hc4 ⊢
        by_cases hgo : j < 32 ∧ J < N
        · obtain ⟨hlt, hJN⟩ := hgo
          obtain ⟨y, hy⟩ : ∃ y, y = D[j]'(by omega) := ⟨_, rfl⟩
          have hs : T ++ D.take j ++ [y] = T ++ D.take (j + 1) := by rw [List.take_succ_eq_append_getElem (by omega), hy, List.append_assoc]
          have c0 : wr.cell? ⟨g6, j, none⟩ = some (.int .u8 (y.toNat : Int)) := by rw [H7.cell 1 rfl j, bv_get, List.getElem?_eq_getElem (by omega), hy]; rfl
          have HS := Lib.hid hs
          have HLT := Lib.hid (show j < 32 ∧ J < N ∧ J = T.length + j from ⟨hlt, hJN, hJ⟩)
          have hj1 : (j : Int) < 32 := by omega
          have hj2 : (J : Int) < (N : Int) := by omega
          clear hy hs hel hj hlt hdl hJ hJN hjN
          have H8 := H7.lit (bv [y]) 5 (by show 1 ≤ maxLen; decide)
          go_wp2_with (at_builtin; refine wpList_append_st H8.f1 (by rfl) (.tmp 41) (.tmp 45) 42 (by rfl) Tryd.info5 Tryd.underlying42 (by rfl) (some ⟨wr.heap.size, 0, none⟩) 1 1 [y] (by rfl) rfl (by rintro ⟨⟩) (er_RB (H8.get 0 rfl)) (by omega) ?_)
          intro v11 w11 H11
          have H12 := H11.d1
          obtain ⟨k1, k2, k3⟩ := HLT.out
          rw [← bv_append, HS.out, show J + 1 = T.length + (j + 1) from by omega] at H12
          have b1 : T.length + (j + 1) ≤ N := by omega
          clear H8 H7 H11 k3
          go_wp2
          exact ⟨⟨j + 1, by omega, b1, by go_num, H12⟩, by simp [intOf]; omega⟩
        · have hx2 : ¬ j < 32 ∨ (j < 32 ∧ ¬ J < N) := by omega
          have hE : T ++ D.take j = (Mac.stream k lb (m + 1)).take N := by
            obtain ⟨k1, k2, k3, k4, k5, k6⟩ := HC.out
            have e1 : Mac.stream k lb (m + 1) = T ++ D := by rw [Mac.stream_succ, ← k5, HD.out, k4]; rfl
            rw [e1]
            by_cases h32 : j < 32
            · rw [show N = T.length + j from by omega, List.take_length_add_append]
            · rw [List.take_of_length_le (by omega), List.take_of_length_le (by rw [List.length_append]; omega)]
          have hEl : (T ++ D.take j).length = J := by rw [List.length_append, List.length_take, hel, hJ]; omega
          have HE := Lib.hid (show _ ∧ _ ∧ J = T.length + j ∧ j ≤ 32 ∧ (j < 32 → N ≤ J) from ⟨hE, hEl, hJ, hj, by omega⟩)
          rw [← hEl] at H7
          have hq34 : x.toNat < 34 := by omega
          have hx3 : (¬ (j : Int) < 32) ∨ ((j : Int) < 32 ∧ ¬ (J : Int) < (N : Int)) := by omega
          obtain ⟨T2, hT2⟩ : ∃ T2, T2 = T ++ D.take j := ⟨_, rfl⟩
          rw [← hT2] at H7
          have HT2 := Lib.hid hT2
          clear hE hEl hJ hjN hj hel hgo hx2 hdl hT2
          rcases hx3 with hx3 | ⟨hx3, hx4⟩
          all_goals
            go_wp2
            obtain ⟨k1, k2, k3, k4, k5, k6⟩ := HC.out
            obtain ⟨e1, e2, e3, e4, e5⟩ := HE.out
            have e6 := HT2.out
            exact ⟨⟨m + 1, x.toNat + 1, T2, by omega, by omega, by rw [e6, e1], by omega, by go_num, by rw [show T2.length = J from by rw [e6, e2]]; rw [show T2.length = J from by rw [e6, e2]] at H7; exact H7.d1⟩, by simp [intOf]; omega⟩
    · have hge : ¬ (T.length : Int) < (N : Int) := by omega
      have hTN : T.length = N := by omega
      have hTd : T = Mac.derive k lb N := by
        rw [hT]
        unfold Mac.derive
        by_cases h : m = (N + 31) / 32
        · rw [h]
        · exfalso
          omega
      have HTD := Lib.hid hTd
      obtain ⟨M', hM', H3, hin⟩ := H2.keepRow
      have HTN := Lib.hid (show T.length = N ∧ T.length ≤ c1 from ⟨hTN, hc1⟩)
      have HA1 := Lib.hid hA1
      clear hT hTl hlt hTN hTd hmN hm H2 hq hA1 hc1
      go_wp2
      go_ret
      obtain ⟨k1, k2⟩ := HTN.out
      exact ⟨A1, c1, M', by rw [← HTD.out]; rfl, by rw [← HTD.out]; exact k2, HA1.out, hM', by rw [← HTD.out]; exact hin, H3⟩
end
end Go.Proofs.YtcdljlaoedaliaaDoor
