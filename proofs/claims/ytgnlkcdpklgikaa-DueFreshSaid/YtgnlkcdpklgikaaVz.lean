/- DueFresh walked. -/
import Derived.Test.YtgnlkcdpklgikaaVy
set_option linter.unusedVariables false
set_option linter.unusedSimpArgs false
namespace Go.Proofs.Ytgnlkcdpklgikaa
open Go.RowKit Wd Go.Sort
open Du (Due)
section
set_option maxRecDepth 100000 in
set_option maxHeartbeats 4000000 in
theorem dueFresh_any {w : World} {A : Option Addr} {c n : Nat} {l : List Due} (hr : RA w A (dcs l)) (hn : n = l.length) (hA : A = none → c = 0) (k : Int) (x0 x1 : UInt8) :
    Calls Try.prog 5 #[.slice A n c, .int .i64 k, .agg #[.int .u8 (x0.toNat : Int), .int .u8 (x1.toNat : Int)]] w fun e w' => e = .returned (.bool true) ∧ Below w.heap.size w w' := by
  have H0 := St.start w
  have sA0 : SrA w _ [] A (dcs l) := SrA.of_in (In.oldRA H0 hr)
  have H := H0.new [.int .u8 (x0.toNat : Int), .int .u8 (x1.toNat : Int)] 37
  have s0 := sA0.cons (eb w.heap.size 37 [.int .u8 (x0.toNat : Int), .int .u8 (x1.toNat : Int)])
  clear sA0 H0
  have aw : ∀ w' L', St w w' (w.heap[·]?) L' → Calls Try.prog 7 #[] w' fun e w' => e = .returned (.bool true) ∧ St w w' (w.heap[·]?) L' := fun w' L' H => awake26_any H
  have AW := Lib.hid aw
  clear aw
  by_cases h2 : 200 < n
  · have q1 : (200 : Int) < (n : Int) := by omega
    clear h2
    go_enter Try.func5, Try.ntmps5
    go_wp2_with fail
    refine (AW.out _ _ H).mono ?_
    rintro e w1 ⟨rfl, H1⟩
    go_wp2
    go_ret
    exact ⟨rfl, H1.below⟩
  · have q1 : ¬ (200 : Int) < (n : Int) := by omega
    have hn2 : n ≤ 200 := by omega
    have hmay := rmay_any (c := c) H hn (by omega) s0
    have HMAYC := Lib.hid hmay
    have HN := Lib.hid hn
    have HA := Lib.hid hA
    clear hmay hn hA h2
    go_enter Try.func5, Try.ntmps5
    go_wp2_with fail
    refine HMAYC.out.mono ?_
    rintro e w1 ⟨bm, rfl, hbm, H1⟩
    cases bm with
    | false =>
      clear hbm
      go_wp2_with fail
      refine (AW.out _ _ H1).mono ?_
      rintro e w2 ⟨rfl, H2⟩
      go_wp2
      go_ret
      exact ⟨rfl, H2.below⟩
    | true =>
      have HMAY := Lib.hid (hbm.1 rfl)
      clear hbm
      have hcase : k < 1 ∨ (¬ k < 1 ∧ 64 < k) ∨ (¬ k < 1 ∧ ¬ 64 < k) := by omega
      rcases hcase with z1 | ⟨z1, z2⟩ | ⟨z1, z2⟩
      · go_wp2_with fail
        refine (AW.out _ _ H1).mono ?_
        rintro e w2 ⟨rfl, H2⟩
        go_wp2
        go_ret
        exact ⟨rfl, H2.below⟩
      · go_wp2_with fail
        refine (AW.out _ _ H1).mono ?_
        rintro e w2 ⟨rfl, H2⟩
        go_wp2
        go_ret
        exact ⟨rfl, H2.below⟩
      · obtain ⟨K, rfl⟩ : ∃ K : Nat, k = (K : Int) := ⟨k.toNat, by omega⟩
        have hK : 1 ≤ K ∧ K ≤ 64 := by omega
        have HK := Lib.hid hK
        have q3 : ¬ K < 1 := by omega
        have q3m : ¬ K = 0 := by omega
        have c0 := H1.cell 0 rfl 0
        simp only [List.getElem?_cons_zero] at c0
        obtain ⟨G, hG⟩ : ∃ G, G = x0.toNat % 20 := ⟨_, rfl⟩
        have hG20 : G < 20 := by omega
        have eG : (x0.toNat : Int) % 20 = (G : Int) := by omega
        have eGt : (x0.toNat : Int).tmod 20 = (G : Int) := by rw [Int.tmod_eq_emod_of_nonneg (by omega)]; exact eG
        have wG : IntKind.u8.wrap (G : Int) = (G : Int) := by rw [IntKind.wrap_u8]; omega
        have wG2 : IntKind.i64.wrap (1 + (G : Int)) = 1 + (G : Int) := by rw [IntKind.wrap_i64]; omega
        clear hK hG
        go_wp2
        go_loopw [9] (fun i wr => ∃ i' : Nat, i' ≤ n ∧ i = .int .i64 i' ∧ wr = w1) (fun i _ => n - (intOf i).toNat)
        case atStart => exact ⟨0, by omega, rfl, rfl⟩
        case round =>
          obtain ⟨i, hi, rfl, rfl⟩ := hrel
          by_cases hlt : i < n
          · have hi1 : i < l.length := by have := HN.out; omega
            obtain ⟨b, o, rfl, hrg⟩ := RA.at3 (s0.now H1) i hi1
            have c2 := hrg 2 _ rfl
            obtain ⟨y, hy⟩ : ∃ y, y = l[i] := ⟨_, rfl⟩
            rw [← hy] at c2
            have r1 : (i : Int) < (n : Int) := by omega
            have HLT := Lib.hid hlt
            clear hrg hy hi1 hlt
            by_cases h1000 : 1000 < y.a
            · go_wp2_with fail
              refine (AW.out _ _ H1).mono ?_
              rintro e w2 ⟨rfl, H2⟩
              go_wp2
              go_ret
              exact ⟨rfl, H2.below⟩
            · go_wp2
              exact ⟨⟨i + 1, by have := HLT.out; omega, by go_num, trivial⟩, by have := HLT.out; simp [intOf]; omega⟩
          · obtain rfl : i = n := by omega
            clear hlt hi
            obtain ⟨N1, hN1⟩ : ∃ N, N = x1.toNat % 60 := ⟨_, rfl⟩
            have hN60 : N1 < 60 := by omega
            have eN : (x1.toNat : Int) % 60 = (N1 : Int) := by omega
            have eNt : (x1.toNat : Int).tmod 60 = (N1 : Int) := by rw [Int.tmod_eq_emod_of_nonneg (by omega)]; exact eN
            have wN : IntKind.u8.wrap (N1 : Int) = (N1 : Int) := by rw [IntKind.wrap_u8]; omega
            have wN2 : IntKind.i64.wrap ((N1 : Int) + 1) = (N1 : Int) + 1 := by rw [IntKind.wrap_i64]; omega
            have hinv0 : Du.Inv 0 K l := Du.inv_start fun d hd => by
              obtain ⟨j, hj, rfl⟩ := List.getElem_of_mem hd
              exact (HMAY.out.1 j hj hj).1.2.2.1
            have HINV0 := Lib.hid hinv0
            clear hN1 hinv0
            go_wp2
            go_loopw [0, 8, 10] (fun v now t wr => ∃ (A' : Option Addr) (c' q : Nat) (l' : List Due) (F : List Ent), v = .slice A' i c' ∧ q ≤ N1 + 1 ∧ now = .int .i64 q ∧ t = .int .i64 q ∧ (A' = none → c' = 0) ∧ i = l'.length ∧ Du.May l' ∧ Du.Inv q K l' ∧ SrA w (w.heap[·]?) F A' (dcs l') ∧ eb w.heap.size 37 [.int .u8 (x0.toNat : Int), .int .u8 (x1.toNat : Int)] ∈ F ∧ St w wr (w.heap[·]?) F) (fun _ _ t _ => N1 + 1 - (intOf t).toNat)
            case atStart => exact ⟨A, c, 0, l, _, rfl, by omega, rfl, rfl, HA.out, HN.out, HMAY.out, HINV0.out, s0, by simp, H1⟩
            case round =>
              obtain ⟨A', c', q, l', F, rfl, hq, rfl, rfl, hA', hn', hmay', hinv', hs', hbx, H2⟩ := hrel
              have HBX := Lib.hid hbx
              have HA' := Lib.hid hA'
              have HN' := Lib.hid hn'
              have HMAY' := Lib.hid hmay'
              have HINV' := Lib.hid hinv'
              have cx := (H2.blkm hbx).cell 1
              simp only [List.getElem?_cons_succ, List.getElem?_cons_zero] at cx
              clear hbx hA' hn' hmay' hinv' c0
              by_cases hgo : q < N1 + 1
              · have r2 : (q : Int) < (N1 : Int) + 1 := by omega
                have HGO := Lib.hid hgo
                have hpick := pick_any (c := c') H2 HN'.out (by omega) HA'.out hs' (q : Int) (K : Int)
                have HP := Lib.hid hpick
                have htm : Du.time (q : Int) := by unfold Du.time; omega
                have HTM := Lib.hid htm
                clear hpick hgo htm
                go_wp2_with fail
                refine HP.out.mono ?_
                rintro e w2 (⟨v, R, -, -, -, -, hR, rfl, H3⟩ | ⟨hno, -, -⟩)
                · have hR' : R = Du.refP K (fun y => !decide ((q : Int) < y.a)) none l' := by rw [Int.toNat_natCast] at hR; exact hR
                  have hRl : R.length ≤ 12800 := by
                    have h1 := Du.refP_len K (fun y => !decide ((q : Int) < y.a)) l' none
                    rw [← hR', ← HN'.out] at h1
                    have h2 : K * i ≤ 64 * 200 := Nat.mul_le_mul HK.out.2 hn2
                    omega
                  obtain ⟨A3, c3, rfl, hc3⟩ := H3.shape 0 rfl
                  have HR := Lib.hid hR'
                  have hs3 := hs'.cons (er 40 3 (.slice A3 R.length c3) R.length (dcs R))
                  have hdone := done_any (c := c') (d := c3) H3 HN'.out (by omega) HA'.out hs3 (rfl : R.length = R.length) (by omega) (SrA.row 0 rfl) (q : Int) (1 + (G : Int))
                  have HD := Lib.hid hdone
                  have hms := fun h => Du.done_may (now := (q : Int)) (gap := 1 + (G : Int)) (ps := R) HMAY'.out HTM.out h
                  have hinv2 : Du.Inv ((q : Int) + 1) K (Du.done (q : Int) (1 + (G : Int)) R l') := by
                    rw [hR']
                    exact Du.inv_step HMAY'.out.1.pair (by omega) (by omega) HINV'.out
                  have HINV2 := Lib.hid hinv2
                  have HMS := Lib.hid (hms (by omega))
                  clear hR hR' hdone hinv2 hms HP H2
                  go_wp2
                  go_loopw [13] (fun j wr => ∃ j' : Nat, j' ≤ i ∧ j = .int .i64 j' ∧ wr = w2) (fun j _ => i - (intOf j).toNat)
                  case atStart => exact ⟨0, by omega, rfl, rfl⟩
                  case round =>
                    obtain ⟨j, hj, rfl, rfl⟩ := hrel
                    by_cases hlt : j < i
                    · have hj1 : j < l'.length := by have := HN'.out; omega
                      obtain ⟨b, o, rfl, hrg⟩ := RA.at3 (hs3.now H3) j hj1
                      have d0 := hrg 0 _ rfl
                      have d2 := hrg 2 _ rfl
                      rw [Nat.add_zero] at d0
                      have hcnt := fun T => count_any (c := c') H3 HN'.out (by omega) hs3 T
                      have hfr := Du.fresh HK.out.1 HINV'.out (List.getElem_mem hj1)
                      have hpos : 1 ≤ (Du.of (l'[j]).t l').length := List.length_pos_of_mem (List.mem_filter.2 ⟨List.getElem_mem hj1, by simp⟩)
                      have hle : (Du.of (l'[j]).t l').length ≤ i := by rw [HN'.out]; exact List.length_filter_le _ _
                      obtain ⟨y, hy⟩ : ∃ y, y = l'[j] := ⟨_, rfl⟩
                      rw [← hy] at d0 d2 hfr hpos hle
                      have hcnt := hcnt y.t
                      obtain ⟨C, hC⟩ : ∃ C, C = (Du.of y.t l').length := ⟨_, rfl⟩
                      rw [← hC] at hcnt hfr hpos hle
                      obtain ⟨Q, hQ⟩ : ∃ Q, Q = (C + K - 1) / K := ⟨_, rfl⟩
                      rw [← hQ] at hfr
                      have hQ1 : 1 ≤ Q := by rw [hQ]; exact (Nat.le_div_iff_mul_le (by have := HK.out; omega)).2 (by have := HK.out; omega)
                      have hQ2 : Q ≤ 264 := by rw [hQ]; exact Nat.le_trans (Nat.div_le_self _ _) (by have := HK.out; omega)
                      have hQi : ((C : Int) + (K : Int) - 1) / (K : Int) = (Q : Int) := by
                        rw [show (C : Int) + (K : Int) - 1 = ((C + K - 1 : Nat) : Int) from by omega, hQ]
                        exact (Int.natCast_ediv _ _).symm
                      have hQt : ((C : Int) + (K : Int) - 1).tdiv (K : Int) = (Q : Int) := by
                        rw [Int.tdiv_eq_ediv_of_nonneg (by omega)]
                        exact hQi
                      have wS : IntKind.i64.wrap ((C : Int) + (K : Int)) = (C : Int) + (K : Int) := by rw [IntKind.wrap_i64]; have := HK.out; omega
                      have wS1 : IntKind.i64.wrap ((C : Int) + (K : Int) - 1) = (C : Int) + (K : Int) - 1 := by rw [IntKind.wrap_i64]; have := HK.out; omega
                      have wQ : IntKind.i64.wrap (Q : Int) = (Q : Int) := by rw [IntKind.wrap_i64]; omega
                      have wQ1 : IntKind.i64.wrap ((Q : Int) - 1) = (Q : Int) - 1 := by rw [IntKind.wrap_i64]; omega
                      have wq : IntKind.i64.wrap ((q : Int) - ((Q : Int) - 1)) = (q : Int) - ((Q : Int) - 1) := by rw [IntKind.wrap_i64]; omega
                      have hno : ¬ y.a < (q : Int) - ((Q : Int) - 1) := by
                        have e : (((Q - 1 : Nat)) : Int) = (Q : Int) - 1 := by omega
                        rw [e] at hfr
                        exact hfr
                      have kz : ¬ (K : Int) = 0 := by have := HK.out; omega
                      have HCNT := Lib.hid hcnt
                      have HLT := Lib.hid hlt
                      have r3 : (j : Int) < (i : Int) := by omega
                      clear hrg hcnt hfr hpos hle hy hC hQ hj1 hlt
                      go_wp2_with fail
                      refine HCNT.out.mono ?_
                      rintro e w3 ⟨rfl, rfl⟩
                      go_wp2
                      exact ⟨⟨j + 1, by have := HLT.out; omega, by go_num, trivial⟩, by have := HLT.out; simp [intOf]; omega⟩
                    · obtain rfl : j = i := by omega
                      clear hlt hj
                      go_wp2_with fail
                      refine HD.out.mono ?_
                      rintro e w4 (⟨v2, -, -, -, -, rfl, H4⟩ | ⟨hno, -, -⟩)
                      · rw [← HN'.out] at H4
                        obtain ⟨A4, c4, rfl, hc4, hA4⟩ := H4.shape' 0 rfl
                        have HGO2 := HGO
                        have hA5 := Lib.hid hA4
                        clear hA4 HD
                        go_wp2
                        exact ⟨⟨A4, c4, q + 1, Du.done (q : Int) (1 + (G : Int)) R l', _, rfl, by have := HGO2.out; omega, by go_num, by go_num, hA5.out, by rw [HN'.out]; simp [Du.done], HMS.out, by rw [show ((q + 1 : Nat) : Int) = (q : Int) + 1 from by omega]; exact HINV2.out, SrA.row 0 rfl, List.mem_cons_of_mem _ (List.mem_cons_of_mem _ HBX.out), H4⟩, by have := HGO2.out; simp [intOf]; omega⟩
                      · exact absurd ⟨HMAY'.out, HTM.out, by omega, by omega⟩ hno
                · exact absurd ⟨HMAY'.out, HTM.out, by have := HK.out; omega, by have := HK.out; omega⟩ hno
              · obtain rfl : q = N1 + 1 := by omega
                have r2 : ¬ ((N1 + 1 : Nat) : Int) < (N1 : Int) + 1 := by omega
                clear hgo
                go_wp2_with fail
                refine (AW.out _ _ H2).mono ?_
                rintro e w2 ⟨rfl, H3⟩
                go_wp2
                go_ret
                exact ⟨rfl, H3.below⟩
end
end Go.Proofs.Ytgnlkcdpklgikaa
