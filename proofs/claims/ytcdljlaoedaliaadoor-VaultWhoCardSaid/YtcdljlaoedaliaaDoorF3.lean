/- VaultGone walked. -/
import Derived.Test.YtcdljlaoedaliaaDoorF2
import Derived.Test.YtcdljlaoedaliaaDoorT6
import Derived.Test.YtcdljlaoedaliaaDoorEa
set_option linter.unusedVariables false
set_option linter.unusedSimpArgs false
namespace Go.Proofs.YtcdljlaoedaliaaDoor
open Go.RowKit Wd
open Va (Acc)
theorem rsec_any (s : ByteArray) (w : World) : Calls Tryd.prog 18 #[.string s] w fun e w' => e = .returned (.bool (decide (secretErr s.size = 0))) ∧ w' = w := by
  unfold secretErr
  by_cases h1 : s.size < 8
  · rw [if_pos h1]
    have q : ¬ (8 : Int) ≤ (s.size : Int) := by omega
    go_enter Tryd.func18, Tryd.ntmps18
    go_wp2
    go_ret
    exact ⟨rfl, rfl⟩
  · rw [if_neg h1]
    have q : (8 : Int) ≤ (s.size : Int) := by omega
    by_cases h2 : 128 < s.size
    · rw [if_pos h2]
      have q2 : ¬ (s.size : Int) ≤ 128 := by omega
      clear h1 h2
      go_enter Tryd.func18, Tryd.ntmps18
      go_wp2
      go_ret
      exact ⟨rfl, rfl⟩
    · rw [if_neg h2]
      have q2 : (s.size : Int) ≤ 128 := by omega
      clear h1 h2
      go_enter Tryd.func18, Tryd.ntmps18
      go_wp2
      go_ret
      exact ⟨rfl, rfl⟩
theorem sec_len {n : Nat} (h : secretErr n = 0) : n ≤ 128 := by
  unfold secretErr at h
  split at h
  · omega
  · split at h
    · omega
    · omega
theorem conv_keep {w0 w : World} {M : Mem} {L : List Ent} (H : St w0 w M L) (q : List UInt8) (hq : q.length ≤ 100000) :
    ∃ g c w' M', (convert 9 42 (.string (str q))).run Tryd.prog w = .ok (.slice (some ⟨g, 0, none⟩) q.length c) w' ∧ M.le M' ∧ St w0 w' M' L ∧ In M' (RB · (some ⟨g, 0, none⟩) q) := by
  obtain ⟨g2, c2, w2, hcv, hlc, hcm, H3⟩ := conv_st (P := Tryd.prog) (src := 9) (dst := 42) H Tryd.underlying9 Tryd.underlying42 Tryd.underlying5 q (by omega)
  obtain ⟨M', hM', H4, hin⟩ := H3.keepm (l := q) (by rw [List.take_append_of_le_length (by rw [bv_length]; exact Nat.le_refl _), bv_take, List.take_length])
  exact ⟨g2, c2, w2, M', hcv, hM', H4, hin⟩
theorem mac_call {w0 w : World} {M : Mem} {L : List Ent} {g g2 c2 : Nat} {ty : TypeId} {X : List Value} {salt q : List UInt8} (H : St w0 w M (eb g ty X :: L)) (hX : (X.drop 1).take 16 = bv salt) (hs : salt.length = 16) (hq : q.length ≤ 100000) (hin : In M (RB · (some ⟨g2, 0, none⟩) q)) :
    Calls Tryd.prog 21 #[.slice (some ⟨g, 1, none⟩) 16 16, .slice (some ⟨g2, 0, none⟩) q.length c2] w fun e w' => e = .returned (.agg (bv (Mac.mac salt q)).toArray) ∧ St w0 w' M (eb g ty X :: L) := by
  have h := rmac_any H (A := some ⟨g, 1, none⟩) (c := 16) (k := salt) (by rintro ⟨⟩) (Sr.blk 0 rfl (by rw [hs]; exact hX)) (by rw [hs]; decide) (by rw [hs]; exact Nat.le_refl _) (B := some ⟨g2, 0, none⟩) (d := c2) (b := q) (by rintro ⟨⟩) (Sr.of_in hin) (by omega)
  rw [hs] at h
  exact h
section
set_option maxRecDepth 100000 in
set_option maxHeartbeats 8000000 in
theorem vaultGone_any {w : World} (ht : Tabs w) {A : Option Addr} {c n : Nat} {l : List Acc} (hr : RA w A (acs l)) (hn : n = l.length) (hA : A = none → c = 0) (hnc : n ≤ c) (t : Nat) (salt s next : List UInt8) (hs : salt.length = 16) :
    Calls Tryd.prog 4 #[.slice A n c, .agg (turnC t salt s).toArray, .string (str next)] w fun e w' => e = .returned (.bool true) ∧ Below w.heap.size w w' := by
  have H0 := St.start w
  have sA : ∀ F, SrA w (w.heap[·]?) F A (acs l) := fun F => SrA.of_in (In.oldRA H0 hr)
  have H1 := H0.new (turnC t salt s) 26
  have aw : ∀ w' L', St w w' (w.heap[·]?) L' → Calls Tryd.prog 8 #[] w' fun e w' => e = .returned (.bool true) ∧ St w w' (w.heap[·]?) L' := fun w' L' H => awake22_any ht H
  have AW := Lib.hid aw
  have HXL := turnC_len t salt s hs
  have hXs := turnC_salt t salt s hs
  have hXt := turnC_str t salt s hs
  have hX0 : (turnC t salt s)[0]? = some (.int .u64 (t : Int)) := rfl
  obtain ⟨X, hX⟩ : ∃ X, X = turnC t salt s := ⟨_, rfl⟩
  rw [← hX] at H1 HXL hXs hXt hX0 ⊢
  have g0 : ∀ W F, St w W (w.heap[·]?) (eb w.heap.size 26 X :: F) → W.cell? ⟨w.heap.size, 0, none⟩ = some (.int .u64 (t : Int)) ∧ W.cell? ⟨w.heap.size, 17, none⟩ = some (.string (str s)) ∧ W.rangeAt w.heap.size 1 (bv salt) := fun W F H =>
    ⟨(H.cell 0 rfl 0).trans hX0, (H.cell 0 rfl 17).trans hXt, (H.blk 0 rfl).range 1 16 _ hXs⟩
  have G0 := Lib.hid g0
  have hsl : (bv salt).length = 16 := by rw [bv_length, hs]
  have HSL := Lib.hid hsl
  have HXS := Lib.hid hXs
  have HN := Lib.hid hn
  have HA := Lib.hid hA
  obtain ⟨c0, c17, -⟩ := g0 _ _ H1
  have hss := fun W => rsec_any (str s) W
  have hsx := fun W => rsec_any (str next) W
  rw [str_size] at hss hsx
  obtain ⟨b1, hb1⟩ : ∃ b, b = decide (secretErr s.length = 0) := ⟨_, rfl⟩
  obtain ⟨b2, hb2⟩ : ∃ b, b = decide (secretErr next.length = 0) := ⟨_, rfl⟩
  rw [← hb1] at hss
  rw [← hb2] at hsx
  have HSS := Lib.hid hss
  have HSX := Lib.hid hsx
  have HB1 := Lib.hid hb1
  have HB2 := Lib.hid hb2
  clear aw hX hXs hXt hX0 g0 hsl H0 hn hA hss hsx hb1 hb2
  by_cases h40 : 40 < n
  · have q1 : (40 : Int) < (n : Int) := by omega
    clear h40
    go_enter Tryd.func4, Tryd.ntmps4
    go_wp2_with fail
    refine (AW.out _ _ H1).mono ?_
    rintro e w1 ⟨rfl, H2⟩
    go_wp2
    go_ret
    exact ⟨rfl, H2.below⟩
  · have q1 : ¬ (40 : Int) < (n : Int) := by omega
    have hn2 : n ≤ 40 := by omega
    clear h40
    have hma := rmay_any (c := c) H1 HN.out (by omega) (sA _)
    have hfi := fun W F (H : St w W (w.heap[·]?) F) => rfind_any (c := c) H HN.out (by omega) (sA F) t
    have HMA := Lib.hid hma
    have HFI := Lib.hid hfi
    clear hma hfi
    go_enter Tryd.func4, Tryd.ntmps4
    go_wp2_with fail
    refine HMA.out.mono ?_
    rintro e w1 ⟨bm, rfl, hbm, H2⟩
    clear HMA H1 c0 c17
    obtain ⟨c0, c17, -⟩ := G0.out _ _ H2
    cases bm with
    | false =>
      clear hbm
      go_wp2_with fail
      refine (AW.out _ _ H2).mono ?_
      rintro e w1 ⟨rfl, H3⟩
      go_wp2
      go_ret
      exact ⟨rfl, H3.below⟩
    | true =>
      have hmay := hbm.1 rfl
      have HMAY := Lib.hid hmay
      clear hbm hmay
      go_wp2_with fail
      refine (HSS.out _).mono ?_
      rintro e w2 ⟨rfl, rfl⟩
      cases b1 with
      | false =>
        go_wp2_with fail
        refine (AW.out _ _ H2).mono ?_
        rintro e w1 ⟨rfl, H3⟩
        go_wp2
        go_ret
        exact ⟨rfl, H3.below⟩
      | true =>
        have he1 : secretErr s.length = 0 := of_decide_eq_true HB1.out.symm
        have HE1 := Lib.hid he1
        clear he1
        go_wp2_with fail
        refine (HSX.out _).mono ?_
        rintro e w3 ⟨rfl, rfl⟩
        cases b2 with
        | false =>
          go_wp2_with fail
          refine (AW.out _ _ H2).mono ?_
          rintro e w1 ⟨rfl, H3⟩
          go_wp2
          go_ret
          exact ⟨rfl, H3.below⟩
        | true =>
          have he2 : secretErr next.length = 0 := of_decide_eq_true HB2.out.symm
          have HE2 := Lib.hid he2
          clear he2
          go_wp2_with fail
          refine (HFI.out _ _ H2).mono ?_
          rintro e w4 ⟨⟨i, hi, rfl, he⟩ | ⟨rfl, hno⟩, H3⟩
          · have hhas : Va.has t l = true := by
              unfold Va.has
              rw [List.any_eq_true]
              exact ⟨l[i], List.getElem_mem hi, by simpa using he⟩
            have i0 : ¬ (i : Int) < 0 := by omega
            obtain ⟨a, b, cc, ea, eb_, ec, la, lb, lc, wa, wx, wb, wc⟩ := Va.tokens hs HMAY.out HE1.out HE2.out hhas
            have hl1 := sec_len HE1.out
            have hl2 := sec_len HE2.out
            have hro := fun W F (H : St w W (w.heap[·]?) F) => rotate_any (c := c) ht H HN.out (by omega) HA.out (sA F) t salt s hs (by omega)
            have hro2 := fun W F A' c' (H : St w W (w.heap[·]?) F) (hA' : A' = none → c' = 0) (h : SrA w (w.heap[·]?) F A' (acs a)) => rotate_any (c := c') (n := a.length) ht H rfl (by have := HN.out; omega) hA' h t salt next hs (by omega)
            have hrv := fun W F A' c' (H : St w W (w.heap[·]?) F) (hA' : A' = none → c' = 0) (h : SrA w (w.heap[·]?) F A' (acs b)) => revoke_any (c := c') (n := b.length) H rfl (by have := HN.out; omega) hA' h t
            have hwa := fun W F A' c' (H : St w W (w.heap[·]?) F) (h : SrA w (w.heap[·]?) F A' (acs a)) => who_any (c := c') (n := a.length) ht H rfl (by have := HN.out; omega) h s (by omega)
            have hwb := fun W F A' c' (H : St w W (w.heap[·]?) F) (h : SrA w (w.heap[·]?) F A' (acs b)) => who_any (c := c') (n := b.length) ht H rfl (by have := HN.out; omega) h s (by omega)
            have hwc := fun W F A' c' (H : St w W (w.heap[·]?) F) (h : SrA w (w.heap[·]?) F A' (acs cc)) => who_any (c := c') (n := cc.length) ht H rfl (by have := HN.out; omega) h next (by omega)
            rw [ea] at hro
            simp only [eb_] at hro2
            simp only [ec] at hrv
            obtain ⟨⟨x, p⟩, hxp⟩ : ∃ q, q = Va.who a s := ⟨_, rfl⟩
            obtain ⟨⟨y, q⟩, hyq⟩ : ∃ q, q = Va.who b s := ⟨_, rfl⟩
            obtain ⟨⟨z, r⟩, hzr⟩ : ∃ q, q = Va.who cc next := ⟨_, rfl⟩
            simp only [← hxp] at hwa wa wx
            simp only [← hyq] at hwb wb
            simp only [← hzr] at hwc wc
            subst wa
            obtain ⟨B, hB⟩ : ∃ B, B = decide (Mac.mac salt next = Mac.mac salt s) := ⟨_, rfl⟩
            have hwb2 : q = true → y = t → B = true := fun h1 h2 => by rw [hB]; exact decide_eq_true (wb h1 h2)
            have hx : ¬ (t : Int) < (x : Int) := by omega
            have HRO := Lib.hid hro
            have HRO2 := Lib.hid hro2
            have HRV := Lib.hid hrv
            have HWA := Lib.hid hwa
            have HWB := Lib.hid hwb
            have HWC := Lib.hid hwc
            have HB := Lib.hid hB
            have HQ := Lib.hid hwb2
            have HR := Lib.hid wc
            have HL1 := Lib.hid hl1
            have HL2 := Lib.hid hl2
            clear hi he hhas ea eb_ ec la lb lc wx wb wc hro hro2 hrv hwa hwb hwc hxp hyq hzr hB hwb2 HFI H2 c0 c17 hl1 hl2
            go_upto_region 3 with fail
            obtain ⟨c0, c17, hrs⟩ := G0.out _ _ H3
            have HRS := Lib.hid hrs
            clear hrs
            go_wp2_with (refine wpList_load_mid (by rfl) 24 (.tmp 51) (by rfl) w.heap.size 1 (by rfl) (bv salt) _ HRS.out Tryd.underlying24 rfl (by rw [HSL.out]; exact Tryd.size16) ?_)
            refine (HRO.out _ _ H3).mono ?_
            rintro e w5 ⟨v5, rfl, H4⟩
            simp only at H4 ⊢
            obtain ⟨A5, c5, rfl, -, hA5⟩ := H4.shape' 0 rfl
            have HA5 := Lib.hid hA5
            clear c0 c17 HRS H3 hA5
            obtain ⟨c0, c17, hrs⟩ := G0.out _ _ H4.f1
            have HRS := Lib.hid hrs
            clear hrs
            go_wp2_with (refine wpList_load_mid (by rfl) 24 (.tmp 62) (by rfl) w.heap.size 1 (by rfl) (bv salt) _ HRS.out Tryd.underlying24 rfl (by rw [HSL.out]; exact Tryd.size16) ?_)
            refine (HRO2.out _ _ _ _ H4 HA5.out (SrA.row 0 rfl)).mono ?_
            rintro e w6 ⟨v6, rfl, H5⟩
            simp only at H5 ⊢
            obtain ⟨A6, c6, rfl, -, hA6⟩ := H5.shape' 0 rfl
            have HA6 := Lib.hid hA6
            clear c0 c17 HRS H4 hA6
            obtain ⟨c0, c17, hrs⟩ := G0.out _ _ H5.f2
            have HRS := Lib.hid hrs
            clear hrs
            go_wp2_with fail
            refine (HRV.out _ _ _ _ H5 HA6.out (SrA.row 0 rfl)).mono ?_
            rintro e w7 ⟨v7, rfl, H6⟩
            simp only at H6 ⊢
            obtain ⟨A7, c7, rfl, -, -⟩ := H6.shape' 0 rfl
            clear c0 c17 HRS H5
            obtain ⟨c0, c17, hrs⟩ := G0.out _ _ H6.f3
            have HRS := Lib.hid hrs
            clear hrs
            go_wp2_with fail
            refine (HWA.out _ _ _ c5 H6 (SrA.row 2 rfl)).mono ?_
            rintro e w8 ⟨rfl, H7⟩
            clear c0 c17 HRS H6
            obtain ⟨c0, c17, hrs⟩ := G0.out _ _ H7.f3
            have HRS := Lib.hid hrs
            clear hrs
            go_wp2_with fail
            refine (HWB.out _ _ _ c6 H7 (SrA.row 1 rfl)).mono ?_
            rintro e w9 ⟨rfl, H8⟩
            clear c0 c17 HRS H7
            go_wp2_with fail
            refine (HWC.out _ _ _ c7 H8 (SrA.row 0 rfl)).mono ?_
            rintro e w10 ⟨rfl, H9⟩
            have HA1 := H9.f3.d1.d1.d1
            clear H8 H9 HWA HWB HWC HRO HRO2 HRV
            go_upto_region 11 with fail
            obtain ⟨D1, hD1⟩ : ∃ D, D = Mac.mac salt next := ⟨_, rfl⟩
            obtain ⟨D2, hD2⟩ : ∃ D, D = Mac.mac salt s := ⟨_, rfl⟩
            have heq : ∀ w, (Op.equalIn 10000 40 (.agg (bv D1).toArray) (.agg (bv D2).toArray)).run Tryd.prog w = .ok B w := fun w => by
              rw [Tryd.eqb32 w _ _ (by rw [hD1, Mac.mac_len]) (by rw [hD2, Mac.mac_len]), HB.out, hD1, hD2]
            have HEQ := Lib.hid heq
            have HD1 := Lib.hid hD1
            have HD2 := Lib.hid hD2
            have HXX := Lib.hid hx
            clear heq hD1 hD2 hx HB
            refine Pt.wp_plan (fun w' => St w w' (w.heap[·]?) [eb w.heap.size 26 X]) (Pt.prs [0, 1, 2, 5, 6, 7] (Pt.rds [8] (.go2 3 (.go2 4 (.go 9 (.go 10 (Pt.prs [11, 12] .fin))) 9 (.go 4 (.go 10 (Pt.prs [11, 12] .fin)))) 9 (.go 3 (.go 4 (.go 10 (Pt.prs [11, 12] .fin))))))) [] Tryd.mixed (by kernel_rfl) (fun _ _ d _ _ h => by cases d <;> exact h) HA1.drew ?_
            have HA1 := HA1.drew
            simp only [Pt.toL, Pt.rds, Pt.prs, Pt.at_, List.drop_succ_cons, List.drop_zero]
            iterate 6 (refine Pt.pr_run (v := ?_) (by rfl) ?_ ?_; rotate_left; (focus (intro w'; go_simp; with_reducible rfl)); simp only [Act.put, List.setIfInBounds_toArray, List.set_cons_zero, List.set_cons_succ])
            (refine Pt.rd_run (v := ?_) (by rfl) ?_ ?_; rotate_left; (focus (intro w' hS; obtain ⟨-, c17, -⟩ := G0.out _ _ hS; go_simp; with_reducible rfl)); simp only [Act.put, List.setIfInBounds_toArray, List.set_cons_zero, List.set_cons_succ])
            refine Pt.run_go2 ?_ ?_
            · -- next is turned first
              obtain ⟨g1, k1, u1, M1, hcv1, hM1, H1, hin1⟩ := conv_keep HA1 next (by have := HL1.out; have := HL2.out; omega)
              go_wp2_with fail
              refine Pt.same (H1.weak HA1 hM1) ?_
              clear hcv1
              refine Pt.run_go2 ?_ ?_
              · skip
                have hmc := mac_call (c2 := k1) (salt := salt) (q := next) H1 HXS.out hs (by have := HL1.out; have := HL2.out; omega) hin1
                rw [← HD1.out] at hmc
                have HMC := Lib.hid hmc
                clear hmc
                go_wp2_with fail
                refine HMC.out.mono ?_
                rintro e u ⟨rfl, H2⟩
                go_wp2_with fail
                refine Pt.same (H2.weak HA1 hM1) ?_
                clear HMC
                obtain ⟨g2, k2, u2, M2, hcv2, hM2, H3, hin2⟩ := conv_keep H2 s (by have := HL1.out; have := HL2.out; omega)
                refine Pt.run_go ?_
                go_wp2_with fail
                refine Pt.same (H3.weak HA1 (hM1.trans hM2)) ?_
                clear hcv2
                refine Pt.run_go ?_
                have hmc := mac_call (c2 := k2) (salt := salt) (q := s) H3 HXS.out hs (by have := HL1.out; have := HL2.out; omega) hin2
                rw [← HD2.out] at hmc
                have HMC := Lib.hid hmc
                clear hmc
                go_wp2_with fail
                refine HMC.out.mono ?_
                rintro e u ⟨rfl, H4⟩
                go_wp2_with fail
                refine Pt.same (H4.weak HA1 (hM1.trans hM2)) ?_
                clear HMC
                have HF := H4.weak HA1 (hM1.trans hM2)
                have heq := HEQ.out
                iterate 2 (refine Pt.pr_run (v := ?_) (by rfl) ?_ ?_; rotate_left; (focus (intro w'; go_simp; with_reducible rfl)); simp only [Act.put, List.setIfInBounds_toArray, List.set_cons_zero, List.set_cons_succ])
                clear heq
                refine Pt.run_fin ?_
                obtain ⟨c0, -, -⟩ := G0.out _ _ HF
                have hx := HXX.out
                cases q with
                | false =>
                  cases r with
                  | false =>
                    go_wp2_with fail
                    refine (AW.out _ _ HF).mono ?_
                    rintro e w40 ⟨rfl, HZ⟩
                    go_wp2
                    go_ret
                    exact ⟨rfl, HZ.below⟩
                  | true =>
                    have hzt : ((z : Int) == (t : Int)) = false := by
                      rw [beq_eq_false_iff_ne]
                      exact fun h => HR.out (by trivial) (by omega)
                    go_wp2_with fail
                    refine (AW.out _ _ HF).mono ?_
                    rintro e w40 ⟨rfl, HZ⟩
                    go_wp2
                    go_ret
                    exact ⟨rfl, HZ.below⟩
                | true =>
                  by_cases hyt : y = t
                  · have hy2 : ((y : Int) == (t : Int)) = true := by simp; omega
                    have hb := HQ.out (by trivial) hyt
                    subst hb
                    clear hyt
                    cases r with
                    | false =>
                      go_wp2_with fail
                      refine (AW.out _ _ HF).mono ?_
                      rintro e w40 ⟨rfl, HZ⟩
                      go_wp2
                      go_ret
                      exact ⟨rfl, HZ.below⟩
                    | true =>
                      have hzt : ((z : Int) == (t : Int)) = false := by
                        rw [beq_eq_false_iff_ne]
                        exact fun h => HR.out (by trivial) (by omega)
                      go_wp2_with fail
                      refine (AW.out _ _ HF).mono ?_
                      rintro e w40 ⟨rfl, HZ⟩
                      go_wp2
                      go_ret
                      exact ⟨rfl, HZ.below⟩
                  · have hy2 : ((y : Int) == (t : Int)) = false := by rw [beq_eq_false_iff_ne]; omega
                    clear hyt
                    cases r with
                    | false =>
                      go_wp2_with fail
                      refine (AW.out _ _ HF).mono ?_
                      rintro e w40 ⟨rfl, HZ⟩
                      go_wp2
                      go_ret
                      exact ⟨rfl, HZ.below⟩
                    | true =>
                      have hzt : ((z : Int) == (t : Int)) = false := by
                        rw [beq_eq_false_iff_ne]
                        exact fun h => HR.out (by trivial) (by omega)
                      go_wp2_with fail
                      refine (AW.out _ _ HF).mono ?_
                      rintro e w40 ⟨rfl, HZ⟩
                      go_wp2
                      go_ret
                      exact ⟨rfl, HZ.below⟩
              · skip
                obtain ⟨g2, k2, u2, M2, hcv2, hM2, H2, hin2⟩ := conv_keep H1 s (by have := HL1.out; have := HL2.out; omega)
                go_wp2_with fail
                refine Pt.same (H2.weak HA1 (hM1.trans hM2)) ?_
                clear hcv2
                refine Pt.run_go ?_
                have hmc := mac_call (c2 := k1) (salt := salt) (q := next) H2 HXS.out hs (by have := HL1.out; have := HL2.out; omega) (hin1.le hM2)
                rw [← HD1.out] at hmc
                have HMC := Lib.hid hmc
                clear hmc
                go_wp2_with fail
                refine HMC.out.mono ?_
                rintro e u ⟨rfl, H3⟩
                go_wp2_with fail
                refine Pt.same (H3.weak HA1 (hM1.trans hM2)) ?_
                clear HMC
                refine Pt.run_go ?_
                have hmc := mac_call (c2 := k2) (salt := salt) (q := s) H3 HXS.out hs (by have := HL1.out; have := HL2.out; omega) hin2
                rw [← HD2.out] at hmc
                have HMC := Lib.hid hmc
                clear hmc
                go_wp2_with fail
                refine HMC.out.mono ?_
                rintro e u ⟨rfl, H4⟩
                go_wp2_with fail
                refine Pt.same (H4.weak HA1 (hM1.trans hM2)) ?_
                clear HMC
                have HF := H4.weak HA1 (hM1.trans hM2)
                have heq := HEQ.out
                iterate 2 (refine Pt.pr_run (v := ?_) (by rfl) ?_ ?_; rotate_left; (focus (intro w'; go_simp; with_reducible rfl)); simp only [Act.put, List.setIfInBounds_toArray, List.set_cons_zero, List.set_cons_succ])
                clear heq
                refine Pt.run_fin ?_
                obtain ⟨c0, -, -⟩ := G0.out _ _ HF
                have hx := HXX.out
                cases q with
                | false =>
                  cases r with
                  | false =>
                    go_wp2_with fail
                    refine (AW.out _ _ HF).mono ?_
                    rintro e w40 ⟨rfl, HZ⟩
                    go_wp2
                    go_ret
                    exact ⟨rfl, HZ.below⟩
                  | true =>
                    have hzt : ((z : Int) == (t : Int)) = false := by
                      rw [beq_eq_false_iff_ne]
                      exact fun h => HR.out (by trivial) (by omega)
                    go_wp2_with fail
                    refine (AW.out _ _ HF).mono ?_
                    rintro e w40 ⟨rfl, HZ⟩
                    go_wp2
                    go_ret
                    exact ⟨rfl, HZ.below⟩
                | true =>
                  by_cases hyt : y = t
                  · have hy2 : ((y : Int) == (t : Int)) = true := by simp; omega
                    have hb := HQ.out (by trivial) hyt
                    subst hb
                    clear hyt
                    cases r with
                    | false =>
                      go_wp2_with fail
                      refine (AW.out _ _ HF).mono ?_
                      rintro e w40 ⟨rfl, HZ⟩
                      go_wp2
                      go_ret
                      exact ⟨rfl, HZ.below⟩
                    | true =>
                      have hzt : ((z : Int) == (t : Int)) = false := by
                        rw [beq_eq_false_iff_ne]
                        exact fun h => HR.out (by trivial) (by omega)
                      go_wp2_with fail
                      refine (AW.out _ _ HF).mono ?_
                      rintro e w40 ⟨rfl, HZ⟩
                      go_wp2
                      go_ret
                      exact ⟨rfl, HZ.below⟩
                  · have hy2 : ((y : Int) == (t : Int)) = false := by rw [beq_eq_false_iff_ne]; omega
                    clear hyt
                    cases r with
                    | false =>
                      go_wp2_with fail
                      refine (AW.out _ _ HF).mono ?_
                      rintro e w40 ⟨rfl, HZ⟩
                      go_wp2
                      go_ret
                      exact ⟨rfl, HZ.below⟩
                    | true =>
                      have hzt : ((z : Int) == (t : Int)) = false := by
                        rw [beq_eq_false_iff_ne]
                        exact fun h => HR.out (by trivial) (by omega)
                      go_wp2_with fail
                      refine (AW.out _ _ HF).mono ?_
                      rintro e w40 ⟨rfl, HZ⟩
                      go_wp2
                      go_ret
                      exact ⟨rfl, HZ.below⟩
            · -- s is turned first
              obtain ⟨g1, k1, u1, M1, hcv1, hM1, H1, hin1⟩ := conv_keep HA1 s (by have := HL1.out; have := HL2.out; omega)
              go_wp2_with fail
              refine Pt.same (H1.weak HA1 hM1) ?_
              clear hcv1
              obtain ⟨g2, k2, u2, M2, hcv2, hM2, H2, hin2⟩ := conv_keep H1 next (by have := HL1.out; have := HL2.out; omega)
              refine Pt.run_go ?_
              go_wp2_with fail
              refine Pt.same (H2.weak HA1 (hM1.trans hM2)) ?_
              clear hcv2
              refine Pt.run_go ?_
              have hmc := mac_call (c2 := k2) (salt := salt) (q := next) H2 HXS.out hs (by have := HL1.out; have := HL2.out; omega) hin2
              rw [← HD1.out] at hmc
              have HMC := Lib.hid hmc
              clear hmc
              go_wp2_with fail
              refine HMC.out.mono ?_
              rintro e u ⟨rfl, H3⟩
              go_wp2_with fail
              refine Pt.same (H3.weak HA1 (hM1.trans hM2)) ?_
              clear HMC
              refine Pt.run_go ?_
              have hmc := mac_call (c2 := k1) (salt := salt) (q := s) H3 HXS.out hs (by have := HL1.out; have := HL2.out; omega) (hin1.le hM2)
              rw [← HD2.out] at hmc
              have HMC := Lib.hid hmc
              clear hmc
              go_wp2_with fail
              refine HMC.out.mono ?_
              rintro e u ⟨rfl, H4⟩
              go_wp2_with fail
              refine Pt.same (H4.weak HA1 (hM1.trans hM2)) ?_
              clear HMC
              have HF := H4.weak HA1 (hM1.trans hM2)
              have heq := HEQ.out
              iterate 2 (refine Pt.pr_run (v := ?_) (by rfl) ?_ ?_; rotate_left; (focus (intro w'; go_simp; with_reducible rfl)); simp only [Act.put, List.setIfInBounds_toArray, List.set_cons_zero, List.set_cons_succ])
              clear heq
              refine Pt.run_fin ?_
              obtain ⟨c0, -, -⟩ := G0.out _ _ HF
              have hx := HXX.out
              cases q with
              | false =>
                cases r with
                | false =>
                  go_wp2_with fail
                  refine (AW.out _ _ HF).mono ?_
                  rintro e w40 ⟨rfl, HZ⟩
                  go_wp2
                  go_ret
                  exact ⟨rfl, HZ.below⟩
                | true =>
                  have hzt : ((z : Int) == (t : Int)) = false := by
                    rw [beq_eq_false_iff_ne]
                    exact fun h => HR.out (by trivial) (by omega)
                  go_wp2_with fail
                  refine (AW.out _ _ HF).mono ?_
                  rintro e w40 ⟨rfl, HZ⟩
                  go_wp2
                  go_ret
                  exact ⟨rfl, HZ.below⟩
              | true =>
                by_cases hyt : y = t
                · have hy2 : ((y : Int) == (t : Int)) = true := by simp; omega
                  have hb := HQ.out (by trivial) hyt
                  subst hb
                  clear hyt
                  cases r with
                  | false =>
                    go_wp2_with fail
                    refine (AW.out _ _ HF).mono ?_
                    rintro e w40 ⟨rfl, HZ⟩
                    go_wp2
                    go_ret
                    exact ⟨rfl, HZ.below⟩
                  | true =>
                    have hzt : ((z : Int) == (t : Int)) = false := by
                      rw [beq_eq_false_iff_ne]
                      exact fun h => HR.out (by trivial) (by omega)
                    go_wp2_with fail
                    refine (AW.out _ _ HF).mono ?_
                    rintro e w40 ⟨rfl, HZ⟩
                    go_wp2
                    go_ret
                    exact ⟨rfl, HZ.below⟩
                · have hy2 : ((y : Int) == (t : Int)) = false := by rw [beq_eq_false_iff_ne]; omega
                  clear hyt
                  cases r with
                  | false =>
                    go_wp2_with fail
                    refine (AW.out _ _ HF).mono ?_
                    rintro e w40 ⟨rfl, HZ⟩
                    go_wp2
                    go_ret
                    exact ⟨rfl, HZ.below⟩
                  | true =>
                    have hzt : ((z : Int) == (t : Int)) = false := by
                      rw [beq_eq_false_iff_ne]
                      exact fun h => HR.out (by trivial) (by omega)
                    go_wp2_with fail
                    refine (AW.out _ _ HF).mono ?_
                    rintro e w40 ⟨rfl, HZ⟩
                    go_wp2
                    go_ret
                    exact ⟨rfl, HZ.below⟩
          · go_wp2_with fail
            refine (AW.out _ _ H3).mono ?_
            rintro e w1 ⟨rfl, H4⟩
            go_wp2
            go_ret
            exact ⟨rfl, H4.below⟩
end
end Go.Proofs.YtcdljlaoedaliaaDoor
