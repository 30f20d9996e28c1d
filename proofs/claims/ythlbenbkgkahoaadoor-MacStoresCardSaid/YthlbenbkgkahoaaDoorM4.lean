/- MacStores walked. -/
import Derived.Test.YthlbenbkgkahoaaDoorMw
import Derived.Test.YthlbenbkgkahoaaDoorMr
import Derived.Test.YthlbenbkgkahoaaDoorMt
import Derived.Test.YthlbenbkgkahoaaDoorEa
set_option linter.unusedVariables false
set_option linter.unusedSimpArgs false
namespace Go.Proofs.YthlbenbkgkahoaaDoor
open Go.RowKit Wd
theorem secret_any (s : ByteArray) (w : World) : Calls Tryd.prog 16 #[.string s] w fun e w' => e = .returned (.bool (decide (secretErr s.size = 0))) ∧ w' = w := by
  by_cases h1 : s.size < 8
  · have q : ¬ (8 : Int) ≤ (s.size : Int) := by omega
    have e : decide (secretErr s.size = 0) = false := by unfold secretErr; rw [if_pos h1]; rfl
    rw [e]
    go_enter Tryd.func16, Tryd.ntmps16
    go_wp2
    go_ret
    exact ⟨rfl, rfl⟩
  · have q : (8 : Int) ≤ (s.size : Int) := by omega
    by_cases h2 : 128 < s.size
    · have q2 : ¬ (s.size : Int) ≤ 128 := by omega
      have e : decide (secretErr s.size = 0) = false := by unfold secretErr; rw [if_neg h1, if_pos h2]; rfl
      rw [e]
      go_enter Tryd.func16, Tryd.ntmps16
      go_wp2
      go_ret
      exact ⟨rfl, rfl⟩
    · have q2 : (s.size : Int) ≤ 128 := by omega
      have e : decide (secretErr s.size = 0) = true := by unfold secretErr; rw [if_neg h1, if_neg h2]; rfl
      rw [e]
      go_enter Tryd.func16, Tryd.ntmps16
      go_wp2
      go_ret
      exact ⟨rfl, rfl⟩
set_option maxRecDepth 100000 in
set_option maxHeartbeats 1000000 in
theorem macStores_any {w : World} (ht : Tabs w) (salt s o : List UInt8) (hsl : salt.length = 16) :
    Calls Tryd.prog 6 #[.agg (bv salt).toArray, .string ⟨s.toArray⟩, .string ⟨o.toArray⟩] w fun e w' => e = .returned (.bool true) ∧ Below w.heap.size w w' := by
  have hsz : (ByteArray.mk s.toArray).size = s.length := by show s.toArray.size = _; simp
  have hoz : (ByteArray.mk o.toArray).size = o.length := by show o.toArray.size = _; simp
  have hbl : (bv salt).length = 16 := by rw [bv_length, hsl]
  have H := St.start w
  have H1 := H.new (bv salt) 29
  have HAW := Lib.hid (fun (w1 : World) (M : Mem) (L : List Ent) (H1 : St w w1 M L) => awake_any ht H1)
  have HBL := Lib.hid hbl
  have HSL := Lib.hid hsl
  clear hbl
  by_cases hbig : 2000 < s.length ∨ 2000 < o.length
  · have hx : (2000 : Int) < (s.length : Int) ∨ (¬ (2000 : Int) < (s.length : Int) ∧ (2000 : Int) < (o.length : Int)) := by omega
    clear hbig
    rcases hx with hx | ⟨hx, hx2⟩
    all_goals
      go_enter Tryd.func6, Tryd.ntmps6
      go_wp2_with fail
      refine (HAW.out _ _ _ H1).mono ?_
      rintro e w' ⟨rfl, H1⟩
      go_wp2
      go_ret
      exact ⟨rfl, H1.below⟩
  · have q1 : ¬ (2000 : Int) < (s.length : Int) := by omega
    have q2 : ¬ (2000 : Int) < (o.length : Int) := by omega
    have k2 : s.length ≤ 2000 := by omega
    have b2 : o.length ≤ 2000 := by omega
    clear hbig
    obtain ⟨E, hE⟩ : ∃ E, E = secretErr s.length := ⟨_, rfl⟩
    obtain ⟨D, hD⟩ : ∃ D, D = Mac.store salt s := ⟨_, rfl⟩
    have hdl : D.length = 32 := by rw [hD, Mac.store_len]
    have hdl2 : (bv D).length = 32 := by rw [bv_length, hdl]
    have hsto := fun (w1 : World) (M : Mem) (L : List Ent) (H1 : St w w1 M L) => store_any ht H1 salt s hsl (by omega)
    have hms := fun (w1 : World) (M : Mem) (L : List Ent) (H1 : St w w1 M L) => match_any ht H1 salt s D hsl hdl (by omega)
    have hmo := fun (w1 : World) (M : Mem) (L : List Ent) (H1 : St w w1 M L) => match_any ht H1 salt o D hsl hdl (by omega)
    have hck := fun w => check_any (w := w) ⟨s.toArray⟩
    rw [hsz, ← hE] at hck
    rw [← hE, ← hD] at hsto
    rw [← hE] at hms
    have HSTO := Lib.hid hsto
    have HMS := Lib.hid hms
    have HMO := Lib.hid hmo
    have HCK := Lib.hid hck
    have HE := Lib.hid hE
    have HD := Lib.hid hD
    have HDL := Lib.hid hdl
    have hrs := (H1.blk 0 rfl).range 0 16 (bv salt) (by rw [List.drop_zero, List.take_of_length_le (by rw [HBL.out]; exact Nat.le_refl _)])
    clear hsto hms hmo hck hE hD hdl hsl
    go_enter Tryd.func6, Tryd.ntmps6
    go_wp2_with (refine wpList_load_mid (by rfl) 29 (.tmp 3) (by rfl) w.heap.size 0 (by rfl) (bv salt) _ hrs Tryd.underlying29 rfl (by rw [HBL.out]; exact Tryd.size16) ?_)
    refine (HSTO.out _ _ _ H1).mono ?_
    rintro e w1 ⟨rfl, H2⟩
    have H3 := H2.new (bv (List.replicate 32 0)) 24
    obtain ⟨w2, hst, H4⟩ := run_store_st (P := Tryd.prog) H3 (cs := bv D) (by rw [hdl2, bv_length, List.length_replicate]) (bv_one _)
    rw [← obj32] at hst
    clear H1 H2 H3 hrs HSTO
    go_upto_region 4 with fail
    clear hst
    generalize w1.heap.size = g1 at *
    generalize hg : w.heap.size = g at *
    have hr7 := (H4.blk 0 rfl).range 0 32 (bv D) (by rw [List.drop_zero, List.take_of_length_le (by rw [hdl2]; exact Nat.le_refl _)])
    have hr3 := (H4.blk 1 rfl).range 0 16 (bv salt) (by rw [List.drop_zero, List.take_of_length_le (by rw [HBL.out]; exact Nat.le_refl _)])
    by_cases h8 : s.length < 8
    · have q8 : (s.length : Int) < 8 := by omega
      have hE1 : E = 1 := by rw [HE.out]; unfold secretErr; rw [if_pos h8]
      have hDz : D = List.replicate 32 0 := by rw [HD.out]; unfold Mac.store; rw [← HE.out, hE1]; rfl
      subst hE1
      have heq := fun w => Tryd.eq32 w D HDL.out
      have heq2 : ∀ w, (Op.equalIn 10000 24 (.agg (bv D).toArray) (.agg #[.int .u8 0, .int .u8 0, .int .u8 0, .int .u8 0, .int .u8 0, .int .u8 0, .int .u8 0, .int .u8 0, .int .u8 0, .int .u8 0, .int .u8 0, .int .u8 0, .int .u8 0, .int .u8 0, .int .u8 0, .int .u8 0, .int .u8 0, .int .u8 0, .int .u8 0, .int .u8 0, .int .u8 0, .int .u8 0, .int .u8 0, .int .u8 0, .int .u8 0, .int .u8 0, .int .u8 0, .int .u8 0, .int .u8 0, .int .u8 0, .int .u8 0, .int .u8 0])).run Tryd.prog w = .ok true w := fun w => by
        have h := heq w
        rw [show Value.agg #[.int .u8 0, .int .u8 0, .int .u8 0, .int .u8 0, .int .u8 0, .int .u8 0, .int .u8 0, .int .u8 0, .int .u8 0, .int .u8 0, .int .u8 0, .int .u8 0, .int .u8 0, .int .u8 0, .int .u8 0, .int .u8 0, .int .u8 0, .int .u8 0, .int .u8 0, .int .u8 0, .int .u8 0, .int .u8 0, .int .u8 0, .int .u8 0, .int .u8 0, .int .u8 0, .int .u8 0, .int .u8 0, .int .u8 0, .int .u8 0, .int .u8 0, .int .u8 0] = .agg (bv (List.replicate 32 0)).toArray from rfl, ← hDz]
        exact h
      clear heq hDz h8
      go_wp2_with fail
      refine (HCK.out _).mono ?_
      rintro e w' ⟨rfl, rfl⟩
      go_wp2_with (first | (refine wpList_load_g (by rfl) 24 (.tmp 7) (by rfl) g1 0 (by rfl) (bv D) _ hr7 Tryd.underlying24 rfl (by rw [hdl2]; exact Tryd.size24) ?_) | (refine wpList_load_g (by rfl) 29 (.tmp 3) (by rfl) g 0 (by rfl) (bv salt) _ hr3 Tryd.underlying29 rfl (by rw [HBL.out]; exact Tryd.size16) ?_))
      refine (HMS.out _ _ _ H4).mono ?_
      rintro e w5 ⟨rfl, H5⟩
      rw [show decide ((1 : Int) = 0 ∧ Mac.mac salt s = D) = false from by simp]
      go_wp2_with fail
      refine (HAW.out _ _ _ H5).mono ?_
      rintro e w6 ⟨rfl, H6⟩
      go_wp2
      go_ret
      exact ⟨rfl, H6.below⟩
    · by_cases h128 : 128 < s.length
      · have q8 : ¬ (s.length : Int) < 8 := by omega
        have q9 : (128 : Int) < (s.length : Int) := by omega
        have hE1 : E = 3 := by rw [HE.out]; unfold secretErr; rw [if_neg h8, if_pos h128]
        have hDz : D = List.replicate 32 0 := by rw [HD.out]; unfold Mac.store; rw [← HE.out, hE1]; rfl
        subst hE1
        have heq := fun w => Tryd.eq32 w D HDL.out
        have heq2 : ∀ w, (Op.equalIn 10000 24 (.agg (bv D).toArray) (.agg #[.int .u8 0, .int .u8 0, .int .u8 0, .int .u8 0, .int .u8 0, .int .u8 0, .int .u8 0, .int .u8 0, .int .u8 0, .int .u8 0, .int .u8 0, .int .u8 0, .int .u8 0, .int .u8 0, .int .u8 0, .int .u8 0, .int .u8 0, .int .u8 0, .int .u8 0, .int .u8 0, .int .u8 0, .int .u8 0, .int .u8 0, .int .u8 0, .int .u8 0, .int .u8 0, .int .u8 0, .int .u8 0, .int .u8 0, .int .u8 0, .int .u8 0, .int .u8 0])).run Tryd.prog w = .ok true w := fun w => by
          have h := heq w
          rw [show Value.agg #[.int .u8 0, .int .u8 0, .int .u8 0, .int .u8 0, .int .u8 0, .int .u8 0, .int .u8 0, .int .u8 0, .int .u8 0, .int .u8 0, .int .u8 0, .int .u8 0, .int .u8 0, .int .u8 0, .int .u8 0, .int .u8 0, .int .u8 0, .int .u8 0, .int .u8 0, .int .u8 0, .int .u8 0, .int .u8 0, .int .u8 0, .int .u8 0, .int .u8 0, .int .u8 0, .int .u8 0, .int .u8 0, .int .u8 0, .int .u8 0, .int .u8 0, .int .u8 0] = .agg (bv (List.replicate 32 0)).toArray from rfl, ← hDz]
          exact h
        clear heq hDz h8 h128
        go_wp2_with fail
        refine (HCK.out _).mono ?_
        rintro e w' ⟨rfl, rfl⟩
        go_wp2_with (first | (refine wpList_load_g (by rfl) 24 (.tmp 7) (by rfl) g1 0 (by rfl) (bv D) _ hr7 Tryd.underlying24 rfl (by rw [hdl2]; exact Tryd.size24) ?_) | (refine wpList_load_g (by rfl) 29 (.tmp 3) (by rfl) g 0 (by rfl) (bv salt) _ hr3 Tryd.underlying29 rfl (by rw [HBL.out]; exact Tryd.size16) ?_))
        refine (HMS.out _ _ _ H4).mono ?_
        rintro e w5 ⟨rfl, H5⟩
        rw [show decide ((3 : Int) = 0 ∧ Mac.mac salt s = D) = false from by simp]
        go_wp2_with fail
        refine (HAW.out _ _ _ H5).mono ?_
        rintro e w6 ⟨rfl, H6⟩
        go_wp2
        go_ret
        exact ⟨rfl, H6.below⟩
      · have q8 : ¬ (s.length : Int) < 8 := by omega
        have q9 : ¬ (128 : Int) < (s.length : Int) := by omega
        have hE0 : E = 0 := by rw [HE.out]; unfold secretErr; rw [if_neg h8, if_neg h128]
        have hDm : Mac.mac salt s = D := by rw [HD.out]; unfold Mac.store; rw [← HE.out, hE0]; rfl
        subst hE0
        have hms2 := HMS.out
        rw [show decide ((0 : Int) = 0 ∧ Mac.mac salt s = D) = true from by simp [hDm]] at hms2
        have HMS2 := Lib.hid hms2
        obtain ⟨B, hB⟩ : ∃ B, B = decide (secretErr o.length = 0 ∧ Mac.mac salt o = D) := ⟨_, rfl⟩
        have hmo2 := HMO.out
        rw [← hB] at hmo2
        have hsec := fun w => secret_any ⟨o.toArray⟩ w
        rw [hoz] at hsec
        have HMO := Lib.hid hmo2
        have HB := Lib.hid hB
        have HEQ := Lib.hid (fun w => Tryd.eq32 w D HDL.out)
        obtain ⟨g2, c2, w3, hcv, hlc, hcm, H5⟩ := conv_st (P := Tryd.prog) (src := 9) (dst := 22) H4 Tryd.underlying9 Tryd.underlying22 Tryd.underlying5 s (by omega)
        obtain ⟨M', hM', H6, hin⟩ := H5.keepm (l := s) (by rw [List.take_append_of_le_length (by rw [bv_length]; exact Nat.le_refl _), bv_take, List.take_length])
        have hm := rmac_any H6 (A := some ⟨g, 0, none⟩) (c := 16) (k := salt) (by rintro ⟨⟩) (Sr.blk 1 rfl (by rw [List.drop_zero, List.take_of_length_le (by rw [bv_length]; exact Nat.le_refl _)])) (by rw [HSL.out]; decide) (by rw [HSL.out]; exact Nat.le_refl _) (B := some ⟨g2, 0, none⟩) (d := c2) (b := s) (by rintro ⟨⟩) (Sr.of_in hin) (by omega)
        rw [HSL.out, hDm] at hm
        have HM := Lib.hid hm
        have HLC := Lib.hid (And.intro hlc hcm)
        clear hm H5 hin hlc hcm h8 h128 hDm hms2 hmo2 hB HMS
        go_wp2_with fail
        refine HM.out.mono ?_
        rintro e w4 ⟨rfl, H7⟩
        have H8 := (H7.weak H4 hM').new (bv (List.replicate 32 0)) 24
        obtain ⟨w5, hst, H9⟩ := run_store_st (P := Tryd.prog) H8 (cs := bv D) (by rw [hdl2, bv_length, List.length_replicate]) (bv_one _)
        rw [← obj32] at hst
        clear H6 H7 H8 hr7 hr3
        go_upto_region 9 with fail
        clear hst
        generalize w4.heap.size = g9 at *
        by_cases hso : secretErr o.length = 0
        · have hsec2 := fun w => hsec w
          rw [hso] at hsec2
          have hBm : B = decide (Mac.mac salt o = D) := by rw [HB.out]; simp [hso]
          have heqo : ∀ w, (Op.equalIn 10000 24 (.agg (bv (Mac.mac salt o)).toArray) (.agg (bv D).toArray)).run Tryd.prog w = .ok B w := fun w => by rw [Tryd.eqb32 w _ _ (Mac.mac_len _ _) HDL.out, hBm]
          obtain ⟨X, hX⟩ : ∃ X, X = Mac.mac salt o := ⟨_, rfl⟩
          rw [← hX] at heqo
          have HX := Lib.hid hX
          have HEO := Lib.hid heqo
          have HSE := Lib.hid hsec2
          clear hX heqo hsec hsec2 hBm hso
          refine Pt.wp_plan (fun w' => St w w' (w.heap[·]?) [eb g9 24 (bv D), eb g1 24 (bv D), eb g 29 (bv salt)]) (Pt.prs [0] (.go 1 (Pt.prs [2, 3, 4] (Pt.rds [7] (.go 5 (.go 6 (Pt.prs [8, 9, 10] .fin))))))) [] Tryd.mixed (by kernel_rfl) (fun _ _ d _ _ h => by cases d <;> exact h) H9.drew ?_
          have H9 := H9.drew
          generalize w5.drew = w6 at *
          simp only [Pt.toL, Pt.rds, Pt.prs, Pt.at_, List.drop_succ_cons, List.drop_zero]
          (refine Pt.pr_run (v := ?_) (by rfl) ?_ ?_; rotate_left; (focus (intro w'; go_simp; with_reducible rfl)); simp only [Act.put, List.setIfInBounds_toArray, List.set_cons_zero, List.set_cons_succ])
          refine Pt.run_go ?_
          go_wp2_with fail
          refine (HSE.out _).mono ?_
          rintro e w' ⟨rfl, rfl⟩
          go_wp2_with fail
          refine Pt.same H9 ?_
          iterate 3 (refine Pt.pr_run (v := ?_) (by rfl) ?_ ?_; rotate_left; (focus (intro w'; go_simp; with_reducible rfl)); simp only [Act.put, List.setIfInBounds_toArray, List.set_cons_zero, List.set_cons_succ])
          refine Pt.rd_load (by rfl) 24 (.tmp 9) (by rfl) g9 0 (by rfl) (bv D) _ (fun w' hS => (hS.blk 0 rfl).range 0 32 (bv D) (by rw [List.drop_zero, List.take_of_length_le (by rw [hdl2]; exact Nat.le_refl _)])) Tryd.underlying24 rfl (by rw [hdl2]; exact Tryd.size24) ?_
          simp only [Act.put, List.setIfInBounds_toArray, List.set_cons_zero, List.set_cons_succ]
          obtain ⟨g3, c3, w7, hcv, hlc, hcm, H10⟩ := conv_st (P := Tryd.prog) (src := 9) (dst := 22) H9 Tryd.underlying9 Tryd.underlying22 Tryd.underlying5 o (by omega)
          obtain ⟨M'', hM'', H11, hin⟩ := H10.keepm (l := o) (by rw [List.take_append_of_le_length (by rw [bv_length]; exact Nat.le_refl _), bv_take, List.take_length])
          have hm := rmac_any H11 (A := some ⟨g, 0, none⟩) (c := 16) (k := salt) (by rintro ⟨⟩) (Sr.blk 2 rfl (by rw [List.drop_zero, List.take_of_length_le (by rw [bv_length]; exact Nat.le_refl _)])) (by rw [HSL.out]; decide) (by rw [HSL.out]; exact Nat.le_refl _) (B := some ⟨g3, 0, none⟩) (d := c3) (b := o) (by rintro ⟨⟩) (Sr.of_in hin) (by omega)
          rw [HSL.out, ← HX.out] at hm
          have HM := Lib.hid hm
          clear hm hin H10 hlc hcm
          refine Pt.run_go ?_
          go_wp2_with fail
          refine Pt.same (H11.weak H9 hM'') ?_
          refine Pt.run_go ?_
          go_wp2_with fail
          refine HM.out.mono ?_
          rintro e w8 ⟨rfl, H12⟩
          have H13 := H12.weak H9 hM''
          go_wp2_with fail
          refine Pt.same H13 ?_
          have heqo := HEO.out
          iterate 3 (refine Pt.pr_run (v := ?_) (by rfl) ?_ ?_; rotate_left; (focus (intro w'; go_simp; with_reducible rfl)); simp only [Act.put, List.setIfInBounds_toArray, List.set_cons_zero, List.set_cons_succ])
          clear heqo
          refine Pt.run_fin ?_
          clear H9 H11 H12 hcv
          have H9 := H13
          · skip
            have hl9 := (H9.blk 0 rfl).range 0 32 (bv D) (by rw [List.drop_zero, List.take_of_length_le (by rw [hdl2]; exact Nat.le_refl _)])
            have hr9 := hl9
            have hr7 := (H9.blk 1 rfl).range 0 32 (bv D) (by rw [List.drop_zero, List.take_of_length_le (by rw [hdl2]; exact Nat.le_refl _)])
            have hr3 := (H9.blk 2 rfl).range 0 16 (bv salt) (by rw [List.drop_zero, List.take_of_length_le (by rw [HBL.out]; exact Nat.le_refl _)])
            have heq := HEQ.out
            go_wp2_with fail
            refine (HCK.out _).mono ?_
            rintro e w' ⟨rfl, rfl⟩
            go_wp2_with (first | (refine wpList_load_g (by rfl) 24 (.tmp 7) (by rfl) g1 0 (by rfl) (bv D) _ hr7 Tryd.underlying24 rfl (by rw [hdl2]; exact Tryd.size24) ?_) | (refine wpList_load_g (by rfl) 29 (.tmp 3) (by rfl) g 0 (by rfl) (bv salt) _ hr3 Tryd.underlying29 rfl (by rw [HBL.out]; exact Tryd.size16) ?_) | (refine wpList_load_g (by rfl) 24 (.tmp 9) (by rfl) g9 0 (by rfl) (bv D) _ hr9 Tryd.underlying24 rfl (by rw [hdl2]; exact Tryd.size24) ?_))
            refine (HMS2.out _ _ _ H9).mono ?_
            rintro e w5 ⟨rfl, H10⟩
            clear hr9 hr7 hr3 hl9
            have hr7 := (H10.blk 1 rfl).range 0 32 (bv D) (by rw [List.drop_zero, List.take_of_length_le (by rw [hdl2]; exact Nat.le_refl _)])
            have hr3 := (H10.blk 2 rfl).range 0 16 (bv salt) (by rw [List.drop_zero, List.take_of_length_le (by rw [HBL.out]; exact Nat.le_refl _)])
            have hr9 := hr7
            go_wp2_with (first | (refine wpList_load_g (by rfl) 24 (.tmp 7) (by rfl) g1 0 (by rfl) (bv D) _ hr7 Tryd.underlying24 rfl (by rw [hdl2]; exact Tryd.size24) ?_) | (refine wpList_load_g (by rfl) 29 (.tmp 3) (by rfl) g 0 (by rfl) (bv salt) _ hr3 Tryd.underlying29 rfl (by rw [HBL.out]; exact Tryd.size16) ?_))
            refine (HMO.out _ _ _ H10).mono ?_
            rintro e w6 ⟨rfl, H11⟩
            go_wp2_with fail
            refine (HAW.out _ _ _ H11).mono ?_
            rintro e w7 ⟨rfl, H12⟩
            go_wp2
            go_ret
            exact ⟨rfl, H12.below⟩
        · have hsec2 := fun w => hsec w
          rw [show decide (secretErr o.length = 0) = false from by simp [hso]] at hsec2
          have hBm : B = false := by rw [HB.out]; simp [hso]
          have HSE := Lib.hid hsec2
          clear hsec hsec2 hso
          subst hBm
          refine Pt.wp_plan (fun w' => True) (Pt.prs [0] (.go 1 (Pt.prs [2, 3, 4, 5, 6, 7, 8, 9, 10] .fin))) [] Tryd.mixed (by kernel_rfl) (fun _ _ d _ _ h => by cases d <;> exact h) trivial ?_
          have H9 := H9.drew
          generalize w5.drew = w6 at *
          simp only [Pt.toL, Pt.rds, Pt.prs, Pt.at_, List.drop_succ_cons, List.drop_zero]
          (refine Pt.pr_run (v := ?_) (by rfl) ?_ ?_; rotate_left; (focus (intro w'; go_simp; with_reducible rfl)); simp only [Act.put, List.setIfInBounds_toArray, List.set_cons_zero, List.set_cons_succ])
          refine Pt.run_go ?_
          go_wp2_with fail
          refine (HSE.out _).mono ?_
          rintro e w' ⟨rfl, rfl⟩
          go_wp2_with fail
          refine Pt.same trivial ?_
          (refine Pt.pr_run (v := ?_) (by rfl) ?_ ?_; rotate_left; (focus (intro w'; go_simp; with_reducible rfl)); simp only [Act.put, List.setIfInBounds_toArray, List.set_cons_zero, List.set_cons_succ])
          iterate 6 (refine Pt.pr_skip (by rfl) ?_; simp only [Act.put, List.setIfInBounds_toArray, List.set_cons_zero, List.set_cons_succ])
          iterate 2 (refine Pt.pr_run (v := ?_) (by rfl) ?_ ?_; rotate_left; (focus (intro w'; go_simp; with_reducible rfl)); simp only [Act.put, List.setIfInBounds_toArray, List.set_cons_zero, List.set_cons_succ])
          refine Pt.run_fin ?_
          · skip
            have hl9 := (H9.blk 0 rfl).range 0 32 (bv D) (by rw [List.drop_zero, List.take_of_length_le (by rw [hdl2]; exact Nat.le_refl _)])
            have hr9 := hl9
            have hr7 := (H9.blk 1 rfl).range 0 32 (bv D) (by rw [List.drop_zero, List.take_of_length_le (by rw [hdl2]; exact Nat.le_refl _)])
            have hr3 := (H9.blk 2 rfl).range 0 16 (bv salt) (by rw [List.drop_zero, List.take_of_length_le (by rw [HBL.out]; exact Nat.le_refl _)])
            have heq := HEQ.out
            go_wp2_with fail
            refine (HCK.out _).mono ?_
            rintro e w' ⟨rfl, rfl⟩
            go_wp2_with (first | (refine wpList_load_g (by rfl) 24 (.tmp 7) (by rfl) g1 0 (by rfl) (bv D) _ hr7 Tryd.underlying24 rfl (by rw [hdl2]; exact Tryd.size24) ?_) | (refine wpList_load_g (by rfl) 29 (.tmp 3) (by rfl) g 0 (by rfl) (bv salt) _ hr3 Tryd.underlying29 rfl (by rw [HBL.out]; exact Tryd.size16) ?_) | (refine wpList_load_g (by rfl) 24 (.tmp 9) (by rfl) g9 0 (by rfl) (bv D) _ hr9 Tryd.underlying24 rfl (by rw [hdl2]; exact Tryd.size24) ?_))
            refine (HMS2.out _ _ _ H9).mono ?_
            rintro e w5 ⟨rfl, H10⟩
            clear hr9 hr7 hr3 hl9
            have hr7 := (H10.blk 1 rfl).range 0 32 (bv D) (by rw [List.drop_zero, List.take_of_length_le (by rw [hdl2]; exact Nat.le_refl _)])
            have hr3 := (H10.blk 2 rfl).range 0 16 (bv salt) (by rw [List.drop_zero, List.take_of_length_le (by rw [HBL.out]; exact Nat.le_refl _)])
            have hr9 := hr7
            go_wp2_with (first | (refine wpList_load_g (by rfl) 24 (.tmp 7) (by rfl) g1 0 (by rfl) (bv D) _ hr7 Tryd.underlying24 rfl (by rw [hdl2]; exact Tryd.size24) ?_) | (refine wpList_load_g (by rfl) 29 (.tmp 3) (by rfl) g 0 (by rfl) (bv salt) _ hr3 Tryd.underlying29 rfl (by rw [HBL.out]; exact Tryd.size16) ?_))
            refine (HMO.out _ _ _ H10).mono ?_
            rintro e w6 ⟨rfl, H11⟩
            go_wp2_with fail
            refine (HAW.out _ _ _ H11).mono ?_
            rintro e w7 ⟨rfl, H12⟩
            go_wp2
            go_ret
            exact ⟨rfl, H12.below⟩
end Go.Proofs.YthlbenbkgkahoaaDoor
