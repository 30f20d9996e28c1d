/- The reference's Generation (layer 18). -/
import Derived.Test.YtepgmebklhemgaaGreatDoorA6
import Derived.Test.YtepgmebklhemgaaGreatDoorG5
set_option linter.unusedVariables false
set_option linter.unusedSimpArgs false
namespace Go.Proofs.YtepgmebklhemgaaGreatDoor
open Go.RowKit Wd
section
variable {w0 w : World} {M : Mem} {L : List Ent}
set_option maxRecDepth 100000 in
theorem rgeneration_any (H : St w0 w M L) {A : Option Addr} {c n : Nat} {b : List UInt8} (hn : n = b.length) (hl : Sr w0 M L A b) (h128 : 128 ≤ n) (hc : n ≤ c) (hc2 : c ≤ 9223372036854775807) :
    Calls Tryz.prog 28 #[.slice A n c] w fun e w' => e = .returned (.int .u64 (Lg.generation b : Int)) ∧ St w0 w' M L := by
  obtain ⟨bb, bo, rfl, _, _⟩ := hl.now H (by rintro rfl; rw [hn] at h128; simp at h128)
  obtain ⟨D, hD⟩ : ∃ D, D = Lg.generation b := ⟨_, rfl⟩
  rw [← hD]
  have HD := Lib.hid hD
  have HN := Lib.hid hn
  clear hD hn
  go_enter Tryz.func28, Tryz.ntmps28
  go_wp2
  go_loopw [3, 4] (fun x i wr => ∃ k : Nat, k ≤ 2 ∧ i = .int .i64 k ∧ x = .int .u64 (Lg.best b k : Int) ∧ St w0 wr M L) (fun _ i _ => 2 - (intOf i).toNat)
  case atStart => exact ⟨0, by omega, rfl, rfl, H⟩
  case round =>
    obtain ⟨k, hk, rfl, rfl, H1⟩ := hrel
    clear H
    by_cases hlt : k < 2
    · obtain ⟨h, hh⟩ : ∃ h, h = (b.drop (64 * k)).take 64 := ⟨_, rfl⟩
      have hhl : h.length = 64 := by rw [hh, List.length_take, List.length_drop, ← HN.out]; omega
      have sh : Sr w0 M L (some ⟨bb, bo + 64 * k, none⟩) h := by rw [hh]; exact hl.sub _ _
      obtain ⟨G, hG⟩ : ∃ G, G = Lg.genOf b k := ⟨_, rfl⟩
      have hGe : G = Lg.num (h.take 8) := by rw [hG, hh, List.take_take]; rfl
      have hGl : G < 18446744073709551616 := by rw [hG]; exact Lg.genOf_lt b k
      have hp : Lg.best b (k + 1) = if Lg.head G = h then max (Lg.best b k) G else Lg.best b k := by rw [hG, hh]; rfl
      obtain ⟨D2, hD2⟩ : ∃ D2, D2 = Lg.head G := ⟨_, rfl⟩
      have hD2l : D2.length = 64 := by rw [hD2, Lg.head_len]
      rw [← hD2] at hp
      obtain ⟨X, hX⟩ : ∃ X, X = Lg.best b k := ⟨_, rfl⟩
      rw [← hX] at hp ⊢
      obtain ⟨Y, hY⟩ : ∃ Y, Y = Lg.best b (k + 1) := ⟨_, rfl⟩
      rw [← hY] at hp
      obtain ⟨K, hK⟩ : ∃ K, K = k + 1 := ⟨_, rfl⟩
      rw [← hK] at hY
      have HK := Lib.hid hK
      obtain ⟨t, ht⟩ : ∃ t, t = decide (D2 = h) := ⟨_, rfl⟩
      have hse := list_eq D2 h
      rw [← ht] at hse
      have r1 := (sh.now H1).take 8
      have hv := fun c' => rnumber_any (c := c') r1 (by rw [List.length_take]; omega)
      have hl8 : (h.take 8).length = 8 := by rw [List.length_take, hhl]; rfl
      rw [← hGe, hl8] at hv
      have hhd := fun (W : World) (HW : St w0 W M L) => rhead_any HW G hGl
      rw [← hD2] at hhd
      have HV := Lib.hid hv
      have HHD := Lib.hid hhd
      have HSE := Lib.hid hse
      have HP := Lib.hid hp
      have HT := Lib.hid ht
      have HYG := Lib.hid hY
      have HHL := Lib.hid hhl
      have HDL := Lib.hid hD2l
      have HX := Lib.hid hX
      clear hh hhl hG hGe hGl hp hD2 hD2l hX hY hK ht hse r1 hv hl8 hhd
      have hcase : (∃ c' : Nat, c' = c - 64 * k) := ⟨_, rfl⟩
      obtain ⟨c', hc'⟩ := hcase
      obtain rfl | rfl : k = 0 ∨ k = 1 := by omega
      all_goals
        simp only [Nat.mul_zero, Nat.mul_one, Nat.add_zero, Nat.sub_zero] at sh hc'
        go_upto_region 6 with fail
        go_wp2_with fail
        refine (HV.out _).mono ?_
        rintro e w1 ⟨rfl, rfl⟩
        go_wp2
        have hd0 := HT.out
        have hp0 := HP.out
        cases t with
        | true =>
          have hd : D2 = h := by simpa using hd0.symm
          rw [if_pos hd] at hp0
          clear hd0
          by_cases hXG : X < G
          · have hy : Y = G := by omega
            have HY := Lib.hid hy
            have hXGi : (X : Int) < (G : Int) := by omega
            clear hp0 hy hd
            refine Pt.wp_plan (fun w' => St w0 w' M L) (Pt.prs [0, 3] (Pt.rds [4] (.go 1 (Pt.rds [2] (Pt.prs [5, 6, 7, 8, 9, 10] .fin))))) [] Tryz.mixed (by kernel_rfl) (fun _ _ d _ _ h => by cases d <;> exact h) H1.drew ?_
            have H2 := H1.drew
            simp only [Pt.toL, Pt.rds, Pt.prs, Pt.at_, List.drop_succ_cons, List.drop_zero]
            iterate 2 (refine Pt.pr_run (v := ?_) (by rfl) ?_ ?_; rotate_left; (focus (intro w'; go_simp; with_reducible rfl)); simp only [Act.put, List.setIfInBounds_toArray, List.set_cons_zero, List.set_cons_succ])
            (refine Pt.rd_run (v := ?_) (by rfl) ?_ ?_; rotate_left; (focus (intro w' hS; have cv := fun c'' => conv_RB (P := Tryz.prog) (src := 30) (dst := 9) (n := 64) (c := c'') Tryz.underlying30 Tryz.underlying5 Tryz.underlying9 (sh.now hS) HHL.out.symm; go_simp; with_reducible rfl)); simp only [Act.put, List.setIfInBounds_toArray, List.set_cons_zero, List.set_cons_succ])
            refine Pt.run_go ?_
            go_wp2_with fail
            refine (HHD.out _ H2).mono ?_
            rintro e w3 ⟨v3, rfl, H3⟩
            obtain ⟨A3, c3, rfl, hc3, hA3⟩ := H3.shape' 0 rfl
            go_wp2_with fail
            refine Pt.more (fun w' => St w0 w' M (er 5 1 (.slice A3 64 c3) 64 (bv D2) :: L)) H3.d0 H3 ?_
            (refine Pt.rd_run (v := ?_) (by rfl) ?_ ?_; rotate_left; (focus (intro w' hS; have cv := conv_RB (P := Tryz.prog) (src := 30) (dst := 9) (n := 64) (c := c3) Tryz.underlying30 Tryz.underlying5 Tryz.underlying9 (er_RB (hS.2.get 0 rfl)) HDL.out.symm; go_simp; with_reducible rfl)); simp only [Act.put, List.setIfInBounds_toArray, List.set_cons_zero, List.set_cons_succ])
            have hse := HSE.out
            iterate 6 (refine Pt.pr_run (v := ?_) (by rfl) ?_ ?_; rotate_left; (focus (intro w'; go_simp; with_reducible rfl)); simp only [Act.put, List.setIfInBounds_toArray, List.set_cons_zero, List.set_cons_succ])
            clear hse
            refine Pt.run_fin ?_
            have H4 := H3.d0
            clear H1 H2 H3
            go_wp2
            exact ⟨⟨K, by have := HK.out; omega, congrArg (Value.int .i64) (by have := HK.out; omega), congrArg (Value.int .u64) (by rw [← HYG.out, HY.out]), H4⟩, by simp [intOf]⟩
          · have hy : Y = X := by omega
            have HY := Lib.hid hy
            have hXGi : ¬ (X : Int) < (G : Int) := by omega
            clear hp0 hy hd
            refine Pt.wp_plan (fun w' => St w0 w' M L) (Pt.prs [0, 3] (Pt.rds [4] (.go 1 (Pt.rds [2] (Pt.prs [5, 6, 7, 8, 9, 10] .fin))))) [] Tryz.mixed (by kernel_rfl) (fun _ _ d _ _ h => by cases d <;> exact h) H1.drew ?_
            have H2 := H1.drew
            simp only [Pt.toL, Pt.rds, Pt.prs, Pt.at_, List.drop_succ_cons, List.drop_zero]
            iterate 2 (refine Pt.pr_run (v := ?_) (by rfl) ?_ ?_; rotate_left; (focus (intro w'; go_simp; with_reducible rfl)); simp only [Act.put, List.setIfInBounds_toArray, List.set_cons_zero, List.set_cons_succ])
            (refine Pt.rd_run (v := ?_) (by rfl) ?_ ?_; rotate_left; (focus (intro w' hS; have cv := fun c'' => conv_RB (P := Tryz.prog) (src := 30) (dst := 9) (n := 64) (c := c'') Tryz.underlying30 Tryz.underlying5 Tryz.underlying9 (sh.now hS) HHL.out.symm; go_simp; with_reducible rfl)); simp only [Act.put, List.setIfInBounds_toArray, List.set_cons_zero, List.set_cons_succ])
            refine Pt.run_go ?_
            go_wp2_with fail
            refine (HHD.out _ H2).mono ?_
            rintro e w3 ⟨v3, rfl, H3⟩
            obtain ⟨A3, c3, rfl, hc3, hA3⟩ := H3.shape' 0 rfl
            go_wp2_with fail
            refine Pt.more (fun w' => St w0 w' M (er 5 1 (.slice A3 64 c3) 64 (bv D2) :: L)) H3.d0 H3 ?_
            (refine Pt.rd_run (v := ?_) (by rfl) ?_ ?_; rotate_left; (focus (intro w' hS; have cv := conv_RB (P := Tryz.prog) (src := 30) (dst := 9) (n := 64) (c := c3) Tryz.underlying30 Tryz.underlying5 Tryz.underlying9 (er_RB (hS.2.get 0 rfl)) HDL.out.symm; go_simp; with_reducible rfl)); simp only [Act.put, List.setIfInBounds_toArray, List.set_cons_zero, List.set_cons_succ])
            have hse := HSE.out
            iterate 6 (refine Pt.pr_run (v := ?_) (by rfl) ?_ ?_; rotate_left; (focus (intro w'; go_simp; with_reducible rfl)); simp only [Act.put, List.setIfInBounds_toArray, List.set_cons_zero, List.set_cons_succ])
            clear hse
            refine Pt.run_fin ?_
            have H4 := H3.d0
            clear H1 H2 H3
            go_wp2
            exact ⟨⟨K, by have := HK.out; omega, congrArg (Value.int .i64) (by have := HK.out; omega), congrArg (Value.int .u64) (by rw [← HYG.out, HY.out]), H4⟩, by simp [intOf]⟩
        | false =>
          have hd : ¬ D2 = h := by simpa using hd0.symm
          rw [if_neg hd] at hp0
          have HY := Lib.hid hp0
          clear hd0 hp0 hd
          refine Pt.wp_plan (fun w' => St w0 w' M L) (Pt.prs [0, 3] (Pt.rds [4] (.go 1 (Pt.rds [2] (Pt.prs [5, 6, 7, 8, 9, 10] .fin))))) [] Tryz.mixed (by kernel_rfl) (fun _ _ d _ _ h => by cases d <;> exact h) H1.drew ?_
          have H2 := H1.drew
          simp only [Pt.toL, Pt.rds, Pt.prs, Pt.at_, List.drop_succ_cons, List.drop_zero]
          iterate 2 (refine Pt.pr_run (v := ?_) (by rfl) ?_ ?_; rotate_left; (focus (intro w'; go_simp; with_reducible rfl)); simp only [Act.put, List.setIfInBounds_toArray, List.set_cons_zero, List.set_cons_succ])
          (refine Pt.rd_run (v := ?_) (by rfl) ?_ ?_; rotate_left; (focus (intro w' hS; have cv := fun c'' => conv_RB (P := Tryz.prog) (src := 30) (dst := 9) (n := 64) (c := c'') Tryz.underlying30 Tryz.underlying5 Tryz.underlying9 (sh.now hS) HHL.out.symm; go_simp; with_reducible rfl)); simp only [Act.put, List.setIfInBounds_toArray, List.set_cons_zero, List.set_cons_succ])
          refine Pt.run_go ?_
          go_wp2_with fail
          refine (HHD.out _ H2).mono ?_
          rintro e w3 ⟨v3, rfl, H3⟩
          obtain ⟨A3, c3, rfl, hc3, hA3⟩ := H3.shape' 0 rfl
          go_wp2_with fail
          refine Pt.more (fun w' => St w0 w' M (er 5 1 (.slice A3 64 c3) 64 (bv D2) :: L)) H3.d0 H3 ?_
          (refine Pt.rd_run (v := ?_) (by rfl) ?_ ?_; rotate_left; (focus (intro w' hS; have cv := conv_RB (P := Tryz.prog) (src := 30) (dst := 9) (n := 64) (c := c3) Tryz.underlying30 Tryz.underlying5 Tryz.underlying9 (er_RB (hS.2.get 0 rfl)) HDL.out.symm; go_simp; with_reducible rfl)); simp only [Act.put, List.setIfInBounds_toArray, List.set_cons_zero, List.set_cons_succ])
          have hse := HSE.out
          iterate 2 (refine Pt.pr_run (v := ?_) (by rfl) ?_ ?_; rotate_left; (focus (intro w'; go_simp; with_reducible rfl)); simp only [Act.put, List.setIfInBounds_toArray, List.set_cons_zero, List.set_cons_succ])
          iterate 3 (refine Pt.pr_skip (by rfl) ?_; simp only [Act.put, List.setIfInBounds_toArray, List.set_cons_zero, List.set_cons_succ])
          (refine Pt.pr_run (v := ?_) (by rfl) ?_ ?_; rotate_left; (focus (intro w'; go_simp; with_reducible rfl)); simp only [Act.put, List.setIfInBounds_toArray, List.set_cons_zero, List.set_cons_succ])
          clear hse
          refine Pt.run_fin ?_
          have H4 := H3.d0
          clear H1 H2 H3
          go_wp2
          exact ⟨⟨K, by have := HK.out; omega, congrArg (Value.int .i64) (by have := HK.out; omega), congrArg (Value.int .u64) (by rw [← HYG.out, HY.out]), H4⟩, by simp [intOf]⟩
    · obtain rfl : k = 2 := by omega
      rw [Lg.best_two, ← HD.out]
      go_wp2
      go_ret
      exact ⟨rfl, H1⟩
end
end Go.Proofs.YtepgmebklhemgaaGreatDoor
