/- MacDerives walked. -/
import Derived.Test.YthlbenbkgkahoaaDoorMw
import Derived.Test.YthlbenbkgkahoaaDoorMe
import Derived.Test.YthlbenbkgkahoaaDoorM2
set_option linter.unusedVariables false
set_option linter.unusedSimpArgs false
namespace Go.Proofs.YthlbenbkgkahoaaDoor
open Go.RowKit Wd
set_option maxRecDepth 100000 in
set_option maxHeartbeats 1000000 in
theorem macDerives_any {w : World} (ht : Tabs w) {A : Option Addr} {c : Nat} {k lb : List UInt8} (hA : A = none → c = 0) (hk : RB w A k) (hc : k.length ≤ c) (n0 n1 : Int) :
    Calls Tryd.prog 7 #[.slice A k.length c, .string ⟨lb.toArray⟩, .agg #[.int .i64 n0, .int .i64 n1]] w fun e w' => e = .returned (.bool true) ∧ Below w.heap.size w w' := by
  have hsz : (ByteArray.mk lb.toArray).size = lb.length := by show lb.toArray.size = _; simp
  have H := St.start w
  have H1 := H.new [.int .i64 n0, .int .i64 n1] 37
  have HAW := Lib.hid (fun (w1 : World) (M : Mem) (L : List Ent) (H1 : St w w1 M L) => awake_any ht H1)
  by_cases hbig : 2000 < k.length ∨ 2000 < lb.length
  · have hx : (2000 : Int) < (k.length : Int) ∨ (¬ (2000 : Int) < (k.length : Int) ∧ (2000 : Int) < (lb.length : Int)) := by omega
    clear hbig
    rcases hx with hx | ⟨hx, hx2⟩
    all_goals
      go_enter Tryd.func7, Tryd.ntmps7
      go_wp2_with fail
      refine (HAW.out _ _ _ H1).mono ?_
      rintro e w' ⟨rfl, H1⟩
      go_wp2
      go_ret
      exact ⟨rfl, H1.below⟩
  · have q1 : ¬ (2000 : Int) < (k.length : Int) := by omega
    have q2 : ¬ (2000 : Int) < (lb.length : Int) := by omega
    have k2 : k.length ≤ 2000 := by omega
    have b2 : lb.length ≤ 2000 := by omega
    clear hbig
    have sk : Sr w (w.heap[·]?) [] A k := Sr.of_in (In.oldRB H hk)
    have hd := fun (w1 : World) (M : Mem) (hM : Mem.le (w.heap[·]?) M) (n : Int) (H1 : St w w1 M [eb w.heap.size 37 [.int .i64 n0, .int .i64 n1]]) => derive_any ht H1 hA hc ((sk.le hM).cons _) (by omega) (lb := lb) (by omega) n
    have hrd := fun (w1 : World) (M : Mem) (hM : Mem.le (w.heap[·]?) M) (N : Nat) (hN : N ≤ 1024) (H1 : St w w1 M [eb w.heap.size 37 [.int .i64 n0, .int .i64 n1]]) => rderive_any H1 hA hc ((sk.le hM).cons _) (by omega) (lb := lb) (by omega) N hN
    have HDR := Lib.hid hd
    have HRD := Lib.hid hrd
    clear hd hrd
    go_enter Tryd.func7, Tryd.ntmps7
    go_wp2_with fail
    refine (HDR.out _ _ (Mem.le.refl _) n0 H1).mono ?_
    rintro e w1 hres
    rcases hres with ⟨hbad, rfl, H2⟩ | ⟨h0, h1, A1, M1, rfl, hA1, hM1, hin1, H2⟩
    · have hx : n0 < 0 ∨ (¬ n0 < 0 ∧ 1024 < n0) := by omega
      have c0 : w1.cell? ⟨w.heap.size, 0, none⟩ = some (.int .i64 n0) := H2.cell 0 rfl 0
      clear hbad H1
      rcases hx with hx | ⟨hx, hx2⟩
      all_goals
        go_wp2_with fail
        refine (HAW.out _ _ _ H2).mono ?_
        rintro e w' ⟨rfl, H1⟩
        go_wp2
        go_ret
        exact ⟨rfl, H1.below⟩
    · obtain ⟨N, rfl⟩ := Int.eq_ofNat_of_zero_le h0
      rw [Int.toNat_natCast] at hin1 ⊢
      have c0 : w1.cell? ⟨w.heap.size, 0, none⟩ = some (.int .i64 (N : Int)) := H2.cell 0 rfl 0
      have x1 : ¬ (N : Int) < 0 := by omega
      have x2 : ¬ (1024 : Int) < (N : Int) := by omega
      obtain ⟨T, hT⟩ : ∃ T, T = Mac.derive k lb N := ⟨_, rfl⟩
      have hTl : T.length = N := by rw [hT, Mac.derive_len]
      have hrd := fun (w1 : World) (H1 : St w w1 M1 [eb w.heap.size 37 [.int .i64 (N : Int), .int .i64 n1]]) => HRD.out w1 M1 hM1 N (by omega) H1
      rw [← hT] at hin1 hrd
      have HR := Lib.hid hrd
      have HT := Lib.hid hT
      have HTL := Lib.hid hTl
      have HIN := Lib.hid hin1
      clear hrd hT hTl hin1 HRD H1
      have hxx : N = 0 ∨ 0 < N := by omega
      go_wp2
      clear c0
      refine Pt.wp_plan (fun w' => St w w' M1 [eb w.heap.size 37 [.int .i64 (N : Int), .int .i64 n1]]) (Pt.prs [0, 1, 2, 3, 5, 6, 7] (Pt.rds [4, 8] (.go 9 (Pt.rds [10] (Pt.prs [11, 12] .fin))))) [] Tryd.mixed (by kernel_rfl) (fun _ _ d _ _ h => by cases d <;> exact h) H2.drew ?_
      have H3 := H2.drew
      simp only [Pt.toL, Pt.rds, Pt.prs, Pt.at_, List.drop_succ_cons, List.drop_zero]
      iterate 7 (refine Pt.pr_run (v := ?_) (by rfl) ?_ ?_; rotate_left; (focus (intro w'; go_simp; with_reducible rfl)); simp only [Act.put, List.setIfInBounds_toArray, List.set_cons_zero, List.set_cons_succ])
      (refine Pt.rd_run (v := ?_) (by rfl) ?_ ?_; rotate_left; (focus (intro w' hS; have cv := conv_RB (P := Tryd.prog) (src := 22) (dst := 9) (c := N) (n := N) Tryd.underlying22 Tryd.underlying5 Tryd.underlying9 (HIN.out.now hS) HTL.out.symm; go_simp; with_reducible rfl)); simp only [Act.put, List.setIfInBounds_toArray, List.set_cons_zero, List.set_cons_succ])
      (refine Pt.rd_run (v := ?_) (by rfl) ?_ ?_; rotate_left; (focus (intro w' hS; have c0 : w'.cell? ⟨w.heap.size, 0, none⟩ = some (.int .i64 (N : Int)) := hS.cell 0 rfl 0; go_simp; with_reducible rfl)); simp only [Act.put, List.setIfInBounds_toArray, List.set_cons_zero, List.set_cons_succ])
      refine Pt.run_go ?_
      go_wp2_with fail
      refine (HR.out _ H3).mono ?_
      rintro e w3 ⟨A2, c2, M2, rfl, hl2, hA2, hM2, hin2, H4⟩
      rw [HTL.out]
      have HIN2 := Lib.hid hin2
      clear hin2
      go_wp2_with fail
      refine Pt.more (fun w' => St w w' M2 [eb w.heap.size 37 [.int .i64 (N : Int), .int .i64 n1]]) (H4.weak H3 hM2) H4 ?_
      (refine Pt.rd_run (v := ?_) (by rfl) ?_ ?_; rotate_left; (focus (intro w' hS; have cv := conv_RB (P := Tryd.prog) (src := 22) (dst := 9) (c := c2) (n := N) Tryd.underlying22 Tryd.underlying5 Tryd.underlying9 (HIN2.out.now hS.2) HTL.out.symm; go_simp; with_reducible rfl)); simp only [Act.put, List.setIfInBounds_toArray, List.set_cons_zero, List.set_cons_succ])
      iterate 2 (refine Pt.pr_run (v := ?_) (by rfl) ?_ ?_; rotate_left; (focus (intro w'; go_simp; with_reducible rfl)); simp only [Act.put, List.setIfInBounds_toArray, List.set_cons_zero, List.set_cons_succ])
      refine Pt.run_fin ?_
      have c1 : w3.cell? ⟨w.heap.size, 1, none⟩ = some (.int .i64 n1) := H4.cell 0 rfl 1
      go_wp2_with fail
      refine (HDR.out _ _ (hM1.trans hM2) n1 H4).mono ?_
      rintro e w4 hres
      rcases hres with ⟨hbad, rfl, H5⟩ | ⟨k0, k1, A3, M3, rfl, hA3, hM3, hin3, H5⟩
      · clear hbad H2 H3 H4 c1
        go_wp2_with fail
        refine (HAW.out _ _ _ H5).mono ?_
        rintro e w' ⟨rfl, H1⟩
        go_wp2
        go_ret
        exact ⟨rfl, H1.below⟩
      · obtain ⟨N1, rfl⟩ := Int.eq_ofNat_of_zero_le k0
        rw [Int.toNat_natCast] at hin3 ⊢
        clear H2 H3 H4 c1
        by_cases hlt : N1 < N
        · have hltI : (N1 : Int) < (N : Int) := by omega
          clear hlt
          go_wp2_with fail
          refine (HAW.out _ _ _ H5).mono ?_
          rintro e w' ⟨rfl, H1⟩
          go_wp2
          go_ret
          exact ⟨rfl, H1.below⟩
        · have hltI : ¬ (N1 : Int) < (N : Int) := by omega
          have hle : (N : Int) ≤ (N1 : Int) := by omega
          have hpre : (Mac.derive k lb N1).take N = T := by rw [HT.out]; exact Mac.derive_pre k lb N N1 (by omega)
          have hin4 : In M3 (RB · A3 T) := hin3.imp fun W hW => by have := hW.take N; rwa [hpre] at this
          have HIN4 := Lib.hid hin4
          have hnn : A3 = none → N = 0 := fun h => by have := hA3 h; omega
          have hinT : In M3 (RB · A1 T) := (HIN.out.le hM2).le hM3
          have HINT := Lib.hid hinT
          clear hlt hpre hin3 hin4 hinT hA3
          go_wp2
          refine Pt.wp_plan (fun w' => St w w' M3 [eb w.heap.size 37 [.int .i64 (N : Int), .int .i64 (N1 : Int)]]) (Pt.prs [0, 1, 2, 3, 5] (Pt.rds [4, 6] (Pt.prs [7, 8] (.go 9 (Pt.prs [10, 11] .fin))))) [] Tryd.mixed (by kernel_rfl) (fun _ _ d _ _ h => by cases d <;> exact h) H5.drew ?_
          have H6 := H5.drew
          simp only [Pt.toL, Pt.rds, Pt.prs, Pt.at_, List.drop_succ_cons, List.drop_zero]
          iterate 5 (refine Pt.pr_run (v := ?_) (by rfl) ?_ ?_; rotate_left; (focus (intro w'; go_simp; with_reducible rfl)); simp only [Act.put, List.setIfInBounds_toArray, List.set_cons_zero, List.set_cons_succ])
          (refine Pt.rd_run (v := ?_) (by rfl) ?_ ?_; rotate_left; (focus (intro w' hS; have cv := conv_RB (P := Tryd.prog) (src := 22) (dst := 9) (c := N1) (n := N) Tryd.underlying22 Tryd.underlying5 Tryd.underlying9 (HIN4.out.now hS) HTL.out.symm; go_simp; with_reducible rfl)); simp only [Act.put, List.setIfInBounds_toArray, List.set_cons_zero, List.set_cons_succ])
          (refine Pt.rd_run (v := ?_) (by rfl) ?_ ?_; rotate_left; (focus (intro w' hS; have cv := conv_RB (P := Tryd.prog) (src := 22) (dst := 9) (c := N) (n := N) Tryd.underlying22 Tryd.underlying5 Tryd.underlying9 (HINT.out.now hS) HTL.out.symm; go_simp; with_reducible rfl)); simp only [Act.put, List.setIfInBounds_toArray, List.set_cons_zero, List.set_cons_succ])
          iterate 2 (refine Pt.pr_run (v := ?_) (by rfl) ?_ ?_; rotate_left; (focus (intro w'; go_simp; with_reducible rfl)); simp only [Act.put, List.setIfInBounds_toArray, List.set_cons_zero, List.set_cons_succ])
          refine Pt.run_go ?_
          go_wp2_with fail
          refine (HAW.out _ _ _ H6).mono ?_
          rintro e w6 ⟨rfl, H7⟩
          go_wp2_with fail
          refine Pt.same H7 ?_
          iterate 2 (refine Pt.pr_run (v := ?_) (by rfl) ?_ ?_; rotate_left; (focus (intro w'; go_simp; with_reducible rfl)); simp only [Act.put, List.setIfInBounds_toArray, List.set_cons_zero, List.set_cons_succ])
          refine Pt.run_fin ?_
          go_wp2
          go_ret
          exact ⟨rfl, H7.below⟩
end Go.Proofs.YthlbenbkgkahoaaDoor
