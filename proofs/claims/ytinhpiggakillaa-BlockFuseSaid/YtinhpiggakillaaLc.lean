/- BlockActs walked: the acts. -/
import Derived.Test.YtinhpiggakillaaLb
set_option linter.unusedVariables false
set_option linter.unusedSimpArgs false
namespace Go.Proofs.Ytinhpiggakillaa
open Go.RowKit Wd
theorem Try.sizeAct : (Try.prog.info? 40).map (·.size) = some 5 := by kernel_rfl
def R0 (l : List UInt8) : RM := ⟨l, [], false, 0, 0, false⟩
theorem rel_load (l : List UInt8) (h0 : l.length % 64 = 0) (h1 : l.length ≤ 262144) : Rel (FM.load l) (R0 l) 0 :=
  { n2 := (by show l.length / 64 ≤ 4096; omega), len := (by show l.length = 64 * (l.length / 64); omega), ok := (fun e he => by cases he), l := rfl, pend := rfl, set := rfl, off := rfl, left := (fun h => by cases h), lo := (by show -((0 : Nat) : Int) ≤ 0; omega), hi := (by show (0 : Int) ≤ _; omega), torn := (fun h => by cases h), many := (Nat.le_refl _) }
set_option maxRecDepth 100000 in
set_option maxHeartbeats 4000000 in
theorem acts_main {w : World} {A : Option Addr} {c : Nat} {l : List UInt8} (hA : A = none → c = 0) (hc : l.length ≤ c) (hl : RB w A l) {B : Option Addr} {d : Nat} {ax : List AM} (hB : RA w B (amcs ax)) (hK : ∀ a ∈ ax, a.k ≤ 9223372036854775807) (hlen : ax.length ≤ 9223372036854775807)
    (h1 : l.length % 64 = 0) (h0 : 64 ≤ l.length) (h2 : l.length ≤ 4096) :
    Calls Try.prog 7 #[.slice A l.length c, .slice B ax.length d] w fun e w' => e = .returned (.bool true) ∧ Below w.heap.size w w' := by
  have H1 := (St.start w).lit0 5
  have hl0 := In.oldRB (St.start w) hl
  have hB0 := In.oldRA (St.start w) hB
  have r1 : RB (w.alloc (.cells #[] 5)) A l := hl.below ((Below.refl _ _).alloc (Nat.le_refl _) _)
  have g1 : (((l.length : Int) % 64) != 0) = false := by simp; omega
  have g2 : ¬ (l.length : Int) < 64 := by omega
  have g3 : ¬ (262144 : Int) < (l.length : Int) := by omega
  have g4 : ¬ (4096 : Int) < (l.length : Int) := by omega
  have hr0 := rel_load l h1 (by omega)
  have hv0 : RV (w.heap[·]?) (R0 l) A c none 0 := ⟨hA, hc, hl0, fun _ => rfl, Nat.le_refl _, fun W _ => wcs_nil_ra W none⟩
  have H64 := Lib.hid h1
  clear h1
  go_enter Try.func7, Try.ntmps7
  go_wp2_with (at_builtin; refine wpList_append_st H1 (by rfl) (.tmp 15) (.tmp 16) 28 (by rfl) Try.info5 Try.underlying28 (by rfl) A l.length c l (by rfl) rfl hA r1 (by omega) ?_)
  intro v1 w1 H2
  obtain ⟨A1, c1, rfl, hc1⟩ := H2.shape 0 rfl
  try simp only [Nat.zero_add, List.nil_append] at H2
  try simp only [Nat.zero_add] at hc1
  clear H1 r1
  go_wp2_with fail
  refine (fs_load H2.d0 (er_RB (H2.get 0 rfl)) H64.out (by omega) (by omega) hc1).mono ?_
  rintro e w2 ⟨f, rfl, H3⟩
  clear H2 hl0
  have H4 := H3.newg (rval (R0 l) A c none 0) 38 rfl
  simp only [rval, rfv, R0, List.length_nil] at H4
  go_upto_region 9 with fail
  generalize hg7 : w2.heap.size = g7 at *
  generalize hw3 : w2.alloc (.cells _ 38) = w3 at *
  have H5 : FS w w3 (w.heap[·]?) f (FM.load l) [eb g7 38 (rval (R0 l) A c none 0)] := H4
  clear H3 H4 hg7 hw3
  go_wp2
  go_loopw [8] (fun i wr => ∃ (k : Nat) (F : FM) (R : RM) (A' : Option Addr) (c' : Nat) (B' : Option Addr) (d' : Nat) (M' : Mem), k ≤ ax.length ∧ k ≤ 60 ∧ i = .int .i64 k ∧ Mem.le (w.heap[·]?) M' ∧ RV M' R A' c' B' d' ∧ Rel F R k ∧ F.n = l.length / 64 ∧ FS w wr M' f F [eb g7 38 (rval R A' c' B' d')]) (fun i _ => 60 - (intOf i).toNat)
  case atStart => exact ⟨0, FM.load l, R0 l, A, c, none, 0, (w.heap[·]?), by omega, by omega, rfl, Mem.le.refl _, hv0, hr0, rfl, H5⟩
  case round =>
    obtain ⟨k, F, R, A', c', B', d', M', hk, hk60, rfl, hM', hv, hr, hFn, H6⟩ := hrel
    have HFN := Lib.hid hFn
    clear H5 hFn
    by_cases hlt : k < ax.length ∧ k < 60
    · obtain ⟨hlt, h60⟩ := hlt
      obtain ⟨a, ha⟩ : ∃ a, a = ax[k] := ⟨_, rfl⟩
      have haK := hK _ (List.getElem_mem hlt)
      obtain ⟨b, bo, rfl, _⟩ := hB.at5 k hlt
      have hin : In (w.heap[·]?) fun W => W.rangeAt b (bo + k * 5) a.cells := fun W hW => by
        obtain ⟨b', bo', he, hr⟩ := (hB0 W hW).at5 k hlt
        injection he with he
        injection he with e1 e2
        subst e1 e2
        rw [ha]
        exact hr
      rw [← ha] at haK
      clear ha
      go_wp2
      refine Pt.wp_plan (fun w' => Agr M' w' ∧ Blk w' g7 38 (rval R A' c' B' d')) (Pt.prs [0, 2, 3, 4] (Pt.rds [1, 5] (.go 6 (Pt.prs [7, 8, 9] (.st 10 (Pt.prs [11] .fin)))))) [10] Try.mixed (by kernel_rfl) (fun _ _ d _ _ h => by cases d <;> exact h) ⟨H6.drew.rest.agr, H6.drew.rest.blk 0 rfl⟩ ?_
      simp only [Pt.toL, Pt.rds, Pt.prs, Pt.at_, List.drop_succ_cons, List.drop_zero]
      iterate 4 (refine Pt.pr_run (v := ?_) (by rfl) ?_ ?_; rotate_left; (focus (intro w'; go_simp; with_reducible rfl)); simp only [Act.put, List.setIfInBounds_toArray, List.set_cons_zero, List.set_cons_succ])
      (refine Pt.rd_load (by rfl) 38 (.tmp 7) (by rfl) g7 0 (by rfl) (rval R A' c' B' d') _ (fun _ h => h.2.range 0 6 _ rfl) Try.underlying38 rfl (by exact Try.sizeRF) ?_; simp only [Act.put, List.setIfInBounds_toArray, List.set_cons_zero, List.set_cons_succ])
      (refine Pt.rd_load (by rfl) 40 (.tmp 79) (by rfl) b (bo + k * 5) (by rfl) a.cells _ (fun _ h => (hin.le hM') _ h.1) Try.underlying40 rfl (by exact Try.sizeAct) ?_; simp only [Act.put, List.setIfInBounds_toArray, List.set_cons_zero, List.set_cons_succ])
      refine Pt.run_go ?_
      go_wp2_with fail
      refine (does_any H6.drew hv hr hk60 a.d a.i a.b a.k a.t haK).mono ?_
      rintro e w4 ⟨F1, R1, A1', c1', B1, d1, M1, rfl, hM1, hv1, hr1, hF1, H7⟩
      have HF1 := Lib.hid hF1
      clear hF1
      go_wp2_with fail
      refine Pt.same ⟨H7.rest.agr.le hM1, H7.rest.blk 0 rfl⟩ ?_
      iterate 3 (refine Pt.pr_run (v := ?_) (by rfl) ?_ ?_; rotate_left; (focus (intro w'; go_simp; with_reducible rfl)); simp only [Act.put, List.setIfInBounds_toArray, List.set_cons_zero, List.set_cons_succ])
      refine Pt.run_st ?_
      obtain ⟨ok1, lb1, pv1, H8⟩ := H7
      refine wpList_store_st H8.f3 (by rfl) 38 (.tmp 7) (.tmp 82) (by rfl) 0 (rval R1 A1' c1' B1 d1) (by rfl) (by rfl) (Nat.le_refl _) (by exact Try.sizeRF) (by intro u hu; simp [rval, rfv] at hu; rcases hu with rfl | rfl | rfl | rfl | rfl | rfl <;> rfl) ?_
      intro w5 H9
      have H10 : FS w w5 M1 f F1 [eb g7 38 (rval R1 A1' c1' B1 d1)] := ⟨ok1, lb1, pv1, fs_add rfl H9⟩
      clear H8 H9 H6 hv hr
      refine wpList_nil ?_
      refine cast rfl ?_
      simp only [Act.put, List.setIfInBounds_toArray, List.set_cons_zero, List.set_cons_succ]
      (refine Pt.pr_run (v := ?_) (by rfl) ?_ ?_; rotate_left; (focus (intro w'; go_simp; with_reducible rfl)); simp only [Act.put, List.setIfInBounds_toArray, List.set_cons_zero, List.set_cons_succ])
      refine Pt.run_fin ?_
      have hpd := fs_pending H10.drew
      rw [hr1.pn] at hpd
      have HPD := Lib.hid hpd
      clear hpd
      go_wp2
      refine Pt.wp_plan (fun w' => Blk w' g7 38 (rval R1 A1' c1' B1 d1)) (Pt.prs [0, 1, 2, 3, 5] (Pt.rds [6] (Pt.prs [7] (.go 4 (Pt.prs [8, 9] .fin))))) [] Try.mixed (by kernel_rfl) (fun _ _ d _ _ h => by cases d <;> exact h) (H10.drew.rest.blk 0 rfl) ?_
      simp only [Pt.toL, Pt.rds, Pt.prs, Pt.at_, List.drop_succ_cons, List.drop_zero]
      iterate 5 (refine Pt.pr_run (v := ?_) (by rfl) ?_ ?_; rotate_left; (focus (intro w'; go_simp; with_reducible rfl)); simp only [Act.put, List.setIfInBounds_toArray, List.set_cons_zero, List.set_cons_succ])
      (refine Pt.rd_run (v := ?_) (by rfl) ?_ ?_; rotate_left; (focus (intro w' hS; have c1 : w'.cell? ⟨g7, 1, none⟩ = some (.slice B1 R1.ws.length d1) := Blk.cell hS 1; go_simp; with_reducible rfl)); simp only [Act.put, List.setIfInBounds_toArray, List.set_cons_zero, List.set_cons_succ])
      (refine Pt.pr_run (v := ?_) (by rfl) ?_ ?_; rotate_left; (focus (intro w'; go_simp; with_reducible rfl)); simp only [Act.put, List.setIfInBounds_toArray, List.set_cons_zero, List.set_cons_succ])
      refine Pt.run_go ?_
      go_wp2_with fail
      refine HPD.out.mono ?_
      rintro e w6 ⟨rfl, rfl⟩
      go_wp2_with fail
      refine Pt.same (H10.drew.rest.blk 0 rfl) ?_
      iterate 2 (refine Pt.pr_run (v := ?_) (by rfl) ?_ ?_; rotate_left; (focus (intro w'; go_simp; with_reducible rfl)); simp only [Act.put, List.setIfInBounds_toArray, List.set_cons_zero, List.set_cons_succ])
      refine Pt.run_fin ?_
      have H11 := H10.drew
      generalize w5.drew = w6 at *
      clear H10 HPD
      have ci : w6.cell? ⟨b, bo + k * 5 + 1, none⟩ = some (.int .i64 a.i) := (hin.le (hM'.trans hM1)) _ H11.rest.agr 1 _ rfl
      go_wp2_with fail
      refine (fs_readM H11 a.i).mono ?_
      rintro e w7 ⟨X, cx, M2, rfl, hM2, hX, H12⟩
      clear ci H11
      go_wp2
      refine Pt.wp_plan (fun w' => Agr M2 w' ∧ Blk w' g7 38 (rval R1 A1' c1' B1 d1)) (Pt.prs [1, 2, 3, 4] (Pt.rds [0, 5] (.go 6 (Pt.prs [7, 8, 9, 10, 11] .fin)))) [] Try.mixed (by kernel_rfl) (fun _ _ d _ _ h => by cases d <;> exact h) ⟨H12.drew.rest.agr, H12.drew.rest.blk 0 rfl⟩ ?_
      simp only [Pt.toL, Pt.rds, Pt.prs, Pt.at_, List.drop_succ_cons, List.drop_zero]
      iterate 4 (refine Pt.pr_run (v := ?_) (by rfl) ?_ ?_; rotate_left; (focus (intro w'; go_simp; with_reducible rfl)); simp only [Act.put, List.setIfInBounds_toArray, List.set_cons_zero, List.set_cons_succ])
      (refine Pt.rd_load (by rfl) 38 (.tmp 7) (by rfl) g7 0 (by rfl) (rval R1 A1' c1' B1 d1) _ (fun _ h => h.2.range 0 6 _ rfl) Try.underlying38 rfl (by exact Try.sizeRF) ?_; simp only [Act.put, List.setIfInBounds_toArray, List.set_cons_zero, List.set_cons_succ])
      (refine Pt.rd_run (v := ?_) (by rfl) ?_ ?_; rotate_left; (focus (intro w' hS; have c1 : w'.cell? ⟨b, bo + k * 5 + 1, none⟩ = some (.int .i64 a.i) := (hin.le ((hM'.trans hM1).trans hM2)) _ hS.1 1 _ rfl; go_simp; with_reducible rfl)); simp only [Act.put, List.setIfInBounds_toArray, List.set_cons_zero, List.set_cons_succ])
      refine Pt.run_go ?_
      obtain ⟨ok2, lb2, pv2, H13⟩ := H12.drew
      go_wp2_with fail
      refine (ref_readM H13 (hv1.le hM2) hr1 (by omega) a.i).mono ?_
      rintro e w8 ⟨Y, cy, M3, rfl, hM3, hY, H14⟩
      go_wp2_with fail
      refine Pt.same ⟨H14.agr.le hM3, H14.blk 3 rfl⟩ ?_
      iterate 5 (refine Pt.pr_run (v := ?_) (by rfl) ?_ ?_; rotate_left; (focus (intro w'; go_simp; with_reducible rfl)); simp only [Act.put, List.setIfInBounds_toArray, List.set_cons_zero, List.set_cons_succ])
      refine Pt.run_fin ?_
      have H15 : FS w w8 M3 f F1 [eb g7 38 (rval R1 A1' c1' B1 d1)] := ⟨ok2, lb2, pv2, H14⟩
      have cvX := conv_RB (P := Try.prog) (src := 28) (dst := 9) (c := cx) Try.underlying28 Try.underlying5 Try.underlying9 ((hX.le hM3).now H14) rfl
      have cvY := conv_RB (P := Try.prog) (src := 28) (dst := 9) (c := cy) Try.underlying28 Try.underlying5 Try.underlying9 (hY.now H14) rfl
      clear H12 H13 H14 hX hY
      obtain ⟨bs, hbs⟩ : ∃ bs, bs = rdB F1.l F1.n a.i := ⟨_, rfl⟩
      rw [← hbs] at cvX cvY ⊢
      have hrel : ∃ (k_1 : Nat) (F : FM) (R : RM) (A' : Option Addr) (c' : Nat) (B' : Option Addr) (d' : Nat) (M' : Mem), k_1 ≤ ax.length ∧ k_1 ≤ 60 ∧ Value.int .i64 ((k : Int) + 1) = .int .i64 k_1 ∧ Mem.le (w.heap[·]?) M' ∧ RV M' R A' c' B' d' ∧ Rel F R k_1 ∧ F.n = l.length / 64 ∧ FS w w8 M' f F [eb g7 38 (rval R A' c' B' d')] :=
        ⟨k + 1, F1, R1, A1', c1', B1, d1, M3, by omega, by omega, by go_num, ((hM'.trans hM1).trans hM2).trans hM3, hv1.le (hM2.trans hM3), hr1, HF1.out.trans HFN.out, H15⟩
      have HREL := Lib.hid hrel
      clear hrel hbs H15
      cases hib : isB F1.n a.i with
      | true =>
        have he : rdE F1.n a.i = 0 := by unfold rdE; rw [hib]; rfl
        rw [he]
        clear he hib
        go_wp2
        exact ⟨HREL.out, by simp [intOf]; omega⟩
      | false =>
        have he : rdE F1.n a.i = 4 := by unfold rdE; rw [hib]; rfl
        rw [he]
        clear he hib
        go_wp2
        exact ⟨HREL.out, by simp [intOf]; omega⟩
    · have hdl : F.l.length = l.length := by have h5 := H6.1.len; have h6 := HFN.out; have h7 := H64.out; omega
      have HDL := Lib.hid hdl
      have q1 : (F.n : Int) = (l.length : Int) / 64 := by have h6 := HFN.out; omega
      have HQ := Lib.hid q1
      clear hdl q1
      have hx : ¬ k < ax.length ∨ (k < ax.length ∧ k = 60) := by omega
      clear hlt
      rcases hx with hx | ⟨hx, rfl⟩
      all_goals
        go_wp2
        refine Pt.wp_plan (fun w' => Agr M' w' ∧ Blk w' g7 38 (rval R A' c' B' d')) (Pt.prs [0] (Pt.rds [3] (.go 1 (Pt.rds [2] (.go 4 (Pt.rds [5] (Pt.prs [6, 7, 8, 10, 11, 12] (.go 9 (Pt.prs [13, 14, 15] (.go 16 (Pt.prs [17, 18] .fin))))))))))) [] Try.mixed (by kernel_rfl) (fun _ _ d _ _ h => by cases d <;> exact h) ⟨H6.drew.rest.agr, H6.drew.rest.blk 0 rfl⟩ ?_
        simp only [Pt.toL, Pt.rds, Pt.prs, Pt.at_, List.drop_succ_cons, List.drop_zero]
        (refine Pt.pr_run (v := ?_) (by rfl) ?_ ?_; rotate_left; (focus (intro w'; go_simp; with_reducible rfl)); simp only [Act.put, List.setIfInBounds_toArray, List.set_cons_zero, List.set_cons_succ])
        (refine Pt.rd_load (by rfl) 38 (.tmp 7) (by rfl) g7 0 (by rfl) (rval R A' c' B' d') _ (fun _ h => h.2.range 0 6 _ rfl) Try.underlying38 rfl (by exact Try.sizeRF) ?_; simp only [Act.put, List.setIfInBounds_toArray, List.set_cons_zero, List.set_cons_succ])
        refine Pt.run_go ?_
        go_wp2_with fail
        refine (fs_dumpM H6.drew).mono ?_
        rintro e w4 ⟨X, cx, M1, rfl, hM1, hX, H7⟩
        go_wp2_with fail
        refine Pt.more (fun w' => Agr M1 w') ⟨H7.rest.agr.le hM1, H7.rest.blk 0 rfl⟩ H7.rest.agr ?_
        (refine Pt.rd_run (v := ?_) (by rfl) ?_ ?_; rotate_left; (focus (intro w' hS; have cvX := conv_RB (P := Try.prog) (src := 28) (dst := 9) (c := cx) Try.underlying28 Try.underlying5 Try.underlying9 (hX w' hS.2) rfl; go_simp; with_reducible rfl)); simp only [Act.put, List.setIfInBounds_toArray, List.set_cons_zero, List.set_cons_succ])
        obtain ⟨ok2, lb2, pv2, H8⟩ := H7
        refine Pt.run_go ?_
        go_wp2_with fail
        refine (ref_dumpM H8 (hv.le hM1) hr (by omega)).mono ?_
        rintro e w5 ⟨Y, cy, M2, rfl, hM2, hY, H9⟩
        go_wp2_with fail
        refine Pt.more (fun w' => Agr M2 w') ⟨⟨H9.agr.le (hM1.trans hM2), H9.blk 3 rfl⟩, H9.agr.le hM2⟩ H9.agr ?_
        (refine Pt.rd_run (v := ?_) (by rfl) ?_ ?_; rotate_left; (focus (intro w' hS; have cvY := conv_RB (P := Try.prog) (src := 28) (dst := 9) (c := cy) Try.underlying28 Try.underlying5 Try.underlying9 (hY w' hS.2) rfl; go_simp; with_reducible rfl)); simp only [Act.put, List.setIfInBounds_toArray, List.set_cons_zero, List.set_cons_succ])
        iterate 6 (refine Pt.pr_run (v := ?_) (by rfl) ?_ ?_; rotate_left; (focus (intro w'; go_simp; with_reducible rfl)); simp only [Act.put, List.setIfInBounds_toArray, List.set_cons_zero, List.set_cons_succ])
        have H10 : FS w w5 M2 f F [eb g7 38 (rval R A' c' B' d')] := ⟨ok2, lb2, pv2, H9⟩
        refine Pt.run_go ?_
        go_wp2_with fail
        refine (fs_blocks H10).mono ?_
        rintro e w6 ⟨rfl, rfl⟩
        rw [HQ.out]
        go_wp2_with fail
        refine Pt.same ⟨⟨⟨H9.agr.le (hM1.trans hM2), H9.blk 3 rfl⟩, H9.agr.le hM2⟩, H9.agr⟩ ?_
        iterate 3 (refine Pt.pr_run (v := ?_) (by rfl) ?_ ?_; rotate_left; (focus (intro w'; go_simp; with_reducible rfl)); simp only [Act.put, List.setIfInBounds_toArray, List.set_cons_zero, List.set_cons_succ])
        refine Pt.run_go ?_
        go_wp2_with fail
        refine (awake_fs H10).mono ?_
        rintro e w7 ⟨rfl, H11⟩
        go_wp2_with fail
        refine Pt.same ⟨⟨⟨H11.rest.agr.le (hM1.trans hM2), H11.rest.blk 0 rfl⟩, H11.rest.agr.le hM2⟩, H11.rest.agr⟩ ?_
        iterate 2 (refine Pt.pr_run (v := ?_) (by rfl) ?_ ?_; rotate_left; (focus (intro w'; go_simp; with_reducible rfl)); simp only [Act.put, List.setIfInBounds_toArray, List.set_cons_zero, List.set_cons_succ])
        refine Pt.run_fin ?_
        go_wp2
        go_ret
        exact ⟨rfl, H11.rest.below⟩
end Go.Proofs.Ytinhpiggakillaa
