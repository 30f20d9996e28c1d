/- The law's own 'does': a write of too few bytes; any act. -/
import Derived.Test.YtinhpiggakillaaDw
set_option linter.unusedVariables false
set_option linter.unusedSimpArgs false
namespace Go.Proofs.Ytinhpiggakillaa
open Go.RowKit Wd
section
variable {w0 w : World} {M : Mem} {L : List Ent} {f : Nat} {F : FM} {R : RM} {A B : Option Addr} {c d j : Nat}
set_option maxRecDepth 100000 in
set_option maxHeartbeats 2000000 in
theorem does_short (HF : FS w0 w M f F L) (hv : RV M R A c B d) (hr : Rel F R j) (hj : j ≤ 60) (I : Int) (x : UInt8) (K T : Int) :
    Calls Try.prog 14 #[.pointer (some ⟨f, 0, none⟩), .agg (rval R A c B d).toArray, .agg (acs 3 I x K T).toArray] w (Did w0 M f F j L) := by
  have H3 := ((HF.newg (rval R A c B d) 38 rfl).newg (acs 3 I x K T) 40 (g := w.heap.size + 1) (by simp)).newg rfz 38 (g := w.heap.size + 1 + 1) (by simp)
  simp only [rval, rfv, acs, rfz] at H3 ⊢
  have hm := hr.many
  have hpn := hr.pn
  have HPN := Lib.hid hpn
  have xlt : (x.toNat : Int) < 256 := by have := x.toNat_lt; omega
  obtain ⟨q, hq⟩ : ∃ q : Nat, q = x.toNat % 64 := ⟨_, rfl⟩
  have q64 : q ≤ 64 := by omega
  have HQ := Lib.hid hq
  have ht : (x.toNat : Int).tmod 64 = (q : Int) := by rw [Int.tmod_eq_emod_of_nonneg (by omega)]; omega
  have q0 : (0 : Int) ≤ (q : Int) := by omega
  have q1 : (q : Int) ≤ 64 := by omega
  clear hpn hq
  go_enter Try.func14, Try.ntmps14
  go_wp2
  generalize hg : w.heap.size = g at *
  generalize hw1 : World.alloc _ (.cells #[.slice none 0 0, .slice none 0 0, .bool false, .int .i64 0, .int .i64 0, .bool false] 38) = w1 at *
  clear hg hw1 HF
  refine Pt.wp_plan (fun w' => Blk w' (g + 1) 40 [.int .i64 3, .int .i64 I, .int .u8 (x.toNat : Int), .int .i64 K, .int .i64 T]) (Pt.prs [0, 1, 3, 6] (Pt.rds [2, 4, 7] (Pt.prs [8] (.go 5 (Pt.prs [9] (.go 10 (Pt.prs [11] .fin))))))) [] Try.mixed (by kernel_rfl) (fun _ _ d _ _ h => by cases d <;> exact h) (H3.drew.rest.blk 1 rfl) ?_
  simp only [Pt.toL, Pt.rds, Pt.prs, Pt.at_, List.drop_succ_cons, List.drop_zero]
  iterate 4 (refine Pt.pr_run (v := ?_) (by rfl) ?_ ?_; rotate_left; (focus (intro w'; go_simp; with_reducible rfl)); simp only [Act.put, List.setIfInBounds_toArray, List.set_cons_zero, List.set_cons_succ])
  iterate 3 (refine Pt.rd_run (v := ?_) (by rfl) ?_ ?_; rotate_left; (focus (intro w' hS; have c1 := Blk.cell hS 1; have c2 := Blk.cell hS 2; simp only [List.getElem?_cons_succ, List.getElem?_cons_zero] at c1 c2; go_simp; with_reducible rfl)); simp only [Act.put, List.setIfInBounds_toArray, List.set_cons_zero, List.set_cons_succ])
  (refine Pt.pr_run (v := ?_) (by rfl) ?_ ?_; rotate_left; (focus (intro w'; go_simp; with_reducible rfl)); simp only [Act.put, List.setIfInBounds_toArray, List.set_cons_zero, List.set_cons_succ])
  refine Pt.run_go ?_
  go_wp2_with fail
  refine (fs_filled H3.drew x).mono ?_
  rintro e w2 ⟨gb, rfl, H4⟩
  go_wp2_with fail
  refine Pt.same (H4.rest.blk 2 rfl) ?_
  (refine Pt.pr_run (v := ?_) (by rfl) ?_ ?_; rotate_left; (focus (intro w'; go_simp; with_reducible rfl)); simp only [Act.put, List.setIfInBounds_toArray, List.set_cons_zero, List.set_cons_succ])
  refine Pt.run_go ?_
  go_wp2_with fail
  refine (fs_wrote H4 I (nb := q) (b := (List.replicate 64 x).take q) (by simp; omega) (((H4.rest.blk 0 rfl).RB (l := List.replicate 64 x) (by simp [bv])).take q) (by have := HPN.out; omega)).mono ?_
  rintro e w3 ⟨F', r, rfl, hW, H5⟩
  go_wp2_with fail
  refine Pt.same (H5.rest.blk 2 rfl) ?_
  (refine Pt.pr_run (v := ?_) (by rfl) ?_ ?_; rotate_left; (focus (intro w'; go_simp; with_reducible rfl)); simp only [Act.put, List.setIfInBounds_toArray, List.set_cons_zero, List.set_cons_succ])
  refine Pt.run_fin ?_
  have H6 := H5.drop
  clear H3 H4 H5
  go_upto_region 13 with fail
  go_cut [9, 10] (fun s9 s10 wx => ∃ (g9 : Nat) (R' : RM) (A' : Option Addr) (c' : Nat) (B' : Option Addr) (d' : Nat) (M' : Mem), s9 = .pointer (some ⟨g9, 0, none⟩) ∧ s10 = .int .i64 r ∧ M.le M' ∧ RV M' R' A' c' B' d' ∧ Rel F' R' (j + 1) ∧ FS w0 wx M' f F' (eb g9 38 (rval R' A' c' B' d') :: eb (g + 1 + 1) 38 rfz :: L))
  case first =>
    refine Pt.wp_plan (fun w' => Blk w' (g + 1) 40 [.int .i64 3, .int .i64 I, .int .u8 (x.toNat : Int), .int .i64 K, .int .i64 T] ∧ Blk w' g 38 [.slice A R.b.length c, .slice B R.ws.length d, .bool R.set, .int .i64 R.left, .int .i64 R.torn, .bool R.off]) (Pt.prs [1, 3, 6] (Pt.rds [0, 2, 4, 7] (Pt.prs [8] (.go2 5 (Pt.prs [9] (.go2 10 (Pt.prs [11, 12, 13] (.go 14 (.st 15 (Pt.prs [16] .fin)))) 14 (.go 10 (Pt.prs [11, 12, 13] (.st 15 (Pt.prs [16] .fin)))))) 14 (.go 5 (Pt.prs [9] (.go 10 (Pt.prs [11, 12, 13] (.st 15 (Pt.prs [16] .fin)))))))))) [15] Try.mixed (by kernel_rfl) (fun _ _ d _ _ h => by cases d <;> exact h) ⟨H6.drew.rest.blk 1 rfl, H6.drew.rest.blk 2 rfl⟩ ?_
    simp only [Pt.toL, Pt.rds, Pt.prs, Pt.at_, List.drop_succ_cons, List.drop_zero]
    iterate 3 (refine Pt.pr_run (v := ?_) (by rfl) ?_ ?_; rotate_left; (focus (intro w'; go_simp; with_reducible rfl)); simp only [Act.put, List.setIfInBounds_toArray, List.set_cons_zero, List.set_cons_succ])
    (refine Pt.rd_load (by rfl) 38 (.tmp 4) (by rfl) g 0 (by rfl) [.slice A R.b.length c, .slice B R.ws.length d, .bool R.set, .int .i64 R.left, .int .i64 R.torn, .bool R.off] _ (fun _ h => h.2.range 0 6 _ rfl) Try.underlying38 rfl (by exact Try.sizeRF) ?_; simp only [Act.put, List.setIfInBounds_toArray, List.set_cons_zero, List.set_cons_succ])
    iterate 3 (refine Pt.rd_run (v := ?_) (by rfl) ?_ ?_; rotate_left; (focus (intro w' hS; have c1 := Blk.cell hS.1 1; have c2 := Blk.cell hS.1 2; simp only [List.getElem?_cons_succ, List.getElem?_cons_zero] at c1 c2; go_simp; with_reducible rfl)); simp only [Act.put, List.setIfInBounds_toArray, List.set_cons_zero, List.set_cons_succ])
    (refine Pt.pr_run (v := ?_) (by rfl) ?_ ?_; rotate_left; (focus (intro w'; go_simp; with_reducible rfl)); simp only [Act.put, List.setIfInBounds_toArray, List.set_cons_zero, List.set_cons_succ])
    have H7 := H6.drew
    clear H6
    refine Pt.run_go2 ?_ ?_
    · go_wp2_with fail
      refine (fs_filled H7 x).mono ?_
      rintro e H8w ⟨H8g, rfl, H8⟩
      go_wp2_with fail
      refine Pt.same ⟨H8.rest.blk 2 rfl, H8.rest.blk 3 rfl⟩ ?_
      (refine Pt.pr_run (v := ?_) (by rfl) ?_ ?_; rotate_left; (focus (intro w'; go_simp; with_reducible rfl)); simp only [Act.put, List.setIfInBounds_toArray, List.set_cons_zero, List.set_cons_succ])
      refine Pt.run_go2 ?_ ?_
      · obtain ⟨H9ok, H9lb, H9pv, H9z⟩ := H8
        go_wp2_with fail
        refine (add_wrote (nb := q) (cb := 64) (b := (List.replicate 64 x).take q) H9z hv hr (by omega) I (by simp; omega) q64 q64 (by rintro ⟨⟩) ((Sr.blk (l := List.replicate 64 x) 3 rfl (by simp [bv])).take q) hW).mono ?_
        rintro e H9w ⟨R', A', c', B', d', M', rfl, hM', hv', hr', H9y⟩
        simp only [rval, rfv]
        go_wp2_with fail
        refine Pt.same ⟨H9y.blk 5 rfl, H9y.blk 6 rfl⟩ ?_
        iterate 3 (refine Pt.pr_run (v := ?_) (by rfl) ?_ ?_; rotate_left; (focus (intro w'; go_simp; with_reducible rfl)); simp only [Act.put, List.setIfInBounds_toArray, List.set_cons_zero, List.set_cons_succ])
        refine Pt.run_go ?_
        have HA := H9y.newg rfz 38 rfl
        simp only [rfz, rfv] at HA
        go_wp2_with fail
        refine Pt.same ⟨HA.blk 6 rfl, HA.blk 7 rfl⟩ ?_
        refine Pt.run_st ?_
        go_wp2_with fail
        refine cast rfl ?_
        (refine Pt.pr_run (v := ?_) (by rfl) ?_ ?_; rotate_left; (focus (intro w'; go_simp; with_reducible rfl)); simp only [Act.put, List.setIfInBounds_toArray, List.set_cons_zero, List.set_cons_succ])
        refine Pt.run_fin ?_
        go_wp2_with fail
        go_meet
        have HB := H9y.newg (rval R' A' c' B' d') 38 rfl
        exact ⟨_, R', A', c', B', d', M', rfl, rfl, hM', hv', hr', H9ok, H9lb, H9pv, (fs_add rfl HB).sub (by repeat (first | exact List.Sublist.refl _ | apply List.Sublist.cons_cons | apply List.Sublist.cons))⟩
      · have HA := H8.newg rfz 38 rfl
        simp only [rfz, rfv] at HA
        go_wp2_with fail
        refine Pt.same ⟨HA.rest.blk 3 rfl, HA.rest.blk 4 rfl⟩ ?_
        refine Pt.run_go ?_
        obtain ⟨HCok, HClb, HCpv, HCz⟩ := HA
        go_wp2_with fail
        refine (add_wrote (nb := q) (cb := 64) (b := (List.replicate 64 x).take q) HCz hv hr (by omega) I (by simp; omega) q64 q64 (by rintro ⟨⟩) ((Sr.blk (l := List.replicate 64 x) 4 rfl (by simp [bv])).take q) hW).mono ?_
        rintro e HCw ⟨R', A', c', B', d', M', rfl, hM', hv', hr', HCy⟩
        simp only [rval, rfv]
        go_wp2_with fail
        refine Pt.same ⟨HCy.blk 6 rfl, HCy.blk 7 rfl⟩ ?_
        iterate 3 (refine Pt.pr_run (v := ?_) (by rfl) ?_ ?_; rotate_left; (focus (intro w'; go_simp; with_reducible rfl)); simp only [Act.put, List.setIfInBounds_toArray, List.set_cons_zero, List.set_cons_succ])
        have HCf := HCy.f3
        obtain ⟨x0, x1, x2, x3, x4, x5⟩ := HCf.cells6 0 rfl
        have fz := HCf.frozen 0 rfl
        refine Pt.run_st ?_
        go_wp2_with fail
        refine cast rfl ?_
        (refine Pt.pr_run (v := ?_) (by rfl) ?_ ?_; rotate_left; (focus (intro w'; go_simp; with_reducible rfl)); simp only [Act.put, List.setIfInBounds_toArray, List.set_cons_zero, List.set_cons_succ])
        refine Pt.run_fin ?_
        have HB := (((((HCf.set 0 (.slice A' R'.b.length c')).set 1 (.slice B' R'.ws.length d')).set 2 (.bool R'.set)).set 3 (.int .i64 R'.left)).set 4 (.int .i64 R'.torn)).set 5 (.bool R'.off)
        go_wp2_with fail
        go_meet
        exact ⟨_, R', A', c', B', d', M', rfl, rfl, hM', hv', hr', HCok, HClb, HCpv, (fs_add rfl HB).sub (by repeat (first | exact List.Sublist.refl _ | apply List.Sublist.cons_cons | apply List.Sublist.cons))⟩
    · have HA := H7.newg rfz 38 (g := w3.heap.size) rfl
      simp only [rfz, rfv] at HA
      go_wp2_with fail
      refine Pt.same ⟨HA.rest.blk 2 rfl, HA.rest.blk 3 rfl⟩ ?_
      refine Pt.run_go ?_
      go_wp2_with fail
      refine (fs_filled HA x).mono ?_
      rintro e w5 ⟨gb2, rfl, HD⟩
      go_wp2_with fail
      refine Pt.same ⟨HD.rest.blk 3 rfl, HD.rest.blk 4 rfl⟩ ?_
      (refine Pt.pr_run (v := ?_) (by rfl) ?_ ?_; rotate_left; (focus (intro w'; go_simp; with_reducible rfl)); simp only [Act.put, List.setIfInBounds_toArray, List.set_cons_zero, List.set_cons_succ])
      refine Pt.run_go ?_
      obtain ⟨HCok, HClb, HCpv, HCz⟩ := HD
      go_wp2_with fail
      refine (add_wrote (nb := q) (cb := 64) (b := (List.replicate 64 x).take q) HCz hv hr (by omega) I (by simp; omega) q64 q64 (by rintro ⟨⟩) ((Sr.blk (l := List.replicate 64 x) 3 rfl (by simp [bv])).take q) hW).mono ?_
      rintro e HCw ⟨R', A', c', B', d', M', rfl, hM', hv', hr', HCy⟩
      simp only [rval, rfv]
      go_wp2_with fail
      refine Pt.same ⟨HCy.blk 6 rfl, HCy.blk 7 rfl⟩ ?_
      iterate 3 (refine Pt.pr_run (v := ?_) (by rfl) ?_ ?_; rotate_left; (focus (intro w'; go_simp; with_reducible rfl)); simp only [Act.put, List.setIfInBounds_toArray, List.set_cons_zero, List.set_cons_succ])
      have HCf := HCy.f4
      obtain ⟨x0, x1, x2, x3, x4, x5⟩ := HCf.cells6 0 rfl
      have fz := HCf.frozen 0 rfl
      refine Pt.run_st ?_
      go_wp2_with fail
      refine cast rfl ?_
      (refine Pt.pr_run (v := ?_) (by rfl) ?_ ?_; rotate_left; (focus (intro w'; go_simp; with_reducible rfl)); simp only [Act.put, List.setIfInBounds_toArray, List.set_cons_zero, List.set_cons_succ])
      refine Pt.run_fin ?_
      have HB := (((((HCf.set 0 (.slice A' R'.b.length c')).set 1 (.slice B' R'.ws.length d')).set 2 (.bool R'.set)).set 3 (.int .i64 R'.left)).set 4 (.int .i64 R'.torn)).set 5 (.bool R'.off)
      go_wp2_with fail
      go_meet
      exact ⟨_, R', A', c', B', d', M', rfl, rfl, hM', hv', hr', HCok, HClb, HCpv, (fs_add rfl HB).sub (by repeat (first | exact List.Sublist.refl _ | apply List.Sublist.cons_cons | apply List.Sublist.cons))⟩
  case rest =>
    obtain ⟨g9, R', A', c', B', d', M', rfl, rfl, hM', hv', hr', H7⟩ := hcut
    clear H6
    simp only [rval, rfv] at H7
    obtain ⟨ok, lb, pv, H8⟩ := H7
    obtain ⟨y0, y1, y2, y3, y4, y5⟩ := H8.cells6 3 rfl
    obtain ⟨x0, x1, x2, x3, x4, x5⟩ := H8.cells6 4 rfl
    have f2 := H8.frozen 4 rfl
    go_wp2
    have H10 := (((((((H8.f4.set 0 (.slice A' R'.b.length c')).set 1 (.slice B' R'.ws.length d')).set 2 (.bool R'.set)).set 3 (.int .i64 R'.left)).set 4 (.int .i64 R'.torn)).set 5 (.bool R'.off)))
    refine ret_row_tmp H10 (by rfl) (by rfl) Try.underlying38 (by rfl) (by exact Try.sizeRF) rfl ?_
    refine ⟨F', R', A', c', B', d', M', rfl, hM', hv', hr', ?_, FS.drop ⟨ok, lb, pv, H10.d0⟩⟩
    rcases hW with ⟨_, _, h⟩ | ⟨_, _, _, _, h⟩ | ⟨_, _, _, _, h⟩
    · rw [h]
    · rw [h]
    · rw [h, FM.write_n]
end
end Go.Proofs.Ytinhpiggakillaa
