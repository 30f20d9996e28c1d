/- BlockFuse walked. -/
import Derived.Test.YtinhpiggakillaaSc
import Derived.Deep.CutBlock
set_option linter.unusedVariables false
set_option linter.unusedSimpArgs false
namespace Go.Proofs.Ytinhpiggakillaa
open Go.RowKit Wd
theorem ref_crashM {w0 w : World} {M : Mem} {L : List Ent} {S : FM} {R : RM} {A B : Option Addr} {c d j : Nat} (H : St w0 w M L) (hv : RV M R A c B d) (hr : Rel S R j) (hj : j ≤ 1000) (k u : Int) :
    Calls Try.prog 22 #[.agg (rval R A c B d).toArray, .int .i64 k, .int .i64 u] w fun e w' => ∃ R' A' c' M', e = .returned (.agg (rval R' A' c' none 0).toArray) ∧ M.le M' ∧ RV M' R' A' c' none 0 ∧ Rel (S.crash k u) R' j ∧ St w0 w' M' L := by
  refine (ref_crash H R.set R.off R.left R.torn hv.hA hv.hc hv.hl hv.hw hr.len hr.n2 hr.ok (by have := hr.many; omega) hv.hd k u).mono ?_
  rintro e w2 ⟨A', c', M', rfl, hA', hc', hM', hl', H6⟩
  have hrs := hr.crash k u
  have e1 : (R.crash k u).b.length = R.b.length := by rw [hrs.len, hr.len]; rfl
  refine ⟨R.crash k u, A', c', M', ?_, hM', ⟨hA', by rw [e1]; exact hc', hl', fun _ => rfl, Nat.le_refl _, fun W _ => wcs_nil_ra W none⟩, hrs, H6⟩
  unfold rval
  rw [e1]
  rfl
set_option maxRecDepth 100000 in
set_option maxHeartbeats 4000000 in
theorem fuse_law {w : World} (n : UInt8) {B : Option Addr} {d : Nat} {ax : List AM} (hB : RA w B (amcs ax)) (hlen : ax.length ≤ 9223372036854775807) (K T : Int) (hk : K ≤ 9223372036854775807) :
    Calls Try.prog 5 #[.int .u8 (n.toNat : Int), .slice B ax.length d, .agg #[.int .i64 K, .int .i64 T]] w fun e w' => e = .returned (.bool true) ∧ Below w.heap.size w w' := by
  have hB0 := In.oldRA (St.start w) hB
  have H2 := (St.start w).new [.int .i64 K, .int .i64 T] 35
  obtain ⟨N, hN⟩ : ∃ N : Nat, N = 1 + n.toNat % 20 := ⟨_, rfl⟩
  have hNi : 1 + (n.toNat : Int) % 20 = (N : Int) := by omega
  have hmk := make_bytes (64 * N) (by omega) (64 * (1 + (n.toNat : Int) % 20)) (by omega)
  have n1 : 1 ≤ N := by omega
  have n2 : N ≤ 20 := by omega
  have nlt : (n.toNat : Int) < 256 := by have := n.toNat_lt; omega
  have HNI := Lib.hid hNi
  clear hN hNi
  go_enter Try.func5, Try.ntmps5
  go_wp2_with fail
  rw [HNI.out]
  refine (fs_new H2 N n1 (by omega)).mono ?_
  rintro e w2 ⟨f, rfl, H3⟩
  clear H2
  have c1 := H3.cell 0 rfl 0
  have c2 := H3.cell 0 rfl 1
  simp only [List.getElem?_cons_succ, List.getElem?_cons_zero] at c1 c2
  go_wp2_with fail
  refine (fs_fuse H3 K T hk).mono ?_
  rintro e w3 ⟨rfl, H4⟩
  clear H3 c1 c2
  have H5 := H4.newg (bv (List.replicate (64 * N) 0)) 5 rfl
  obtain ⟨ok, lb, pv, H6⟩ := H5
  obtain ⟨M1, hM1, H7, hb1, -⟩ := H6.f3.lendBlk
  go_upto_region 6 with fail
  have H8 := (show FS w _ M1 f ((FM.new N).fuse K T) [eb w.heap.size 35 [.int .i64 K, .int .i64 T]] from ⟨ok, lb, pv, H7⟩).newg [.slice (some ⟨w3.heap.size, 0, none⟩) (64 * N) (64 * N), .slice none 0 0, .bool false, .int .i64 0, .int .i64 0, .bool false] 38 (g := w3.heap.size + 1) (by simp)
  have hb2 : In M1 (RB · (some ⟨w3.heap.size, 0, none⟩) (List.replicate (64 * N) 0)) := hb1.imp fun W hW => Blk.RB hW (by rw [List.drop_zero, List.length_replicate, List.take_of_length_le (by rw [bv_length, List.length_replicate]; exact Nat.le_refl _)])
  clear H4 H6 H7 hb1 hmk
  generalize hg : w3.heap.size = g at *
  generalize hw4 : World.alloc _ (.cells _ 38) = w4 at *
  clear hg hw4
  have hrl : (List.replicate (64 * N) (0 : UInt8)).length = 64 * N := List.length_replicate
  obtain ⟨k0, hk0⟩ : ∃ k0 : Int, k0 = max 0 K := ⟨_, rfl⟩
  have hv0 : RV M1 (RZ (List.replicate (64 * N) 0)) (some ⟨g, 0, none⟩) (64 * N) none 0 := ⟨fun h => (by cases h), Nat.le_of_eq hrl, hb2, fun _ => rfl, Nat.le_refl _, fun W _ => wcs_nil_ra W none⟩
  have hi0 := inv_new N (by omega) K T k0 hk0
  have H9 : FS w w4 M1 f ((FM.new N).fuse K T) [eb (g + 1) 38 (rval (RZ (List.replicate (64 * N) 0)) (some ⟨g, 0, none⟩) (64 * N) none 0), eb w.heap.size 35 [.int .i64 K, .int .i64 T]] := by
    unfold rval
    rw [show (RZ (List.replicate (64 * N) 0)).b.length = 64 * N from hrl]
    exact H8
  obtain ⟨F0, hF0⟩ : ∃ F0, F0 = (FM.new N).fuse K T := ⟨_, rfl⟩
  rw [← hF0] at H9 hi0
  clear H8 hb2 hrl ok hF0
  have c1 := H9.cell 1 rfl 0
  simp only [List.getElem?_cons_succ, List.getElem?_cons_zero] at c1
  go_upto_if 43 with fail
  go_cut [10] (fun v wx => v = .int .i64 k0 ∧ wx = w4)
  case first =>
    by_cases hneg : K < 0
    · have e1 : k0 = 0 := by omega
      have E1 := Lib.hid e1
      clear hk0 e1
      go_wp2_with fail
      go_meet
      exact ⟨by rw [E1.out], rfl⟩
    · have e1 : k0 = K := by omega
      have E1 := Lib.hid e1
      clear hk0 e1
      go_wp2_with fail
      go_meet
      exact ⟨by rw [E1.out], rfl⟩
  case rest =>
    obtain ⟨rfl, rfl⟩ := hcut
    have k01 : 0 ≤ k0 := by omega
    have k02 : k0 ≤ 9223372036854775807 := by omega
    clear c1 hk0
    go_upto_block 0 with fail
    go_cut [11] (fun i wr => ∃ (k : Int) (F S : FM) (R : RM) (A' : Option Addr) (c' : Nat) (B' : Option Addr) (d' : Nat) (M' : Mem), RV M' R A' c' B' d' ∧ Inv N T k F S R 60 ∧ FS w wr M' f F [eb (g + 1) 38 (rval R A' c' B' d'), eb w.heap.size 35 [.int .i64 K, .int .i64 T]])
    case first =>
      go_wp2
      go_loopw [10, 11] (fun kk i wr => ∃ (k : Int) (p : Nat) (F S : FM) (R : RM) (A' : Option Addr) (c' : Nat) (B' : Option Addr) (d' : Nat) (M' : Mem), p ≤ ax.length ∧ p ≤ 60 ∧ -1 ≤ k ∧ k ≤ 9223372036854775807 ∧ kk = .int .i64 k ∧ i = .int .i64 p ∧ Mem.le (w.heap[·]?) M' ∧ RV M' R A' c' B' d' ∧ Inv N T k F S R p ∧ FS w wr M' f F [eb (g + 1) 38 (rval R A' c' B' d'), eb w.heap.size 35 [.int .i64 K, .int .i64 T]]) (fun _ i _ => 60 - (intOf i).toNat)
      case atStart => exact ⟨k0, 0, F0, _, _, _, _, _, _, M1, by omega, by omega, by omega, k02, rfl, rfl, hM1, hv0, hi0, H9⟩
      case round =>
        obtain ⟨k, p, F, S, R, A', c', B', d', M', hp, hp60, kl, kh, rfl, rfl, hM', hv, hinv, H6⟩ := hrel
        clear H9 hi0 hv0 k01 k02
        by_cases hlt : p < ax.length ∧ p < 60
        · obtain ⟨hlt, h60⟩ := hlt
          obtain ⟨a, ha⟩ : ∃ a, a = ax[p] := ⟨_, rfl⟩
          obtain ⟨b, bo, rfl, _⟩ := hB.at5 p hlt
          have hin : In (w.heap[·]?) fun W => W.rangeAt b (bo + p * 5) a.cells := fun W hW => by
            obtain ⟨b', bo', he, hr⟩ := (hB0 W hW).at5 p hlt
            injection he with he
            injection he with e1 e2
            subst e1 e2
            rw [ha]
            exact hr
          clear ha
          have c2 : wr.cell? ⟨b, bo + p * 5 + 2, none⟩ = some (.int .u8 (a.b.toNat : Int)) := (hin.le hM') _ H6.rest.agr 2 _ rfl
          go_wp2_with fail
          refine (fs_filled H6 a.b).mono ?_
          rintro e w5 ⟨gb, rfl, H7⟩
          clear c2 H6
          have c0 : w5.cell? ⟨b, bo + p * 5, none⟩ = some (.int .i64 a.d) := (hin.le hM') _ H7.rest.agr 0 _ rfl
          go_upto_if 65 with fail
          go_cut [12] (fun v wx => v = .slice (some ⟨gb, 0, none⟩) 64 64 ∧ ∃ F1, Inv N T k F1 S R p ∧ FS w wx M' f F1 [eb gb 5 (bv (List.replicate 64 a.b)), eb (g + 1) 38 (rval R A' c' B' d'), eb w.heap.size 35 [.int .i64 K, .int .i64 T]])
          case first =>
            by_cases hd : a.d = 1
            · rw [hd]
              go_wp2_with fail
              refine (fs_sync H7).mono ?_
              rintro e w6 ⟨rfl, H8⟩
              go_wp2_with fail
              go_meet
              exact ⟨rfl, _, hinv.sync, H8⟩
            · go_wp2_with fail
              go_meet
              exact ⟨rfl, F, hinv, H7⟩
          case rest =>
            obtain ⟨rfl, F1, hinv1, H8⟩ := hcut
            clear H7 hinv c0
            have c1 : wc.cell? ⟨b, bo + p * 5 + 1, none⟩ = some (.int .i64 a.i) := (hin.le hM') _ H8.rest.agr 1 _ rfl
            go_wp2_with fail
            refine (fs_wrote H8 a.i (b := List.replicate 64 a.b) (by simp) ((H8.rest.blk 0 rfl).RB (by simp [bv])) (by have := hinv1.many; omega)).mono ?_
            rintro e w6 ⟨F', r, rfl, hW, H9⟩
            clear H8 c1
            rcases hW with ⟨h1, rfl, rfl⟩ | ⟨_, _, h2, _, _⟩ | ⟨h0, h1, h2, rfl, rfl⟩
            · go_wp2
              exact ⟨⟨k, p + 1, F', S, R, A', c', B', d', M', by omega, by omega, kl, kh, rfl, by go_num, hM', hv, hinv1.mono (by omega), H9.drop⟩, by simp [intOf]; omega⟩
            · simp at h2
            · by_cases hk0 : k = -1
              · subst hk0
                rw [hinv1.stay] at H9
                go_wp2
                exact ⟨⟨-1, p + 1, F1, S, R, A', c', B', d', M', by omega, by omega, by omega, by omega, rfl, by go_num, hM', hv, hinv1.mono (by omega), H9.drop⟩, by simp [intOf]; omega⟩
              · have kn : 0 ≤ k := by omega
                have hiN : a.i.toNat < N := by have := hinv1.n; omega
                have hWS : Wrote S a.i (List.replicate 64 a.b) (S.write a.i.toNat (List.replicate 64 a.b)) 0 := .inr (.inr ⟨h0, by have h5 := hinv1.sn; have h6 := hinv1.n; omega, h2, rfl, rfl⟩)
                have HWS := Lib.hid hWS
                have HIN := Lib.hid hiN
                clear hWS h1 h2 hiN hk0
                go_wp2
                refine Pt.wp_plan (fun w' => Agr M' w' ∧ Blk w' (g + 1) 38 (rval R A' c' B' d')) (Pt.prs [1, 2, 3, 4, 6] (Pt.rds [0, 5] (.go 7 (Pt.prs [8, 9, 10] (.st 11 .fin))))) [11] Try.mixed (by kernel_rfl) (fun _ _ d _ _ h => by cases d <;> exact h) ⟨H9.drew.rest.agr, H9.drew.rest.blk 1 rfl⟩ ?_
                simp only [Pt.toL, Pt.rds, Pt.prs, Pt.at_, List.drop_succ_cons, List.drop_zero]
                iterate 5 (refine Pt.pr_run (v := ?_) (by rfl) ?_ ?_; rotate_left; (focus (intro w'; go_simp; with_reducible rfl)); simp only [Act.put, List.setIfInBounds_toArray, List.set_cons_zero, List.set_cons_succ])
                (refine Pt.rd_load (by rfl) 38 (.tmp 9) (by rfl) (g + 1) 0 (by rfl) (rval R A' c' B' d') _ (fun _ h => h.2.range 0 6 _ rfl) Try.underlying38 rfl (by exact Try.sizeRF) ?_; simp only [Act.put, List.setIfInBounds_toArray, List.set_cons_zero, List.set_cons_succ])
                (refine Pt.rd_run (v := ?_) (by rfl) ?_ ?_; rotate_left; (focus (intro w' hS; have c1 : w'.cell? ⟨b, bo + p * 5 + 1, none⟩ = some (.int .i64 a.i) := (hin.le hM') _ hS.1 1 _ rfl; go_simp; with_reducible rfl)); simp only [Act.put, List.setIfInBounds_toArray, List.set_cons_zero, List.set_cons_succ])
                refine Pt.run_go ?_
                obtain ⟨ok, lb2, pv2, HA⟩ := H9.drew
                go_wp2_with fail
                refine (add_wrote (nb := 64) (cb := 64) (b := List.replicate 64 a.b) HA hv hinv1.rel (by omega) a.i (by simp) (by omega) (by omega) (by rintro ⟨⟩) (Sr.blk 3 rfl (by simp [bv])) HWS.out).mono ?_
                rintro e w7 ⟨R1, A1, c1, B1, d1, M2, rfl, hM2, hv1, hr1, HB⟩
                go_wp2_with fail
                refine Pt.same ⟨HB.agr.le hM2, HB.blk 4 rfl⟩ ?_
                iterate 3 (refine Pt.pr_run (v := ?_) (by rfl) ?_ ?_; rotate_left; (focus (intro w'; go_simp; with_reducible rfl)); simp only [Act.put, List.setIfInBounds_toArray, List.set_cons_zero, List.set_cons_succ])
                refine Pt.run_st ?_
                refine wpList_store_st HB.f4 (by rfl) 38 (.tmp 9) (.tmp 90) (by rfl) 0 (rval R1 A1 c1 B1 d1) (by rfl) (by rfl) (Nat.le_refl _) (by exact Try.sizeRF) (by intro u hu; simp [rval, rfv] at hu; rcases hu with rfl | rfl | rfl | rfl | rfl | rfl <;> rfl) ?_
                intro w8 HC
                have HD : FS w w8 M2 f (F1.write a.i.toNat (List.replicate 64 a.b)) [eb (g + 1) 38 (rval R1 A1 c1 B1 d1), eb w.heap.size 35 [.int .i64 K, .int .i64 T]] := (show FS w w8 M2 f (F1.write a.i.toNat (List.replicate 64 a.b)) [eb (g + 1) 38 (rval R1 A1 c1 B1 d1), eb gb 5 (bv (List.replicate 64 a.b)), eb w.heap.size 35 [.int .i64 K, .int .i64 T]] from ⟨ok, lb2, pv2, fs_add rfl HC⟩).map fun Z _ h => h.sub (List.Sublist.append (List.Sublist.refl Z) (by repeat (first | exact List.Sublist.refl _ | apply List.Sublist.cons_cons | apply List.Sublist.cons)))
                clear HA HB HC H9
                refine wpList_nil ?_
                simp only [Pl.Then, Act.put]
                refine Pt.run_fin ?_
                by_cases hkz : k = 0
                · subst hkz
                  have q1 : (R1.ws.length : Int) ≤ 1000 := by have := hr1.many; omega
                  obtain ⟨z0, z1, z2, z3, z4, z5⟩ := HD.rest.cells6 0 rfl
                  have c2 : w8.cell? ⟨w.heap.size, 1, none⟩ = some (.int .i64 T) := HD.cell 1 rfl 1
                  obtain ⟨ok3, lb3, pv3, HE⟩ := HD
                  go_wp2_with fail
                  refine (ref_crashM HE hv1 hr1 (by omega) ((R1.ws.length : Int) - 1) T).mono ?_
                  rintro e w9 ⟨R2, A2, c3, M3, rfl, hM3, hv2, hr2, HF⟩
                  clear z0 z1 z2 z3 z4 z5 c2 HE
                  have HF := HF.f3
                  obtain ⟨x0, x1, x2, x3, x4, x5⟩ := HF.cells6 0 rfl
                  have f2 := HF.frozen 0 rfl
                  have hb64 : (List.replicate 64 a.b).length = 64 := List.length_replicate
                  have hfin := hinv1.blow a.i.toNat HIN.out (List.replicate 64 a.b) hb64 hr1 rfl hr2
                  have HFIN := Lib.hid hfin
                  clear hfin hinv1 hr1 hr2
                  simp only [rval, rfv]
                  go_wp2
                  have HG := ((((((HF.set 0 (.slice A2 R2.b.length c3)).set 1 (.slice none R2.ws.length 0)).set 2 (.bool R2.set)).set 3 (.int .i64 R2.left)).set 4 (.int .i64 R2.torn)).set 5 (.bool R2.off))
                  exact ⟨⟨-1, p + 1, _, _, R2, A2, c3, none, 0, M3, by omega, by omega, by omega, by omega, by go_num, by go_num, hM'.trans (hM2.trans hM3), hv2, HFIN.out, ok3, lb3, pv3, fs_add rfl HG⟩, by simp [intOf]; omega⟩
                · have hk1 : 0 < k := by omega
                  go_wp2
                  exact ⟨⟨k - 1, p + 1, _, _, R1, A1, c1, B1, d1, M2, by omega, by omega, by omega, by omega, by go_num, by go_num, hM'.trans hM2, hv1, hinv1.put hk1 _ _ hr1, HD⟩, by simp [intOf]; omega⟩
        · have hx : ¬ p < ax.length ∨ (p < ax.length ∧ p = 60) := by omega
          have hi60 := hinv.mono (j' := 60) (by omega)
          clear hlt
          rcases hx with hx | ⟨hx, rfl⟩
          all_goals
            go_wp2
            go_meet
            exact ⟨k, F, S, R, A', c', B', d', M', hv, hi60, H6⟩
    case rest =>
      obtain ⟨k, F, S, R, A', c', B', d', M', hv, hinv, H6⟩ := hcut
      clear H9 hi0 hv0 k01 k02 hB hB0 hM1
      go_wp2_with fail
      refine (fs_sync H6).mono ?_
      rintro e w5 ⟨rfl, H7⟩
      go_wp2_with fail
      refine (fs_crash H7 0 0 (Nat.lt_of_le_of_lt (Nat.zero_le 0) (by decide)) (by decide)).mono ?_
      rintro e w6 ⟨rfl, H8⟩
      obtain ⟨F2, hF2⟩ : ∃ F2, F2 = ({ F with pend := [] } : FM).crash 0 0 := ⟨_, rfl⟩
      have hl := hinv.done
      rw [← hF2] at H8 hl
      have hr := hinv.rel
      clear H6 H7 hF2 hinv
      go_wp2
      refine Pt.wp_plan (fun w' => Agr M' w' ∧ Blk w' (g + 1) 38 (rval R A' c' B' d')) (Pt.prs [0] (Pt.rds [3] (.go 1 (Pt.rds [2] (.go 4 (Pt.rds [5] (Pt.prs [6, 7] (.go 8 (Pt.prs [9, 10] .fin))))))))) [] Try.mixed (by kernel_rfl) (fun _ _ d _ _ h => by cases d <;> exact h) ⟨H8.drew.rest.agr, H8.drew.rest.blk 0 rfl⟩ ?_
      simp only [Pt.toL, Pt.rds, Pt.prs, Pt.at_, List.drop_succ_cons, List.drop_zero]
      (refine Pt.pr_run (v := ?_) (by rfl) ?_ ?_; rotate_left; (focus (intro w'; go_simp; with_reducible rfl)); simp only [Act.put, List.setIfInBounds_toArray, List.set_cons_zero, List.set_cons_succ])
      (refine Pt.rd_load (by rfl) 38 (.tmp 9) (by rfl) (g + 1) 0 (by rfl) (rval R A' c' B' d') _ (fun _ h => h.2.range 0 6 _ rfl) Try.underlying38 rfl (by exact Try.sizeRF) ?_; simp only [Act.put, List.setIfInBounds_toArray, List.set_cons_zero, List.set_cons_succ])
      refine Pt.run_go ?_
      go_wp2_with fail
      refine (fs_dumpM H8.drew).mono ?_
      rintro e w7 ⟨X, cx, M1', rfl, hM1', hX, H9⟩
      rw [hl] at hX ⊢
      go_wp2_with fail
      refine Pt.more (fun w' => Agr M1' w') ⟨H9.rest.agr.le hM1', H9.rest.blk 0 rfl⟩ H9.rest.agr ?_
      (refine Pt.rd_run (v := ?_) (by rfl) ?_ ?_; rotate_left; (focus (intro w' hS; have cvX := conv_RB (P := Try.prog) (src := 28) (dst := 9) (c := cx) Try.underlying28 Try.underlying5 Try.underlying9 (hX w' hS.2) rfl; go_simp; with_reducible rfl)); simp only [Act.put, List.setIfInBounds_toArray, List.set_cons_zero, List.set_cons_succ])
      obtain ⟨ok2, lb2, pv2, HA⟩ := H9
      refine Pt.run_go ?_
      go_wp2_with fail
      refine (ref_dumpM HA (hv.le hM1') hr (by omega)).mono ?_
      rintro e w8 ⟨Y, cy, M2, rfl, hM2, hY, HB⟩
      go_wp2_with fail
      refine Pt.more (fun w' => Agr M2 w') ⟨⟨HB.agr.le (hM1'.trans hM2), HB.blk 3 rfl⟩, HB.agr.le hM2⟩ HB.agr ?_
      (refine Pt.rd_run (v := ?_) (by rfl) ?_ ?_; rotate_left; (focus (intro w' hS; have cvY := conv_RB (P := Try.prog) (src := 28) (dst := 9) (c := cy) Try.underlying28 Try.underlying5 Try.underlying9 (hY w' hS.2) rfl; go_simp; with_reducible rfl)); simp only [Act.put, List.setIfInBounds_toArray, List.set_cons_zero, List.set_cons_succ])
      iterate 2 (refine Pt.pr_run (v := ?_) (by rfl) ?_ ?_; rotate_left; (focus (intro w'; go_simp; with_reducible rfl)); simp only [Act.put, List.setIfInBounds_toArray, List.set_cons_zero, List.set_cons_succ])
      refine Pt.run_go ?_
      go_wp2_with fail
      refine (awake_st HB).mono ?_
      rintro e w9 ⟨rfl, HC⟩
      go_wp2_with fail
      refine Pt.same ⟨⟨⟨HC.agr.le (hM1'.trans hM2), HC.blk 3 rfl⟩, HC.agr.le hM2⟩, HC.agr⟩ ?_
      iterate 2 (refine Pt.pr_run (v := ?_) (by rfl) ?_ ?_; rotate_left; (focus (intro w'; go_simp; with_reducible rfl)); simp only [Act.put, List.setIfInBounds_toArray, List.set_cons_zero, List.set_cons_succ])
      refine Pt.run_fin ?_
      go_wp2
      go_ret
      exact ⟨rfl, HC.below⟩
end Go.Proofs.Ytinhpiggakillaa
