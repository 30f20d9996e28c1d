/- A log's place as entries of memory; the contract of Append. -/
import Derived.Test.YtnaocjhhnlndmaaGj
set_option linter.unusedVariables false
set_option linter.unusedSimpArgs false
namespace Go.Proofs.Ytnaocjhhnlndmaa
open Go.RowKit Wd
section
variable {w0 w : World} {M : Mem} {L : List Ent} {f g gen en : Nat} {F : FM} {ls : List (List UInt8)}
/-- All the entries beside a new one; what reads beside the log reads beside all. -/
theorem LS.out (H : LS w0 w M g f F gen ls en L) : ∃ Z : List Ent, St w0 w M Z ∧ (∀ w' M', M.le M' → St w0 w' M' Z → LS w0 w' M' g f F gen ls en L) ∧ (∀ w' M' e', M.le M' → St w0 w' M' (e' :: Z) → LS w0 w' M' g f F gen ls en (e' :: L)) ∧ ∀ A l, Sr w0 M L A l → Sr w0 M Z A l := by
  obtain ⟨v, ps, hr, ok, lb, pv, H⟩ := H
  refine ⟨_, H, fun w' M' hM h => ⟨v, ps, hr.le hM, ok, lb, pv, h⟩, fun w' M' e' hM h => ⟨v, ps, hr.le hM, Fs_b2 ⟨ok, lb, pv, fs_add rfl h⟩⟩, fun A l h w' M' hM H' => h w' M' hM H'.d0.d0.d0.d0.d0⟩
/-- The file behind an appended record. -/
def Lg.appF (F : FM) (gen en : Nat) (b : List UInt8) : FM := putAll (Lg.halfFrom F.n gen) en (Lg.record gen en b ++ List.replicate (min 2 (64 * Lg.halfN F.n - en - (b.length + 6))) 0) F
/-- A record follows. -/
def RetApp (w0 : World) (M : Mem) (g f : Nat) (F : FM) (gen : Nat) (ls : List (List UInt8)) (en : Nat) (b : List UInt8) (L : List Ent) (e : Ending) (w' : World) : Prop :=
  ∃ M', e = .returned (.int .i64 0) ∧ M.le M' ∧ LS w0 w' M' g f (Lg.appF F gen en b) gen (ls ++ [b]) (en + (b.length + 6)) L
set_option maxRecDepth 100000 in
set_option maxHeartbeats 1000000 in
theorem append_any (H : LS w0 w M g f F gen ls en L) (h2n : 2 ≤ F.n) (hF2 : F.n ≤ 4096) (hg : gen < 18446744073709551616) {B : Option Addr} {d m : Nat} {b : List UInt8} (hm : m = b.length) (hB : B = none → d = 0) (hd : m ≤ d) (hb : Sr w0 M L B b) (h1 : 1 ≤ m) (h2 : m ≤ Lg.room (64 * Lg.halfN F.n) en) (hp : F.pend.length < 900000000) (hls : ls.length ≤ 1000000) :
    Calls Try.prog 22 #[.pointer (some ⟨g, 0, none⟩), .slice B m d] w fun e w' => RetApp w0 M g f F gen ls en b L e w' := by
  obtain ⟨N, hN⟩ : ∃ N, N = 64 * Lg.halfN F.n := ⟨_, rfl⟩
  have hN2 : N ≤ 131072 := by rw [hN]; unfold Lg.halfN; omega
  rw [← hN] at h2
  have hm1 : m ≤ 65535 := by unfold Lg.room at h2; omega
  have hfit : en + (m + 6) ≤ N := by unfold Lg.room at h2; omega
  obtain ⟨R, hR⟩ : ∃ R, R = Lg.room N en := ⟨_, rfl⟩
  have hroom := fun w (H : LS w0 w M g f F gen ls en L) => room_any H h2n hF2 hg (by omega)
  rw [← hN, ← hR] at hroom
  rw [← hR] at h2
  have hck := fun w => lcheck_any B m d w (by omega)
  rw [if_neg (by omega : ¬ m = 0), if_neg (by omega : ¬ 65535 < m)] at hck
  have hmR : ¬ (R : Int) < (m : Int) := by omega
  have hsz := fun w (H : LS w0 w M g f F gen ls en L) => lsize_any H h2n hF2 hg
  rw [← hN] at hsz
  have HSZ := Lib.hid hsz
  clear hsz
  have HROOM := Lib.hid hroom
  have HCK := Lib.hid hck
  have HI := Lib.hid (is_any H)
  have HM := Lib.hid hm
  have HNE := Lib.hid hN
  have HR := Lib.hid hR
  have HFIT := Lib.hid hfit
  clear hroom hck hm hN hR hfit h2
  go_enter Try.func22, Try.ntmps22
  go_wp2_with fail
  refine HI.out.mono ?_
  rintro e x1 ⟨rfl, rfl⟩
  go_wp2_with fail
  refine (HCK.out _).mono ?_
  rintro e x1 ⟨rfl, rfl⟩
  go_wp2_with fail
  refine (HROOM.out _ H).mono ?_
  rintro e x1 ⟨rfl, H1⟩
  clear H HI HCK HROOM
  go_wp2
  refine Pt.wp_plan (fun w' => LS w0 w' M g f F gen ls en L) (Pt.prs [0, 1, 2, 4, 5, 6, 8] (Pt.rds [3, 7] (.go 9 (Pt.prs [10] .fin)))) [] Try.mixed (by kernel_rfl) (fun _ _ d _ _ h => by cases d <;> exact h) H1.drew ?_
  have H2 := H1.drew
  clear H1
  simp only [Pt.toL, Pt.rds, Pt.prs, Pt.at_, List.drop_succ_cons, List.drop_zero]
  iterate 7 (refine Pt.pr_run (v := ?_) (by rfl) ?_ ?_; rotate_left; (focus (intro w'; go_simp; with_reducible rfl)); simp only [Act.put, List.setIfInBounds_toArray, List.set_cons_zero, List.set_cons_succ])
  (refine Pt.rd_run (v := ?_) (by rfl) ?_ ?_; rotate_left; (focus (intro w' hS; have c1 := hS.c1; go_simp; with_reducible rfl)); simp only [Act.put, List.setIfInBounds_toArray, List.set_cons_zero, List.set_cons_succ])
  (refine Pt.rd_run (v := ?_) (by rfl) ?_ ?_; rotate_left; (focus (intro w' hS; have c3 := hS.c3; go_simp; with_reducible rfl)); simp only [Act.put, List.setIfInBounds_toArray, List.set_cons_zero, List.set_cons_succ])
  refine Pt.run_go ?_
  obtain ⟨Z, HZ, hb0, hb1, hsr⟩ := H2.out
  have hen : en < 4294967296 := by have := HFIT.out; omega
  have hrec := record_any HZ gen en hg hen HM.out hB hd (hsr _ _ hb) (by omega)
  have HREC := Lib.hid hrec
  clear hrec
  go_wp2_with fail
  refine HREC.out.mono ?_
  rintro e x2 ⟨v1, rfl, H3⟩
  have H4 := hb1 _ _ _ (Mem.le.refl M) H3
  obtain ⟨A1, c1, rfl, hc1, hA1⟩ := H3.shape' 0 rfl
  go_wp2_with fail
  refine Pt.same (hb0 _ _ (Mem.le.refl M) H3.d0) ?_
  (refine Pt.pr_run (v := ?_) (by rfl) ?_ ?_; rotate_left; (focus (intro w'; go_simp; with_reducible rfl)); simp only [Act.put, List.setIfInBounds_toArray, List.set_cons_zero, List.set_cons_succ])
  refine Pt.run_fin ?_
  clear H3 hb0 hb1 hsr HZ H2 HREC
  obtain ⟨rl, hrl⟩ : ∃ rl, rl = m + 6 := ⟨_, rfl⟩
  obtain ⟨u1, hu1⟩ : ∃ u1, u1 = N - en := ⟨_, rfl⟩
  obtain ⟨u2, hu2⟩ : ∃ u2, u2 = N - en - rl := ⟨_, rfl⟩
  have hfit := HFIT.out
  have e1 : (N : Int) - (en : Int) = (u1 : Int) := by omega
  have e2 : (u1 : Int) - (rl : Int) = (u2 : Int) := by omega
  have hu1b : u1 ≤ 131072 := by omega
  have hu2b : u2 ≤ 131072 := by omega
  have w1 : IntKind.i64.wrap (u1 : Int) = (u1 : Int) := by rw [IntKind.wrap_i64]; omega
  have w2 : IntKind.i64.wrap (u2 : Int) = (u2 : Int) := by rw [IntKind.wrap_i64]; omega
  rw [← hrl] at H4 hc1 ⊢
  have hsz2 := fun w => lsize_any (w0 := w0) (w := w) (M := M) (L := er 5 1 (.slice A1 rl c1) rl (bv (Lg.record gen en b)) :: L) (f := f) (g := g) (gen := gen) (en := en) (F := F) (ls := ls)
  have HRL := Lib.hid hrl
  have HU2 := Lib.hid hu2
  clear hrl hu1 hu2 hfit hsz2
  go_wp2
  refine Pt.wp_plan (fun w' => LS w0 w' M g f F gen ls en (er 5 1 (.slice A1 rl c1) rl (bv (Lg.record gen en b)) :: L)) (Pt.prs [0, 2, 3, 4, 7, 8] (Pt.rds [5] (.go 1 (Pt.prs [6, 9, 10] (.go 11 (Pt.prs [12] .fin)))))) [] Try.mixed (by kernel_rfl) (fun _ _ d _ _ h => by cases d <;> exact h) H4.drew ?_
  have H5 := H4.drew
  clear H4
  simp only [Pt.toL, Pt.rds, Pt.prs, Pt.at_, List.drop_succ_cons, List.drop_zero]
  iterate 6 (refine Pt.pr_run (v := ?_) (by rfl) ?_ ?_; rotate_left; (focus (intro w'; go_simp; with_reducible rfl)); simp only [Act.put, List.setIfInBounds_toArray, List.set_cons_zero, List.set_cons_succ])
  (refine Pt.rd_run (v := ?_) (by rfl) ?_ ?_; rotate_left; (focus (intro w' hS; have c3 := hS.c3; go_simp; with_reducible rfl)); simp only [Act.put, List.setIfInBounds_toArray, List.set_cons_zero, List.set_cons_succ])
  refine Pt.run_go ?_
  go_wp2_with fail
  refine (lsize_any H5 h2n hF2 hg).mono ?_
  rintro e x3 ⟨rfl, H6⟩
  rw [← HNE.out]
  go_wp2_with fail
  refine Pt.same H6 ?_
  iterate 3 (refine Pt.pr_run (v := ?_) (by rfl) ?_ ?_; rotate_left; (focus (intro w'; go_simp; with_reducible rfl)); simp only [Act.put, List.setIfInBounds_toArray, List.set_cons_zero, List.set_cons_succ])
  obtain ⟨T, hT⟩ : ∃ T, T = min 2 u2 := ⟨_, rfl⟩
  have hTi : (if (u2 : Int) < 2 then (u2 : Int) else 2) = (T : Int) := by split <;> omega
  have hT2 : T ≤ 2 := by omega
  rw [hTi]
  have HT := Lib.hid hT
  clear hT hTi e1 e2 w1 w2
  obtain ⟨i0, hi, hz0, hz1, hz2⟩ := info_parts Try.info5
  refine Pt.run_go ?_
  refine wpList_make_full x3 (by rfl) (.tmp 41) (.tmp 41) 22 (by rfl) x3.heap.size 5 i0 (.int .u8 0) 1 Try.underlying22 hi hz0 hz1 .i64 .i64 _ _ T (by rfl) (by rfl) rfl rfl (by rw [hz2]; omega) (by unfold maxLen; omega) (Nat.le_refl _) ?_
  intro x4 ho hgr
  obtain ⟨Z2, HZ2, hb2, hb3, hsr2⟩ := H6.out
  have hcz : (madeCells (Value.int IntKind.u8 0).cells (T * 1)).toList = bv (List.replicate T 0) := by
    rw [Nat.mul_one, show (Value.int IntKind.u8 0).cells = #[.int .u8 0] from rfl, made_bv, filling_zero]
  rw [hcz] at ho
  have H7 := HZ2.addRow ⟨hgr.os, hgr.tape, hgr.output, hgr.size, fun i hi => hgr.block i hi (by simp)⟩ ho
  have H8 := hb3 _ _ _ (Mem.le.refl M) H7
  refine wpList_nil ?_
  refine Pt.same (hb2 _ _ (Mem.le.refl M) H7.d0) ?_
  simp only [Act.put, List.setIfInBounds_toArray, List.set_cons_zero, List.set_cons_succ]
  generalize x3.heap.size = gz at *
  (refine Pt.pr_run (v := ?_) (by rfl) ?_ ?_; rotate_left; (focus (intro w'; go_simp; with_reducible rfl)); simp only [Act.put, List.setIfInBounds_toArray, List.set_cons_zero, List.set_cons_succ])
  refine Pt.run_fin ?_
  clear H5 H6 H7 hb2 hb3 hsr2 HZ2 ho hgr hcz hi hz0 hz1 hz2
  go_wp2
  refine Pt.wp_plan (fun w' => w'.cell? ⟨g, 1, none⟩ = some (.int .u64 (gen : Int)) ∧ w'.cell? ⟨g, 3, none⟩ = some (.int .i64 (en : Int))) (Pt.prs [0, 1, 2, 3, 5, 6, 7, 9, 11] (Pt.rds [4, 8] (.go 10 (.go 12 (.go 13 .fin))))) [] Try.mixed (by kernel_rfl) (fun _ _ d _ _ h => by cases d <;> exact h) ⟨H8.drew.c1, H8.drew.c3⟩ ?_
  have H9 := H8.drew
  clear H8
  simp only [Pt.toL, Pt.rds, Pt.prs, Pt.at_, List.drop_succ_cons, List.drop_zero]
  iterate 9 (refine Pt.pr_run (v := ?_) (by rfl) ?_ ?_; rotate_left; (focus (intro w'; go_simp; with_reducible rfl)); simp only [Act.put, List.setIfInBounds_toArray, List.set_cons_zero, List.set_cons_succ])
  iterate 2 (refine Pt.rd_run (v := ?_) (by rfl) ?_ ?_; rotate_left; (focus (intro w' hS; obtain ⟨s0, s1⟩ := hS; go_simp; with_reducible rfl)); simp only [Act.put, List.setIfInBounds_toArray, List.set_cons_zero, List.set_cons_succ])
  refine Pt.run_go ?_
  obtain ⟨Z3, HZ3, hb4, hb5, hsr3⟩ := H9.out
  have hrlen : (Lg.record gen en b).length = rl := by rw [Lg.record_len, HRL.out, HM.out]
  have hrl2 : rl ≤ 65541 := by have := HRL.out; omega
  have hcl := clone_any HZ3 (A := A1) (c := c1) (l := Lg.record gen en b) hA1 (by rw [hrlen]; exact hc1) (hsr3 _ _ (Sr.row 1 rfl)) (by rw [hrlen]; omega)
  rw [hrlen] at hcl
  have HCL := Lib.hid hcl
  have HRN := Lib.hid hrlen
  clear hcl hrlen
  go_wp2_with fail
  refine HCL.out.mono ?_
  rintro e x5 ⟨v5, rfl, H10⟩
  obtain ⟨A5, c5, rfl, hc5, hA5⟩ := H10.shape' 0 rfl
  have r5 : RB x5 (some ⟨gz, 0, none⟩) (List.replicate T 0) := (hsr3 _ _ (Sr.row 0 rfl)).now H10.d0
  have y1 := hb4 _ _ (Mem.le.refl M) H10.d0
  go_wp2_with fail
  refine Pt.same ⟨y1.c1, y1.c3⟩ ?_
  refine Pt.run_go ?_
  refine wpList_append_st H10 (by rfl) (.tmp 53) (.tmp 54) 22 (by rfl) Try.info5 Try.underlying22 (by rfl) (some ⟨gz, 0, none⟩) T T (List.replicate T 0) (by rfl) (by rw [List.length_replicate]) (by rintro ⟨⟩) r5 (by omega) ?_
  intro v6 x6 H11
  rw [← bv_append] at H11
  obtain ⟨A6, c6, rfl, hc6, hA6⟩ := H11.shape' 0 rfl
  have y2 := hb4 _ _ (Mem.le.refl M) H11.d0
  refine wpList_nil ?_
  refine Pt.same ⟨y2.c1, y2.c3⟩ ?_
  simp only [Act.put, List.setIfInBounds_toArray, List.set_cons_zero, List.set_cons_succ]
  obtain ⟨D, hD⟩ : ∃ D, D = Lg.record gen en b ++ List.replicate T 0 := ⟨_, rfl⟩
  have hDl : D.length = rl + T := by rw [hD, List.length_append, HRN.out, List.length_replicate]
  rw [← hD] at H11
  have HD := Lib.hid hD
  obtain ⟨v, ps, hrow, H12⟩ := hb5 _ _ _ (Mem.le.refl M) H11
  have hfit := HFIT.out
  have hpu := put_any H12 h2n gen hg en (B := A6) (c := c6) (m := rl + T) (b := D) hDl.symm (Sr.row 1 rfl) (by have := HRL.out; omega) (by have := HRL.out; have := HU2.out; have := HT.out; rw [← HNE.out]; omega) hp
  have hF' : putAll (Lg.halfFrom F.n gen) en D F = Lg.appF F gen en b := by
    unfold Lg.appF
    rw [HD.out, ← HNE.out, ← HM.out, ← HRL.out, ← HU2.out, ← HT.out]
  rw [hF'] at hpu
  have HPU := Lib.hid hpu
  clear hpu hF' hfit hDl H9 H10 H11 H12 y1 y2 r5 hb4 hb5 hsr3 HZ3 HCL
  refine Pt.run_go ?_
  go_wp2_with fail
  refine HPU.out.mono ?_
  rintro e x7 ⟨rfl, H13⟩
  obtain ⟨FA, hFA⟩ : ∃ FA, FA = Lg.appF F gen en b := ⟨_, rfl⟩
  rw [← hFA] at H13
  have HFA := Lib.hid hFA
  clear hFA HPU
  go_wp2_with fail
  refine Pt.same ⟨H13.cell 0 rfl 1, H13.cell 0 rfl 3⟩ ?_
  refine Pt.run_fin ?_
  have H14 := Fs_sub H13 (L' := eb g 68 (lcells f gen v en) :: er 22 1 v ps.length (ps.map Pc.v) :: L) (by repeat (first | exact List.Sublist.refl _ | apply List.Sublist.cons_cons | apply List.Sublist.cons))
  clear H13
  obtain ⟨A8, c8, rfl, hc8⟩ := H14.rest.shape 1 rfl
  have hpl : ps.length ≤ 1000000 := by rw [← hrow.len]; exact hls
  obtain ⟨ne, hne⟩ : ∃ ne, ne = en + rl := ⟨_, rfl⟩
  have hne2 : ne ≤ 131072 := by have := HFIT.out; have := HRL.out; omega
  have e3 : (en : Int) + (rl : Int) = (ne : Int) := by omega
  have w3 : IntKind.i64.wrap (ne : Int) = (ne : Int) := by rw [IntKind.wrap_i64]; omega
  have HROW := Lib.hid hrow
  have HNEN := Lib.hid hne
  have HPL := Lib.hid hpl
  clear hrow hne hpl hls
  go_wp2
  refine Pt.wp_plan (fun w' => w'.cell? ⟨g, 2, none⟩ = some (.slice A8 ps.length c8) ∧ w'.cell? ⟨g, 3, none⟩ = some (.int .i64 (en : Int))) (Pt.prs [0, 1, 2, 3, 4, 6, 10, 11, 12, 14, 15] (Pt.rds [5, 13] (Pt.prs [16] (.go 7 (.go 8 (.go 9 (Pt.prs [17, 18] (.st 19 (Pt.prs [20, 21] (.st 22 .fin)))))))))) [19, 22] Try.mixed (by kernel_rfl) (fun _ _ d _ _ h => by cases d <;> exact h) ⟨H14.drew.cell 0 rfl 2, H14.drew.cell 0 rfl 3⟩ ?_
  have H15 := H14.drew
  clear H14
  simp only [Pt.toL, Pt.rds, Pt.prs, Pt.at_, List.drop_succ_cons, List.drop_zero]
  iterate 11 (refine Pt.pr_run (v := ?_) (by rfl) ?_ ?_; rotate_left; (focus (intro w'; go_simp; with_reducible rfl)); simp only [Act.put, List.setIfInBounds_toArray, List.set_cons_zero, List.set_cons_succ])
  iterate 2 (refine Pt.rd_run (v := ?_) (by rfl) ?_ ?_; rotate_left; (focus (intro w' hS; obtain ⟨s0, s1⟩ := hS; go_simp; with_reducible rfl)); simp only [Act.put, List.setIfInBounds_toArray, List.set_cons_zero, List.set_cons_succ])
  (refine Pt.pr_run (v := ?_) (by rfl) ?_ ?_; rotate_left; (focus (intro w'; go_simp; with_reducible rfl)); simp only [Act.put, List.setIfInBounds_toArray, List.set_cons_zero, List.set_cons_succ])
  clear e3 w3
  obtain ⟨ok9, lb9, pv9, H16⟩ := H15
  have hcl := clone_any H16 (A := B) (c := d) (l := b) hB (by rw [← HM.out]; exact hd) (fun w' M' hM H' => hb w' M' hM H'.d0.d0.d0.d0.d0) (by rw [← HM.out]; omega)
  rw [← HM.out] at hcl
  have HCL := Lib.hid hcl
  clear hcl
  refine Pt.run_go ?_
  go_wp2_with fail
  refine HCL.out.mono ?_
  rintro e x9 ⟨v9, rfl, H17⟩
  obtain ⟨A9, c9, rfl, hc9, hA9⟩ := H17.shape' 0 rfl
  go_wp2_with fail
  refine Pt.same ⟨H17.cell 4 rfl 2, H17.cell 4 rfl 3⟩ ?_
  have H17a := H17.alloc (.cells #[.slice A9 m c9] 22)
  refine Pt.run_go ?_
  go_wp2_with fail
  refine Pt.same ⟨H17a.cell 4 rfl 2, H17a.cell 4 rfl 3⟩ ?_
  refine Pt.run_go ?_
  refine wpList_append1_st H17.f5 (by rfl) (.tmp 62) (.tmp 65) 27 (by rfl) Try.info22 (by rfl) Try.underlying27 (by rfl) (by rfl) (by rfl) (by have := HPL.out; omega) (by have := HPL.out; omega) ?_
  intro v10 x10 H18
  obtain ⟨A10, c10, rfl, hc10⟩ := H18.shape 0 rfl
  refine wpList_nil ?_
  refine Pt.same ⟨H18.cell 5 rfl 2, H18.cell 5 rfl 3⟩ ?_
  simp only [Act.put, List.setIfInBounds_toArray, List.set_cons_zero, List.set_cons_succ]
  obtain ⟨M2, hM2, H19, hin⟩ := H18.f1.keepRow
  have hrow2 := (HROW.out.le hM2).snoc (p := ⟨A9, m, c9, b⟩) ⟨HM.out, hA9, hc9⟩ hin
  have HROW2 := Lib.hid hrow2
  have H20 := H19.f4
  have y2 := H20.cell 0 rfl 2
  have y3 := H20.cell 0 rfl 3
  have z2 := H20.frozen 0 rfl 2
  have z3 := H20.frozen 0 rfl 3
  have H21 := (H20.set 2 (.slice A10 (ps.length + 1) c10)).set 3 (.int .i64 (ne : Int))
  clear hrow2 hin H16 H17 H17a H18 H19 HCL
  have H22 : LS w0 _ M2 g f FA gen (ls ++ [b]) ne L := ⟨_, ps ++ [⟨A9, m, c9, b⟩], HROW2.out, ok9, lb9, pv9, by rw [List.length_append, List.map_append]; exact H21.f4.f4.f4⟩
  iterate 2 (refine Pt.pr_run (v := ?_) (by rfl) ?_ ?_; rotate_left; (focus (intro w'; go_simp; with_reducible rfl)); simp only [Act.put, List.setIfInBounds_toArray, List.set_cons_zero, List.set_cons_succ])
  refine Pt.run_st ?_
  go_wp2_with fail
  simp only [Pl.Then, Act.put]
  iterate 2 (refine Pt.pr_run (v := ?_) (by rfl) ?_ ?_; rotate_left; (focus (intro w'; go_simp; with_reducible rfl)); simp only [Act.put, List.setIfInBounds_toArray, List.set_cons_zero, List.set_cons_succ])
  refine Pt.run_st ?_
  go_wp2_with fail
  simp only [Pl.Then, Act.put]
  refine Pt.run_fin ?_
  go_wp2
  go_ret
  have hend : en + (b.length + 6) = ne := by rw [HNEN.out, HRL.out, HM.out]
  exact ⟨M2, rfl, hM2, by rw [hend, ← HFA.out]; exact H22⟩
end
end Go.Proofs.Ytnaocjhhnlndmaa
