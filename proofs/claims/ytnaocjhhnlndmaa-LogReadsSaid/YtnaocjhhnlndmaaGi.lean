/- The contract of log.Open. -/
import Derived.Test.YtnaocjhhnlndmaaGh
set_option linter.unusedVariables false
set_option linter.unusedSimpArgs false
namespace Go.Proofs.Ytnaocjhhnlndmaa
open Go.RowKit Wd
theorem Lg.half_le (n g : Nat) (h : 2 ≤ n) : Lg.halfFrom n g + Lg.halfN n ≤ n := by
  unfold Lg.halfFrom Lg.halfN
  have : g % 2 = 0 ∨ g % 2 = 1 := by omega
  rcases this with h0 | h0 <;> rw [h0] <;> omega
/-- A log that was opened. -/
def RetOpen (w0 : World) (M : Mem) (f : Nat) (F : FM) (L : List Ent) (gen : Nat) (ls : List (List UInt8)) (en : Nat) (e : Ending) (w' : World) : Prop :=
  ∃ g M', e = .returned (.tuple #[.pointer (some ⟨g, 0, none⟩), .int .i64 0]) ∧ M.le M' ∧ LS w0 w' M' g f F gen ls en L
theorem Try.zero68 : (Try.prog.info? 68).map (fun i => (i.zero, i.size)) = some (some (.agg #[.pointer none, .int .u64 0, .slice none 0 0, .int .i64 0]), 4) := by kernel_rfl
section
variable {w0 w : World} {M : Mem} {L : List Ent} {f : Nat} {F : FM}
set_option maxRecDepth 100000 in
set_option maxHeartbeats 1000000 in
theorem open_any (H : FS w0 w M f F L) (h6 : 6 ≤ F.n) :
    Calls Try.prog 14 #[.pointer (some ⟨f, 0, none⟩)] w fun e w' =>
      RetOpen w0 M f F L (Lg.generation F.l) (Lg.records (Lg.generation F.l) (Lg.half F.l (Lg.generation F.l))).1 (Lg.records (Lg.generation F.l) (Lg.half F.l (Lg.generation F.l))).2 e w' := by
  have hok := H.1
  have hFl : F.l.length = 64 * F.n := hok.len
  have hF2 : F.n ≤ 4096 := hok.n2
  obtain ⟨G, hG⟩ : ∃ G, G = Lg.generation F.l := ⟨_, rfl⟩
  have hGl : G < 18446744073709551616 := by rw [hG]; exact Lg.generation_lt _
  obtain ⟨hb, hhb⟩ : ∃ hb, hb = Lg.half F.l G := ⟨_, rfl⟩
  obtain ⟨N, hN⟩ : ∃ N, N = Lg.halfN F.n := ⟨_, rfl⟩
  obtain ⟨fr, hfr⟩ : ∃ fr, fr = Lg.halfFrom F.n G := ⟨_, rfl⟩
  have hle : fr + N ≤ F.n := by rw [hfr, hN]; exact Lg.half_le _ _ (by omega)
  have hN2 : 2 ≤ N ∧ N ≤ 2047 := by rw [hN]; unfold Lg.halfN; omega
  have hhe : hb = (F.l.drop (64 * fr)).take (64 * N) := by
    rw [hhb]; unfold Lg.half; rw [hFl, Nat.mul_div_cancel_left _ (by decide), ← hfr, ← hN]
  have hhl : hb.length = 64 * N := by rw [hhe, List.length_take, List.length_drop, hFl]; omega
  obtain ⟨o1, ho1⟩ : ∃ o1, o1 = 64 * fr := ⟨_, rfl⟩
  obtain ⟨sm, hsm⟩ : ∃ sm, sm = fr + N := ⟨_, rfl⟩
  obtain ⟨o2, ho2⟩ : ∃ o2, o2 = 64 * sm := ⟨_, rfl⟩
  obtain ⟨hn, hhn⟩ : ∃ hn, hn = 64 * N := ⟨_, rfl⟩
  have e1 : (fr : Int) * 64 = (o1 : Int) := by omega
  have e2 : (fr : Int) + (N : Int) = (sm : Int) := by omega
  have e3 : (sm : Int) * 64 = (o2 : Int) := by omega
  have w1 : IntKind.i64.wrap (o1 : Int) = (o1 : Int) := by rw [IntKind.wrap_i64]; omega
  have w2 : IntKind.i64.wrap (sm : Int) = (sm : Int) := by rw [IntKind.wrap_i64]; omega
  have w3 : IntKind.i64.wrap (o2 : Int) = (o2 : Int) := by rw [IntKind.wrap_i64]; omega
  have e4 : o2 - o1 = hn := by omega
  have e5 : o1 ≤ o2 := by omega
  have e6 : o2 ≤ 64 * F.n := by omega
  have e7 : o1 < o2 := by omega
  rw [← ho1, ← hhn] at hhe
  rw [← hhn] at hhl
  have hhm : hn ≤ 131072 := by omega
  have hgen := fun (w : World) (M : Mem) (L : List Ent) (H : St w0 w M L) A c (hl : Sr w0 M L A F.l) (hc : 64 * F.n ≤ c) (hc2 : c ≤ 9223372036854775807) => generation_any H (c := c) hFl.symm hl (by omega) hc hc2
  rw [← hG] at hgen
  have hhf := fun w => half_any F.n G (by omega) hF2 hGl w
  rw [← hfr, ← hN] at hhf
  rw [← hG, ← hhb]
  have h6' : ¬ (F.n : Int) < 6 := by omega
  have HGEN := Lib.hid hgen
  have HHF := Lib.hid hhf
  have HHE := Lib.hid hhe
  have HHL := Lib.hid hhl
  have HE6 := Lib.hid e6
  clear hG hhb hN hfr hle hN2 hhe hhl ho1 hsm ho2 hhn hgen hhf hok hFl hF2 e6 h6
  go_enter Try.func14, Try.ntmps14
  go_wp2_with fail
  refine (fs_blocks H).mono ?_
  rintro e x1 ⟨rfl, rfl⟩
  go_wp2_with fail
  refine (fs_dump H).mono ?_
  rintro e x1 ⟨g0, c0, rfl, H1⟩
  obtain ⟨ok, lb, pv, H2⟩ := H1
  obtain ⟨A0, c1, hA0, hc1, _, hc2⟩ := H2.shape8 3 rfl
  injection hA0 with hA1 hA2 hA3
  subst hA1 hA3
  have s0 : Sr w0 M (ef f lb F pv (er 5 1 (.slice (some ⟨g0, 0, none⟩) (64 * F.n) c0) (64 * F.n) (bv F.l) :: L)) (some ⟨g0, 0, none⟩) F.l := Sr.row 3 rfl
  go_wp2_with fail
  refine (HGEN.out _ _ _ H2 _ _ s0 hc1 hc2).mono ?_
  rintro e x2 ⟨rfl, H3⟩
  have H4 : FS w0 x2 M f F (er 5 1 (.slice (some ⟨g0, 0, none⟩) (64 * F.n) c0) (64 * F.n) (bv F.l) :: L) := ⟨ok, lb, pv, H3⟩
  go_wp2
  have H5 := H4.newg (lcells f G (.slice none 0 0) 0) 68 rfl
  simp only [lcells, Int.natCast_zero, Int.ofNat_zero] at H5
  generalize hxx : x2.alloc _ = x3 at *
  generalize hgg : x2.heap.size = g at *
  clear H2 H3 H4 hxx hgg s0
  refine Pt.wp_plan (fun w' => w'.cell? ⟨g, 1, none⟩ = some (.int .u64 (G : Int))) (Pt.prs [0, 2, 3, 4] (Pt.rds [5] (.go 1 (.go 6 (Pt.prs [7, 8, 9, 10, 11] .fin))))) [] Try.mixed (by kernel_rfl) (fun _ _ d _ _ h => by cases d <;> exact h) (H5.drew.cell 0 rfl 1) ?_
  have H6 := H5.drew
  clear H5
  simp only [Pt.toL, Pt.rds, Pt.prs, Pt.at_, List.drop_succ_cons, List.drop_zero]
  iterate 4 (refine Pt.pr_run (v := ?_) (by rfl) ?_ ?_; rotate_left; (focus (intro w'; go_simp; with_reducible rfl)); simp only [Act.put, List.setIfInBounds_toArray, List.set_cons_zero, List.set_cons_succ])
  (refine Pt.rd_run (v := ?_) (by rfl) ?_ ?_; rotate_left; (focus (intro w' hS; obtain s0 := hS; go_simp; with_reducible rfl)); simp only [Act.put, List.setIfInBounds_toArray, List.set_cons_zero, List.set_cons_succ])
  refine Pt.run_go ?_
  go_wp2_with fail
  refine (fs_blocks H6).mono ?_
  rintro e x4 ⟨rfl, rfl⟩
  go_wp2_with fail
  refine Pt.same (H6.cell 0 rfl 1) ?_
  refine Pt.run_go ?_
  go_wp2_with fail
  refine (HHF.out _).mono ?_
  rintro e x4 ⟨rfl, rfl⟩
  go_wp2_with fail
  refine Pt.same (H6.cell 0 rfl 1) ?_
  iterate 5 (refine Pt.pr_run (v := ?_) (by rfl) ?_ ?_; rotate_left; (focus (intro w'; go_simp; with_reducible rfl)); simp only [Act.put, List.setIfInBounds_toArray, List.set_cons_zero, List.set_cons_succ])
  refine Pt.run_fin ?_
  have e6 := HE6.out
  have hco : (o2 : Int) ≤ (c0 : Int) := by omega
  have hce : ¬ c0 = o1 := by omega
  have hs1 : hn ≤ c0 - o1 := by omega
  have hs2 : c0 - o1 ≤ 9223372036854775807 := by omega
  have HS1 := Lib.hid hs1
  have HS2 := Lib.hid hs2
  clear e6 hs1 hs2 hc1
  go_wp2
  refine Pt.wp_plan (fun w' => w'.cell? ⟨g, 1, none⟩ = some (.int .u64 (G : Int))) (Pt.prs [0, 1, 2, 3, 4, 6, 7, 8, 9, 10, 11, 12, 13] (Pt.rds [5] (.go 14 (Pt.prs [15, 16, 17, 18, 19] (.go 20 (Pt.prs [21, 22] (.go 23 .fin))))))) [] Try.mixed (by kernel_rfl) (fun _ _ d _ _ h => by cases d <;> exact h) (H6.drew.cell 0 rfl 1) ?_
  have H7 := H6.drew
  clear H6
  simp only [Pt.toL, Pt.rds, Pt.prs, Pt.at_, List.drop_succ_cons, List.drop_zero]
  iterate 13 (refine Pt.pr_run (v := ?_) (by rfl) ?_ ?_; rotate_left; (focus (intro w'; go_simp; with_reducible rfl)); simp only [Act.put, List.setIfInBounds_toArray, List.set_cons_zero, List.set_cons_succ])
  (refine Pt.rd_run (v := ?_) (by rfl) ?_ ?_; rotate_left; (focus (intro w' hS; obtain s0 := hS; go_simp; with_reducible rfl)); simp only [Act.put, List.setIfInBounds_toArray, List.set_cons_zero, List.set_cons_succ])
  refine Pt.run_go ?_
  obtain ⟨ok2, lb2, pv2, H8⟩ := H7
  have sr := (Sr.row 4 rfl : Sr w0 M (ef f lb2 F pv2 (eb g 68 [.pointer (some ⟨f, 0, none⟩), .int .u64 (G : Int), .slice none 0 0, .int .i64 0] :: er 5 1 (.slice (some ⟨g0, 0, none⟩) (64 * F.n) c0) (64 * F.n) (bv F.l) :: L)) (some ⟨g0, 0, none⟩) F.l).sub o1 hn
  rw [← HHE.out, Nat.zero_add] at sr
  have hsc := scan_any H8 G hGl (A := some ⟨g0, o1, none⟩) (c := c0 - o1) (n := hn) (h := hb) HHL.out.symm sr (by rintro ⟨⟩) HS1.out HS2.out (by omega)
  have HSC := Lib.hid hsc
  clear hsc sr
  go_wp2_with fail
  refine HSC.out.mono ?_
  rintro e x5 ⟨v, ps, M', rfl, hM', hrow, H9⟩
  have H10 : FS w0 x5 M' f F (er 22 1 v ps.length (ps.map Pc.v) :: eb g 68 [.pointer (some ⟨f, 0, none⟩), .int .u64 (G : Int), .slice none 0 0, .int .i64 0] :: er 5 1 (.slice (some ⟨g0, 0, none⟩) (64 * F.n) c0) (64 * F.n) (bv F.l) :: L) := ⟨ok2, lb2, pv2, fs_add rfl H9⟩
  have H11 := Fs_perm H10 (List.Perm.swap _ _ _)
  obtain ⟨A5, c5, rfl, _⟩ := H11.rest.shape 1 rfl
  obtain ⟨Z, HZ, hback⟩ := H11.out
  obtain ⟨R2, hR2⟩ : ∃ R, R = (Lg.records G hb).2 := ⟨_, rfl⟩
  rw [← hR2]
  have HR2 := Lib.hid hR2
  have HROW := Lib.hid hrow
  have y2 : x5.cell? ⟨g, 2, none⟩ = some (.slice none 0 0) := HZ.cell 0 rfl 2
  have y3 : x5.cell? ⟨g, 3, none⟩ = some (.int .i64 0) := HZ.cell 0 rfl 3
  have z2 := HZ.frozen 0 rfl 2
  have z3 := HZ.frozen 0 rfl 3
  clear hR2 hrow H8 H9 H10 HSC
  go_wp2_with fail
  refine Pt.same (H11.cell 0 rfl 1) ?_
  iterate 5 (refine Pt.pr_run (v := ?_) (by rfl) ?_ ?_; rotate_left; (focus (intro w'; go_simp; with_reducible rfl)); simp only [Act.put, List.setIfInBounds_toArray, List.set_cons_zero, List.set_cons_succ])
  have H12 := HZ.set 2 (.slice A5 ps.length c5)
  have H13 := H12.set 3 (.int .i64 (R2 : Int))
  refine Pt.run_go ?_
  go_wp2_with fail
  refine Pt.same (H12.cell 0 rfl 1) ?_
  iterate 2 (refine Pt.pr_run (v := ?_) (by rfl) ?_ ?_; rotate_left; (focus (intro w'; go_simp; with_reducible rfl)); simp only [Act.put, List.setIfInBounds_toArray, List.set_cons_zero, List.set_cons_succ])
  refine Pt.run_go ?_
  go_wp2_with fail
  refine Pt.same (H13.cell 0 rfl 1) ?_
  refine Pt.run_fin ?_
  have H14 := hback _ _ _ H13
  have H15 : LS w0 _ M' g f F G (Lg.records G hb).1 R2 L := ⟨_, ps, HROW.out, Fs_d2 H14⟩
  go_wp2
  go_ret2
  exact ⟨g, M', rfl, hM', by rw [← HR2.out]; exact H15⟩
end
end Go.Proofs.Ytnaocjhhnlndmaa
