/- The reference's Records and Same. -/
import Derived.Test.YtepgmebklhemgaaGreatDoorS7
set_option linter.unusedVariables false
set_option linter.unusedSimpArgs false
namespace Go.Proofs.YtepgmebklhemgaaGreatDoor
open Go.RowKit Wd
/-- Records in a slice that is never written again. -/
def RowsAt (M : Mem) (A : Option Addr) (n c : Nat) (ps : List Pc) (ls : List (List UInt8)) : Prop := n = ps.length ∧ n ≤ c ∧ (A = none → c = 0) ∧ Rows M ps ls ∧ In M (RA · A (ps.map Pc.v))
theorem RowsAt.le {M M' : Mem} {A : Option Addr} {n c : Nat} {ps : List Pc} {ls : List (List UInt8)} (h : RowsAt M A n c ps ls) (hm : M.le M') : RowsAt M' A n c ps ls := ⟨h.1, h.2.1, h.2.2.1, h.2.2.2.1.le hm, h.2.2.2.2.le hm⟩
def RetRowsAt (w0 : World) (M : Mem) (L : List Ent) (ls : List (List UInt8)) (e : Ending) (w' : World) : Prop :=
  ∃ A n c ps M', e = .returned (.slice A n c) ∧ M.le M' ∧ RowsAt M' A n c ps ls ∧ St w0 w' M' L
section
variable {w0 w : World} {M : Mem} {L : List Ent}
set_option maxRecDepth 100000 in
set_option maxHeartbeats 2000000 in
theorem rrecs_any (H : St w0 w M L) {A : Option Addr} {c n : Nat} {ps : List Pa} (hp : PasAt M A n c ps) (hok : ∀ p ∈ ps.map Pa.pr, Kv.okP p) (hn2 : n ≤ 1000000) :
    Calls Tryz.prog 40 #[.slice A n c] w (RetRowsAt w0 M L (Kv.recsOf (ps.map Pa.pr))) := by
  have HP := Lib.hid (And.intro hp hok)
  have H0 := H.lit00 30 1
  clear hp hok
  go_enter Tryz.func40, Tryz.ntmps40
  go_wp2_with fail
  go_loopw [3, 4] (fun v i wr => ∃ (k : Nat) (qs : List Pc) (M' : Mem), k ≤ n ∧ i = .int .i64 k ∧ M.le M' ∧ Rows M' qs (Kv.recsOf ((ps.map Pa.pr).take k)) ∧ St w0 wr M' (er 30 1 v k (qs.map Pc.v) :: L)) (fun _ i _ => n - (intOf i).toNat)
  case atStart => exact ⟨0, [], M, by omega, rfl, Mem.le.refl _, Rows.nil _, H0⟩
  case round =>
    obtain ⟨k, qs, M', hk, rfl, hM, hrow, H1⟩ := hrel
    clear H0 H
    obtain ⟨A3, c3, rfl, -⟩ := H1.shape 0 rfl
    by_cases hlt : k < n
    · have hk1 : k < ps.length := by have := HP.out.1.1; omega
      have hpr : SrA w0 M' L A (pas ps) := SrA.of_in (HP.out.1.2.2.2.2.le hM)
      obtain ⟨b, o, rfl, -⟩ := RA.pa2 (hpr.now H1.d0) k hk1
      have htk : Kv.recsOf ((ps.map Pa.pr).take (k + 1)) = Kv.recsOf ((ps.map Pa.pr).take k) ++ [Kv.recOf (Pa.pr ps[k])] := by
        unfold Kv.recsOf
        rw [List.take_succ_eq_append_getElem (by rw [List.length_map]; exact hk1), List.getElem_map, List.map_append]
        rfl
      have hokp := HP.out.2 _ (List.mem_map.2 ⟨_, List.getElem_mem hk1, rfl⟩)
      have hpi := (HP.out.1.2.2.2.1.le hM) _ (List.getElem_mem hk1)
      have k1 := fun W M2 (hM2 : M'.le M2) (HW : St w0 W M2 L) => cells_pa hpr hk1 hM2 HW rfl rfl
      obtain ⟨a, ha⟩ : ∃ a, a = ps[k] := ⟨_, rfl⟩
      rw [← ha] at htk hokp hpi
      simp only [← ha] at k1
      obtain ⟨key, ⟨PA, PN, PC, PL⟩⟩ := a
      simp only [Pc.v] at k1
      have hpe : Pa.pr ⟨key, ⟨PA, PN, PC, PL⟩⟩ = (key, PL) := rfl
      rw [hpe] at htk hokp
      have K1 := Lib.hid k1
      have HK := Lib.hid (And.intro hlt (And.intro hM (And.intro hrow (And.intro htk (And.intro hokp hpi)))))
      have hkb : k ≤ 1000000 := by omega
      have q1 : (k : Int) < (n : Int) := by omega
      obtain ⟨s0, s1⟩ := k1 _ M' (Mem.le.refl _) H1.drew.d0
      clear k1 htk hokp hpi hrow hM hk hlt hk1 ha hpr hpe
      go_upto_region 5 with fail
      refine Pt.wp_plan (fun w' => w'.cell? ⟨b, o + k * 2, none⟩ = some (.string (str key)) ∧ w'.cell? ⟨b, o + k * 2 + 1, none⟩ = some (.slice PA PN PC)) (Pt.prs [0, 1, 2, 3, 4, 6, 7, 8, 9] (Pt.rds [5, 10] (Pt.prs [11] (.go 12 (.go 13 (.go 14 (.go 15 (Pt.prs [16] .fin)))))))) [] Tryz.mixed (by kernel_rfl) (fun _ _ d _ _ h => by cases d <;> exact h) ⟨s0, s1⟩ ?_
      have H2 := H1.drew
      clear H1 s0 s1
      generalize wr.drew = w2 at *
      simp only [Pt.toL, Pt.rds, Pt.prs, Pt.at_, List.drop_succ_cons, List.drop_zero]
      iterate 9 (refine Pt.pr_run (v := ?_) (by rfl) ?_ ?_; rotate_left; (focus (intro w'; go_simp; with_reducible rfl)); simp only [Act.put, List.setIfInBounds_toArray, List.set_cons_zero, List.set_cons_succ])
      iterate 2 (refine Pt.rd_run (v := ?_) (by rfl) ?_ ?_; rotate_left; (focus (intro w' hS; obtain ⟨s0, s1⟩ := hS; go_simp; with_reducible rfl)); simp only [Act.put, List.setIfInBounds_toArray, List.set_cons_zero, List.set_cons_succ])
      (refine Pt.pr_run (v := ?_) (by rfl) ?_ ?_; rotate_left; (focus (intro w'; go_simp; with_reducible rfl)); simp only [Act.put, List.setIfInBounds_toArray, List.set_cons_zero, List.set_cons_succ])
      have hbs := run_buildSlice_one (P := Tryz.prog) (n := 3) Tryz.underlying42 Tryz.zeroAct rfl (by decide) (by decide) (.agg #[.string (str key), .bool true, .slice PA PN PC]) rfl w2
      have H3 := H2.new [.string (str key), .bool true, .slice PA PN PC] 75
      refine Pt.run_go ?_
      refine wpList_bs1 (by rfl) 42 (.tmp 23) (by rfl) (by rfl) hbs ?_
      refine wpList_nil ?_
      obtain ⟨s0, s1⟩ := K1.out _ M' (Mem.le.refl _) H3.d0.d0
      refine Pt.same ⟨s0, s1⟩ ?_
      simp only [Act.put, List.setIfInBounds_toArray, List.set_cons_zero, List.set_cons_succ]
      have hrb := rbytes_any H3 (A := some ⟨w2.heap.size, 0, none⟩) (c := 1) (n := 1) (l := [⟨key, true, ⟨PA, PN, PC, PL⟩⟩]) rfl (fun w' M' hM H => (H.blk 0 rfl).ra 0 3 _ rfl) (fun a ha => by rw [List.mem_singleton.1 ha]; exact HK.out.2.2.2.2.2) (by omega) (fun a ha => by
        rw [List.mem_singleton.1 ha]
        have := HK.out.2.2.2.2.1
        unfold Kv.okP at this
        simp only at this ⊢
        omega)
      have hre : Kv.bytes ([(⟨key, true, ⟨PA, PN, PC, PL⟩⟩ : Ac)].map Ac.act) = Kv.recOf (key, PL) := rfl
      rw [hre] at hrb
      obtain ⟨R, hR⟩ : ∃ R, R = Kv.recOf (key, PL) := ⟨_, rfl⟩
      rw [← hR] at hrb
      have HRB := Lib.hid hrb
      have HR := Lib.hid hR
      clear hrb hre hR hbs H2 H3 s0 s1
      refine Pt.run_go ?_
      go_wp2_with fail
      refine HRB.out.mono ?_
      rintro e w4 ⟨B, d, M4, rfl, hd, hB, hM4, hin, H5⟩
      have H6 := H5.d0
      have HIN := Lib.hid (And.intro hd (And.intro hB (And.intro hM4 hin)))
      clear hd hB hM4 hin H5 HRB
      go_wp2_with fail
      obtain ⟨s0, s1⟩ := K1.out _ M4 HIN.out.2.2.1 H6.d0
      refine Pt.same ⟨s0, s1⟩ ?_
      obtain ⟨m, hm⟩ : ∃ m, m = R.length := ⟨_, rfl⟩
      rw [← hm]
      have HMM := Lib.hid hm
      clear hm
      have hbs : (Instr.buildSlice 36 1 #[(0, .slice B m d)]).run Tryz.prog w4 = .ok (.slice (some ⟨w4.heap.size, 0, none⟩) 1 1) (w4.alloc (.cells #[.slice B m d] 30)) := by go_simp
      refine Pt.run_go ?_
      refine wpList_bs1 (by rfl) 36 (.tmp 25) (by rfl) (by rfl) hbs ?_
      refine wpList_nil ?_
      obtain ⟨s0, s1⟩ := K1.out _ M4 HIN.out.2.2.1 (H6.alloc (.cells #[.slice B m d] 30)).d0
      refine Pt.same ⟨s0, s1⟩ ?_
      simp only [Act.put, List.setIfInBounds_toArray, List.set_cons_zero, List.set_cons_succ]
      refine Pt.run_go ?_
      refine wpList_append1_st H6 (by rfl) (.tmp 12) (.tmp 26) 36 (by rfl) Tryz.info22 (by rfl) Tryz.underlying36 (by rfl) (by rfl) (by rfl) (by omega) (by omega) ?_
      intro v7 w7 H7
      obtain ⟨A7, c7, rfl, -⟩ := H7.shape 0 rfl
      clear H6 hbs s0 s1
      refine wpList_nil ?_
      obtain ⟨s0, s1⟩ := K1.out _ M4 HIN.out.2.2.1 H7.d0
      refine Pt.same ⟨s0, s1⟩ ?_
      simp only [Act.put, List.setIfInBounds_toArray, List.set_cons_zero, List.set_cons_succ]
      (refine Pt.pr_run (v := ?_) (by rfl) ?_ ?_; rotate_left; (focus (intro w'; go_simp; with_reducible rfl)); simp only [Act.put, List.setIfInBounds_toArray, List.set_cons_zero, List.set_cons_succ])
      refine Pt.run_fin ?_
      clear s0 s1
      go_wp2
      refine ⟨⟨k + 1, qs ++ [⟨B, m, d, R⟩], M4, by have := HK.out.1; omega, by go_num, HK.out.2.1.trans HIN.out.2.2.1, ?_, ?_⟩, by have := HK.out.1; simp [intOf]; omega⟩
      · rw [HK.out.2.2.2.1, ← HR.out]
        have hm := HMM.out
        exact (HK.out.2.2.1.le HIN.out.2.2.1).snoc (p := ⟨B, m, d, R⟩) ⟨hm, HIN.out.2.1, by rw [hm]; exact HIN.out.1⟩ HIN.out.2.2.2
      · rw [List.map_append]
        exact H7
    · obtain rfl : k = n := by omega
      have htk : (ps.map Pa.pr).take k = ps.map Pa.pr := by rw [List.take_of_length_le (by rw [List.length_map]; have := HP.out.1.1; omega)]
      rw [htk] at hrow
      obtain ⟨A6, c6, hA6, hc6, hA6n⟩ := H1.shape' 0 rfl
      injection hA6 with e1 _ e2
      subst e1 e2
      have hkl : k = qs.length := by
        have := hrow.len
        unfold Kv.recsOf at this
        rw [List.length_map, List.length_map, ← HP.out.1.1] at this
        exact this
      obtain ⟨M6, hM6, H7, hin6, -⟩ := H1.lendRowA
      have HH := Lib.hid (And.intro hM (And.intro hrow (And.intro hM6 (And.intro hin6 (And.intro hc6 (And.intro hA6n hkl))))))
      clear hM hrow hM6 hin6 htk hlt hk hc6 hA6n H1 hkl
      go_wp2
      go_ret
      exact ⟨A3, k, c3, qs, M6, rfl, HH.out.1.trans HH.out.2.2.1, ⟨HH.out.2.2.2.2.2.2, HH.out.2.2.2.2.1, HH.out.2.2.2.2.2.1, HH.out.2.1.le HH.out.2.2.1, HH.out.2.2.2.1⟩, H7⟩
end
end Go.Proofs.YtepgmebklhemgaaGreatDoor
