/- DueDone walked. -/
import Derived.Test.YtgnlkcdpklgikaaVt
import Derived.Test.YtgnlkcdpklgikaaVo
set_option linter.unusedVariables false
set_option linter.unusedSimpArgs false
namespace Go.Proofs.Ytgnlkcdpklgikaa
open Go.RowKit Wd Go.Sort
open Du (Due)
section
set_option maxRecDepth 100000 in
set_option maxHeartbeats 2000000 in
theorem dueDone_any {w : World} {A B : Option Addr} {c n d m : Nat} {l ps : List Due} (hr : RA w A (dcs l)) (hn : n = l.length) (hA : A = none → c = 0) (hrb : RA w B (dcs ps)) (hm : m = ps.length) (now gap : Int) :
    Calls Try.prog 4 #[.slice A n c, .slice B m d, .agg #[.int .i64 now, .int .i64 gap]] w fun e w' => e = .returned (.bool true) ∧ Below w.heap.size w w' := by
  have H0 := St.start w
  have sA0 : SrA w _ [] A (dcs l) := SrA.of_in (In.oldRA H0 hr)
  have sB0 : SrA w _ [] B (dcs ps) := SrA.of_in (In.oldRA H0 hrb)
  have H := H0.new [.int .i64 now, .int .i64 gap] 33
  have s0 := sA0.cons (eb w.heap.size 33 [.int .i64 now, .int .i64 gap])
  have s1 := sB0.cons (eb w.heap.size 33 [.int .i64 now, .int .i64 gap])
  clear sA0 sB0 H0
  have hcase : 400 < n ∨ (¬ 400 < n ∧ 400 < m) ∨ (¬ 400 < n ∧ ¬ 400 < m) := by omega
  have aw : ∀ w' L', St w w' (w.heap[·]?) L' → Calls Try.prog 7 #[] w' fun e w' => e = .returned (.bool true) ∧ St w w' (w.heap[·]?) L' := fun w' L' H => awake26_any H
  have AW := Lib.hid aw
  clear aw
  rcases hcase with h1 | ⟨h1, h2⟩ | ⟨h1, h2⟩
  · have q1 : (400 : Int) < (n : Int) := by omega
    clear h1
    go_enter Try.func4, Try.ntmps4
    go_wp2_with fail
    refine (AW.out _ _ H).mono ?_
    rintro e w1 ⟨rfl, H1⟩
    go_wp2
    go_ret
    exact ⟨rfl, H1.below⟩
  · have q1 : ¬ (400 : Int) < (n : Int) := by omega
    have q2 : (400 : Int) < (m : Int) := by omega
    clear h1 h2
    go_enter Try.func4, Try.ntmps4
    go_wp2_with fail
    refine (AW.out _ _ H).mono ?_
    rintro e w1 ⟨rfl, H1⟩
    go_wp2
    go_ret
    exact ⟨rfl, H1.below⟩
  · have q1 : ¬ (400 : Int) < (n : Int) := by omega
    have q2 : ¬ (400 : Int) < (m : Int) := by omega
    have hn4 : n ≤ 400 := by omega
    have hm4 : m ≤ 400 := by omega
    have HN := Lib.hid hn
    have HM := Lib.hid hm
    have HA := Lib.hid hA
    clear h1 h2 hn hm hA
    go_enter Try.func4, Try.ntmps4
    go_upto_region 4 with fail
    refine Pt.wp_plan (fun w' => St w w' (w.heap[·]?) [eb w.heap.size 33 [.int .i64 now, .int .i64 gap]]) (Pt.prs [1, 3, 4, 6] (Pt.rds [5] (.go 0 (.go 2 (.go 7 (Pt.prs [8, 9, 10, 11, 12] .fin)))))) [] Try.mixed (by kernel_rfl) (fun _ _ d _ _ h => by cases d <;> exact h) H.drew ?_
    have H1 := H.drew
    simp only [Pt.toL, Pt.rds, Pt.prs, Pt.at_, List.drop_succ_cons, List.drop_zero]
    iterate 4 (refine Pt.pr_run (v := ?_) (by rfl) ?_ ?_; rotate_left; (focus (intro w'; go_simp; with_reducible rfl)); simp only [Act.put, List.setIfInBounds_toArray, List.set_cons_zero, List.set_cons_succ])
    (refine Pt.rd_run (v := ?_) (by rfl) ?_ ?_; rotate_left; (focus (intro w' hS; have c := hS.cell 0 rfl 0; go_simp; with_reducible rfl)); simp only [Act.put, List.setIfInBounds_toArray, List.set_cons_zero, List.set_cons_succ])
    generalize hxx : World.drew _ = wz at *
    clear hxx H
    refine Pt.run_go ?_
    have H2 := H1.lit00 40 3
    go_wp2_with fail
    refine Pt.same H2.d0 ?_
    have rr := (s0.cons (er 40 3 (.slice (some ⟨wz.heap.size, 0, none⟩) 0 0) 0 [])).now H2
    refine Pt.run_go ?_
    refine wpList_append_any_st H2 (by rfl) (.tmp 24) (.tmp 25) 22 (by rfl) Try.infoDue (by rfl) (by decide) Try.underlying22 (by rfl) A n c (dcs l) (by rfl) (by rw [dcs_length, HN.out]) HA.out rr (dcs_one _) (by omega) (by omega) ?_
    intro v w2 H3
    rw [Nat.zero_add, List.nil_append] at H3
    obtain ⟨A2, c2, rfl, hc2, hA2⟩ := H3.shape' 0 rfl
    refine wpList_nil ?_
    refine Pt.same H3.d0 ?_
    simp only [Act.put, List.setIfInBounds_toArray, List.set_cons_zero, List.set_cons_succ]
    have hdone := done_any (c := c2) (d := d) H3 HN.out (by omega) hA2 (SrA.row 0 rfl) HM.out (by omega) (s1.cons _) now gap
    have HD := Lib.hid hdone
    clear hdone H1 H2 rr
    refine Pt.run_go ?_
    go_wp2_with fail
    refine HD.out.mono ?_
    rintro e w3 (⟨v1, hg1, hg2, hg3, hg4, rfl, H4⟩ | ⟨hno, rfl, H4⟩)
    · have hrd := rdone_any (c := c) (d := d) H4 HN.out (by omega) ((s0.cons _).cons _) HM.out (by omega) ((s1.cons _).cons _) now gap
      have HRD := Lib.hid hrd
      have hgood : Du.May l ∧ Du.time now ∧ 1 ≤ gap ∧ gap ≤ 1048576 := ⟨hg1, hg2, hg3, hg4⟩
      have HG := Lib.hid hgood
      obtain ⟨A3, c3, rfl, hc3⟩ := H4.shape 0 rfl
      have g0 := H4.cell 2 rfl 0
      simp only [List.getElem?_cons_zero] at g0
      clear hrd hgood hg1 hg2 hg3 hg4 HD H3
      go_wp2_with fail
      refine Pt.same H4.d0.d0 ?_
      iterate 5 (refine Pt.pr_run (v := ?_) (by rfl) ?_ ?_; rotate_left; (focus (intro w'; go_simp; with_reducible rfl)); simp only [Act.put, List.setIfInBounds_toArray, List.set_cons_zero, List.set_cons_succ])
      refine Pt.run_fin ?_
      go_wp2_with fail
      refine HRD.out.mono ?_
      rintro e w4 (⟨v2, -, -, -, -, rfl, H5⟩ | ⟨hno, -, -⟩)
      · obtain ⟨A4, c4, rfl, hc4⟩ := H5.shape 0 rfl
        have hsame := rsame_any H5 (A := A3) (B := A4) (c := c3) (d := c4) (n := l.length) (m := l.length) (ps := Du.done now gap ps l) (qs := Du.done now gap ps l) (by simp [Du.done]) (by simp [Du.done]) (SrA.row 1 rfl) (SrA.row 0 rfl) (by have := HN.out; omega)
        rw [decide_eq_true (rfl : Du.done now gap ps l = Du.done now gap ps l)] at hsame
        have HS := Lib.hid hsame
        clear hsame H4
        go_wp2_with fail
        refine HS.out.mono ?_
        rintro e w6 ⟨rfl, H7⟩
        go_wp2_with fail
        refine (AW.out _ _ H7).mono ?_
        rintro e w7 ⟨rfl, H8⟩
        go_wp2
        go_ret
        exact ⟨rfl, H8.below⟩
      · exact absurd HG.out hno
    · have hrd := rdone_any (c := c) (d := d) H4 HN.out (by omega) (s0.cons _) HM.out (by omega) (s1.cons _) now gap
      have HRD := Lib.hid hrd
      have HNO := Lib.hid hno
      have g0 := H4.cell 1 rfl 0
      simp only [List.getElem?_cons_zero] at g0
      clear hrd hno HD H3
      go_wp2_with fail
      refine Pt.same H4.d0 ?_
      iterate 5 (refine Pt.pr_run (v := ?_) (by rfl) ?_ ?_; rotate_left; (focus (intro w'; go_simp; with_reducible rfl)); simp only [Act.put, List.setIfInBounds_toArray, List.set_cons_zero, List.set_cons_succ])
      refine Pt.run_fin ?_
      go_wp2_with fail
      refine HRD.out.mono ?_
      rintro e w4 (⟨v2, h1, h2, h3, h4, -, -⟩ | ⟨-, rfl, H5⟩)
      · exact absurd ⟨h1, h2, h3, h4⟩ HNO.out
      · go_wp2_with fail
        refine (AW.out _ _ H5).mono ?_
        rintro e w7 ⟨rfl, H8⟩
        go_wp2
        go_ret
        exact ⟨rfl, H8.below⟩
end
end Go.Proofs.Ytgnlkcdpklgikaa
