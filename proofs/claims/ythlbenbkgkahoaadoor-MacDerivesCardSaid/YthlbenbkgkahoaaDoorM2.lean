/- MacSame walked. -/
import Derived.Test.YthlbenbkgkahoaaDoorMw
import Derived.Test.YthlbenbkgkahoaaDoorPt
set_option linter.unusedVariables false
set_option linter.unusedSimpArgs false
namespace Go.Proofs.YthlbenbkgkahoaaDoor
open Go.RowKit Wd
theorem list_eq (a b : List UInt8) : (a == b) = decide (a = b) := by
  rw [Bool.eq_iff_iff]
  simp
set_option maxRecDepth 100000 in
set_option maxHeartbeats 1000000 in
theorem macSame_any {w : World} (ht : Tabs w) {A B : Option Addr} {c d : Nat} {a b : List UInt8} (hra : RB w A a) (hrb : RB w B b) (hac : a.length ≤ c) (hbd : b.length ≤ d) (hn : a.length ≤ 9223372036854775807) :
    Calls Tryd.prog 4 #[.slice A a.length c, .slice B b.length d] w fun e w' => e = .returned (.bool true) ∧ Below w.heap.size w w' := by
  have H := St.start w
  have sa : Sr w (w.heap[·]?) [] A a := Sr.of_in (In.oldRB H hra)
  have sb : Sr w (w.heap[·]?) [] B b := Sr.of_in (In.oldRB H hrb)
  have hsm := fun (W : World) (r1 : RB W A a) (r2 : RB W B b) => same_any (w := W) r1 r2 hac hbd hn
  obtain ⟨t, htt⟩ : ∃ t, t = decide (a = b) := ⟨_, rfl⟩
  rw [← htt] at hsm
  have hse := list_eq a b
  rw [← htt] at hse
  have HSM := Lib.hid hsm
  have HSE := Lib.hid hse
  clear hsm htt hse
  go_enter Tryd.func4, Tryd.ntmps4
  go_wp2
  refine Pt.wp_plan (fun w' => St w w' (w.heap[·]?) []) (Pt.prs [0, 1, 3, 5] (Pt.rds [4, 6] (Pt.prs [7] (.go 2 (Pt.prs [8, 9] (.go 10 (Pt.prs [11, 12] .fin))))))) [] Tryd.mixed (by kernel_rfl) (fun _ _ d _ _ h => by cases d <;> exact h) H.drew ?_
  simp only [Pt.toL, Pt.rds, Pt.prs, Pt.at_, List.drop_succ_cons, List.drop_zero]
  iterate 4 (refine Pt.pr_run (v := ?_) (by rfl) ?_ ?_; rotate_left; (focus (intro w'; go_simp; with_reducible rfl)); simp only [Act.put, List.setIfInBounds_toArray, List.set_cons_zero, List.set_cons_succ])
  (refine Pt.rd_run (v := ?_) (by rfl) ?_ ?_; rotate_left; (focus (intro w' hS; have cv := conv_RB (P := Tryd.prog) (src := 22) (dst := 9) (c := c) Tryd.underlying22 Tryd.underlying5 Tryd.underlying9 (sa.now hS) rfl; go_simp; with_reducible rfl)); simp only [Act.put, List.setIfInBounds_toArray, List.set_cons_zero, List.set_cons_succ])
  (refine Pt.rd_run (v := ?_) (by rfl) ?_ ?_; rotate_left; (focus (intro w' hS; have cv := conv_RB (P := Tryd.prog) (src := 22) (dst := 9) (c := d) Tryd.underlying22 Tryd.underlying5 Tryd.underlying9 (sb.now hS) rfl; go_simp; with_reducible rfl)); simp only [Act.put, List.setIfInBounds_toArray, List.set_cons_zero, List.set_cons_succ])
  have hse := HSE.out
  (refine Pt.pr_run (v := ?_) (by rfl) ?_ ?_; rotate_left; (focus (intro w'; go_simp; with_reducible rfl)); simp only [Act.put, List.setIfInBounds_toArray, List.set_cons_zero, List.set_cons_succ])
  clear hse
  refine Pt.run_go ?_
  have H1 := H.drew
  go_wp2_with fail
  refine (HSM.out _ (sa.now H1) (sb.now H1)).mono ?_
  rintro e w' ⟨rfl, rfl⟩
  go_wp2_with fail
  refine Pt.same H1 ?_
  iterate 2 (refine Pt.pr_run (v := ?_) (by rfl) ?_ ?_; rotate_left; (focus (intro w'; go_simp; with_reducible rfl)); simp only [Act.put, List.setIfInBounds_toArray, List.set_cons_zero, List.set_cons_succ])
  refine Pt.run_go ?_
  go_wp2_with fail
  refine (awake_any ht H1).mono ?_
  rintro e w2 ⟨rfl, H2⟩
  go_wp2_with fail
  refine Pt.same H2 ?_
  iterate 2 (refine Pt.pr_run (v := ?_) (by rfl) ?_ ?_; rotate_left; (focus (intro w'; go_simp; with_reducible rfl)); simp only [Act.put, List.setIfInBounds_toArray, List.set_cons_zero, List.set_cons_succ])
  refine Pt.run_fin ?_
  go_wp2
  go_ret
  exact ⟨rfl, H2.below⟩
end Go.Proofs.YthlbenbkgkahoaaDoor
