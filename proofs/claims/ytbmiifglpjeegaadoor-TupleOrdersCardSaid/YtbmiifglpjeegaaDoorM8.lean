/- tuple.Compare's closure; the reference's Compare. -/
import Derived.Test.YtbmiifglpjeegaaDoorM7
set_option linter.unusedVariables false
set_option linter.unusedSimpArgs false
namespace Go.Proofs.YtbmiifglpjeegaaDoor
open Go.RowKit Wd
section
variable {w0 w : World} {M : Mem} {L : List Ent}
set_option maxRecDepth 100000 in
theorem pcmp_any (H : St w0 w M L) (p q : Tu.Part) :
    Calls Tryd.prog 32 #[pv p, pv q] w fun e w' => e = .returned (.int .i64 (Tu.pcmp p q)) ∧ St w0 w' M L := by
  obtain ⟨s, n, b⟩ := p
  obtain ⟨t, m, d⟩ := q
  have H1 := H.new [.string (str s), .int .u64 (n : Int), .bool b] 42
  have H2 := H1.newg [.string (str t), .int .u64 (m : Int), .bool d] 42 (g := w.heap.size + 1) (by simp)
  unfold pv
  simp only
  by_cases hbd : b = d
  · subst hbd
    have e : Tu.pcmp ⟨s, n, b⟩ ⟨t, m, b⟩ = if Tu.ncmp n m ≠ 0 then Tu.ncmp n m else Lib.compareBytes s t := Tu.pcmp_or rfl
    rw [e]
    clear e
    have hn := fun w => ncmp_any n m w
    have hs := fun w => scmp_any s t w
    obtain ⟨N, hN⟩ : ∃ N, N = Tu.ncmp n m := ⟨_, rfl⟩
    obtain ⟨S, hS⟩ : ∃ S, S = Lib.compareBytes s t := ⟨_, rfl⟩
    rw [← hN] at hn ⊢
    rw [← hS] at hs ⊢
    have HN := Lib.hid hn
    have HS := Lib.hid hs
    obtain ⟨R, hR⟩ : ∃ R, R = if N ≠ 0 then N else S := ⟨_, rfl⟩
    rw [← hR]
    have hor := fun g w c0 c1 => or_any (w := w) (g := g) N S c0 c1
    rw [← hR] at hor
    have HOR := Lib.hid hor
    clear hn hs hN hS hR hor
    obtain ⟨G, hG⟩ : ∃ G, G = w.heap.size := ⟨_, rfl⟩
    cases b
    all_goals
      go_enter Tryd.func32, Tryd.ntmps32
      go_upto_region 2 with fail
      refine Pt.wp_plan (fun w' => St w0 w' M (eb (w.heap.size + 1) 42 [.string (str t), .int .u64 (m : Int), .bool _] :: eb w.heap.size 42 [.string (str s), .int .u64 (n : Int), .bool _] :: L)) (Pt.prs [0, 2, 5, 7] (Pt.rds [1, 3, 6, 8] (.go 4 (.go 9 (.go 10 (.go 11 (Pt.prs [12] .fin))))))) [] Tryd.mixed (by kernel_rfl) (fun _ _ d _ _ h => by cases d <;> exact h) H2.drew ?_
      have H3 := H2.drew
      simp only [Pt.toL, Pt.rds, Pt.prs, Pt.at_, List.drop_succ_cons, List.drop_zero]
      iterate 4 (refine Pt.pr_run (v := ?_) (by rfl) ?_ ?_; rotate_left; (focus (intro w'; go_simp; with_reducible rfl)); simp only [Act.put, List.setIfInBounds_toArray, List.set_cons_zero, List.set_cons_succ])
      (refine Pt.rd_run (v := ?_) (by rfl) ?_ ?_; rotate_left; (focus (intro w' hS; have c := hS.cell 1 rfl 1; go_simp; with_reducible rfl)); simp only [Act.put, List.setIfInBounds_toArray, List.set_cons_zero, List.set_cons_succ])
      (refine Pt.rd_run (v := ?_) (by rfl) ?_ ?_; rotate_left; (focus (intro w' hS; have c := hS.cell 0 rfl 1; go_simp; with_reducible rfl)); simp only [Act.put, List.setIfInBounds_toArray, List.set_cons_zero, List.set_cons_succ])
      (refine Pt.rd_run (v := ?_) (by rfl) ?_ ?_; rotate_left; (focus (intro w' hS; have c := hS.cell 1 rfl 0; go_simp; with_reducible rfl)); simp only [Act.put, List.setIfInBounds_toArray, List.set_cons_zero, List.set_cons_succ])
      (refine Pt.rd_run (v := ?_) (by rfl) ?_ ?_; rotate_left; (focus (intro w' hS; have c := hS.cell 0 rfl 0; go_simp; with_reducible rfl)); simp only [Act.put, List.setIfInBounds_toArray, List.set_cons_zero, List.set_cons_succ])
      generalize hxx : World.drew _ = wy at *
      clear hxx H H1 H2 hG
      refine Pt.run_go ?_
      go_wp2_with fail
      refine (HN.out _).mono ?_
      rintro e w' ⟨rfl, rfl⟩
      go_wp2_with fail
      refine Pt.same H3 ?_
      refine Pt.run_go ?_
      go_wp2_with fail
      refine (HS.out _).mono ?_
      rintro e w' ⟨rfl, rfl⟩
      go_wp2_with fail
      refine Pt.same H3 ?_
      have H4 := H3.new [.int .i64 N, .int .i64 S] 3
      refine Pt.run_go ?_
      go_wp2_with fail
      refine Pt.same H4.d0 ?_
      have c0 := H4.cell 0 rfl 0
      have c1 := H4.cell 0 rfl 1
      refine Pt.run_go ?_
      go_wp2_with fail
      refine (HOR.out _ _ c0 c1).mono ?_
      rintro e w' ⟨rfl, rfl⟩
      go_wp2_with fail
      refine Pt.same H4.d0 ?_
      (refine Pt.pr_run (v := ?_) (by rfl) ?_ ?_; rotate_left; (focus (intro w'; go_simp; with_reducible rfl)); simp only [Act.put, List.setIfInBounds_toArray, List.set_cons_zero, List.set_cons_succ])
      refine Pt.run_fin ?_
      go_wp2
      go_ret
      exact ⟨rfl, H4.d0.d0.d0⟩
  · have e : Tu.pcmp ⟨s, n, b⟩ ⟨t, m, d⟩ = if b then 1 else -1 := Tu.pcmp_ne hbd
    rw [e]
    clear e
    cases b <;> cases d
    · exact absurd rfl hbd
    · clear hbd
      go_enter Tryd.func32, Tryd.ntmps32
      go_wp2
      go_ret
      exact ⟨rfl, H2.d0.d0⟩
    · clear hbd
      go_enter Tryd.func32, Tryd.ntmps32
      go_wp2
      go_ret
      exact ⟨rfl, H2.d0.d0⟩
    · exact absurd rfl hbd
end
end Go.Proofs.YtbmiifglpjeegaaDoor
