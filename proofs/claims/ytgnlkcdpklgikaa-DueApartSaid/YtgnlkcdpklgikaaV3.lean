/- slices.BinarySearchFunc at dues. -/
import Derived.Test.YtgnlkcdpklgikaaV2
import Derived.Laws.Entries
set_option linter.unusedVariables false
set_option linter.unusedSimpArgs false
namespace Go.Proofs.Ytgnlkcdpklgikaa
open Go.RowKit Wd Go.Sort
open Du (Due)
def RetBs (w0 : World) (M : Mem) (L : List Ent) (l : List Due) (y : Due) (e : Ending) (w' : World) : Prop :=
  ∃ (i : Nat) (f : Bool), e = .returned (.tuple #[.int .i64 (i : Int), .bool f]) ∧ i ≤ l.length ∧ (∀ x ∈ l.take i, Du.ahead x y) ∧ (∀ x ∈ l.drop i, ¬ Du.ahead x y) ∧ (f = true ↔ ∃ h : i < l.length, ord l[i] y = 0) ∧ St w0 w' M L
section
variable {w0 w : World} {M : Mem} {L : List Ent}
set_option maxRecDepth 100000 in
set_option maxHeartbeats 1000000 in
theorem bs_any (eg : ∀ args w, (callFunc 29 args).run Try.prog w = .ok (.enter 29 args) w) (H : St w0 w M L) {A : Option Addr} {c n : Nat} {l : List Due} (hn : n = l.length) (hn2 : n ≤ 1000000) (hl : SrA w0 M L A (dcs l)) (hs : l.Pairwise Du.ahead) (y : Due) :
    Calls Try.prog 36 #[.slice A n c, dv y, .func (.func 29) #[] #[]] w (RetBs w0 M L l y) := by
  have HN := Lib.hid hn
  have HS := Lib.hid hs
  have H1 := H.new (dc y) 40
  unfold dc at H1
  unfold dv
  clear hn hs H
  go_enter Try.func36, Try.ntmps36
  go_wp2
  go_loopw [9, 10] (fun i j wr => ∃ a b : Nat, a ≤ b ∧ b ≤ n ∧ i = .int .i64 a ∧ j = .int .i64 b ∧ (∀ x ∈ l.take a, Du.ahead x y) ∧ (∀ x ∈ l.drop b, ¬ Du.ahead x y) ∧ St w0 wr M (eb w.heap.size 40 [.int .u64 (y.t : Int), .int .u64 (y.s : Int), .int .i64 y.a] :: L)) (fun i j _ => (intOf j).toNat - (intOf i).toNat)
  case atStart => exact ⟨0, n, by omega, by omega, rfl, rfl, by simp, by simp [HN.out], H1⟩
  case round =>
    obtain ⟨a, b, hab, hbn, rfl, rfl, ha, hb, H2⟩ := hrel
    clear H1
    have HAA := Lib.hid ha
    have HBB := Lib.hid hb
    clear ha hb
    by_cases hlt : a < b
    · have r1 : (a : Int) < (b : Int) := by omega
      obtain ⟨h, hh⟩ : ∃ h, h = (a + b) / 2 := ⟨_, rfl⟩
      have wab : IntKind.i64.wrap ((a : Int) + (b : Int)) = (a : Int) + (b : Int) := by rw [IntKind.wrap_i64]; omega
      have wabu : IntKind.u64.wrap ((a : Int) + (b : Int)) = (a : Int) + (b : Int) := by rw [IntKind.wrap_u64]; omega
      have ehh : ((a : Int) + (b : Int)) / 2 = (h : Int) := by omega
      have wh : IntKind.i64.wrap (h : Int) = (h : Int) := by rw [IntKind.wrap_i64]; omega
      have HH := Lib.hid hh
      clear hh
      go_upto_region 5 with fail
      have hh1 : h < l.length := by have := HN.out; have := HH.out; omega
      obtain ⟨b0, o0, rfl, -⟩ := RA.at3 (hl.now H2.d0) h hh1
      have hrg := hl.at3 h hh1
      have hlow : Du.ahead l[h] y → ∀ x ∈ l.take (h + 1), Du.ahead x y := fun hx z hz => by
        obtain ⟨j, hj, rfl⟩ := List.getElem_of_mem hz
        rw [List.length_take] at hj
        rw [List.getElem_take]
        rcases Nat.lt_or_ge j h with h3 | h3
        · exact (List.pairwise_iff_getElem.1 HS.out j h (by omega) hh1 h3).trans hx
        · obtain rfl : j = h := by omega
          exact hx
      have hhigh : ¬ Du.ahead l[h] y → ∀ x ∈ l.drop h, ¬ Du.ahead x y := fun hx z hz hzy => by
        obtain ⟨j, hj, rfl⟩ := List.getElem_of_mem hz
        rw [List.length_drop] at hj
        rw [List.getElem_drop] at hzy
        cases j with
        | zero => exact hx (by simpa using hzy)
        | succ j => exact hx ((List.pairwise_iff_getElem.1 HS.out h (h + (j + 1)) hh1 (by omega) (by omega)).trans hzy)
      have hneg := ord_neg l[h] y
      have hord := fun W => order_any l[h] y W
      obtain ⟨O, hO⟩ : ∃ O, O = ord l[h] y := ⟨_, rfl⟩
      rw [← hO] at hneg hord
      obtain ⟨x, hx⟩ : ∃ x, x = l[h] := ⟨_, rfl⟩
      rw [← hx] at hrg hlow hhigh hneg hord
      unfold dv at hord
      have HRG := Lib.hid hrg
      have HLOW := Lib.hid hlow
      have HHIGH := Lib.hid hhigh
      have HNEG := Lib.hid hneg
      have HORD := Lib.hid hord
      have HAB := Lib.hid hlt
      have r2 : (h : Int) < (n : Int) := by have := HH.out; omega
      clear hrg hlow hhigh hneg hord hO hx hh1 hlt
      refine Pt.wp_plan (fun w' => St w0 w' M (eb w.heap.size 40 [.int .u64 (y.t : Int), .int .u64 (y.s : Int), .int .i64 y.a] :: L)) (Pt.prs [0, 1, 2, 3] (Pt.rds [4, 5] (.go 6 (Pt.prs [7] .fin)))) [] Try.mixed (by kernel_rfl) (fun _ _ d _ _ h => by cases d <;> exact h) H2.drew ?_
      have H3 := H2.drew
      simp only [Pt.toL, Pt.rds, Pt.prs, Pt.at_, List.drop_succ_cons, List.drop_zero]
      iterate 4 (refine Pt.pr_run (v := ?_) (by rfl) ?_ ?_; rotate_left; (focus (intro w'; go_simp; with_reducible rfl)); simp only [Act.put, List.setIfInBounds_toArray, List.set_cons_zero, List.set_cons_succ])
      (refine Pt.rd_load (by rfl) 40 (.tmp 27) (by rfl) b0 (o0 + h * 3) (by rfl) [.int .u64 (x.t : Int), .int .u64 (x.s : Int), .int .i64 x.a] _ (fun w' h => HRG.out w' h.d0) Try.underlying40 rfl (by exact Try.sizeDue) ?_; simp only [Act.put, List.setIfInBounds_toArray, List.set_cons_zero, List.set_cons_succ])
      (refine Pt.rd_load (by rfl) 40 (.tmp 4) (by rfl) w.heap.size 0 (by rfl) [.int .u64 (y.t : Int), .int .u64 (y.s : Int), .int .i64 y.a] _ (fun w' h => (h.blk 0 rfl).range 0 3 _ rfl) Try.underlying40 rfl (by exact Try.sizeDue) ?_; simp only [Act.put, List.setIfInBounds_toArray, List.set_cons_zero, List.set_cons_succ])
      refine Pt.run_go ?_
      go_wp2_with fail
      refine (HORD.out _).mono ?_
      rintro e w2 ⟨rfl, q, os, rfl⟩
      have H4 := St.grow H3 q os
      generalize hxx : grow _ os = w2 at *
      clear hxx H2 H3
      go_wp2_with fail
      refine Pt.same H4 ?_
      by_cases hO : O < 0
      · have hg := HLOW.out (HNEG.out.1 hO)
        have HG := Lib.hid hg
        clear hg
        (refine Pt.pr_run (v := ?_) (by rfl) ?_ ?_; rotate_left; (focus (intro w'; go_simp; with_reducible rfl)); simp only [Act.put, List.setIfInBounds_toArray, List.set_cons_zero, List.set_cons_succ])
        refine Pt.run_fin ?_
        go_wp2
        exact ⟨⟨h + 1, b, by have := HH.out; have := HAB.out; omega, hbn, by go_num, rfl, HG.out, HBB.out, H4⟩, by have := HH.out; have := HAB.out; simp [intOf]; omega⟩
      · have hg := HHIGH.out fun hc => hO (HNEG.out.2 hc)
        have HG := Lib.hid hg
        clear hg
        (refine Pt.pr_run (v := ?_) (by rfl) ?_ ?_; rotate_left; (focus (intro w'; go_simp; with_reducible rfl)); simp only [Act.put, List.setIfInBounds_toArray, List.set_cons_zero, List.set_cons_succ])
        refine Pt.run_fin ?_
        go_wp2
        exact ⟨⟨a, h, by have := HH.out; have := HAB.out; omega, by have := HH.out; have := HAB.out; omega, rfl, rfl, HAA.out, HG.out, H4⟩, by have := HH.out; have := HAB.out; simp [intOf]; omega⟩
    · obtain rfl : a = b := by omega
      clear hlt
      have wa : IntKind.i64.wrap (a : Int) = (a : Int) := by rw [IntKind.wrap_i64]; omega
      have hal : a ≤ l.length := by have := HN.out; omega
      have HAL := Lib.hid hal
      by_cases han : a < n
      · have r2 : (a : Int) < (n : Int) := by omega
        have ha1 : a < l.length := by have := HN.out; omega
        obtain ⟨b0, o0, rfl, -⟩ := RA.at3 (hl.now H2.d0) a ha1
        have hrg := hl.at3 a ha1
        have hord := fun W => order_any l[a] y W
        obtain ⟨O, hO⟩ : ∃ O, O = ord l[a] y := ⟨_, rfl⟩
        have hf : (O == 0) = true ↔ ∃ h : a < l.length, ord l[a] y = 0 := by
          rw [hO, beq_iff_eq]
          exact ⟨fun h => ⟨ha1, h⟩, fun ⟨_, h⟩ => h⟩
        have HF := Lib.hid hf
        rw [← hO] at hord
        obtain ⟨x, hx⟩ : ∃ x, x = l[a] := ⟨_, rfl⟩
        rw [← hx] at hrg hord
        unfold dv at hord
        have HRG := Lib.hid hrg
        have HORD := Lib.hid hord
        clear hrg hord hO hx ha1 han hf hal
        go_upto_region 8 with fail
        refine Pt.wp_plan (fun w' => St w0 w' M (eb w.heap.size 40 [.int .u64 (y.t : Int), .int .u64 (y.s : Int), .int .i64 y.a] :: L)) (Pt.prs [0, 1, 2, 3, 4, 5, 6, 7, 8] (Pt.rds [9, 10] (.go 11 (Pt.prs [12, 13, 14, 15] .fin)))) [] Try.mixed (by kernel_rfl) (fun _ _ d _ _ h => by cases d <;> exact h) H2.drew ?_
        have H3 := H2.drew
        simp only [Pt.toL, Pt.rds, Pt.prs, Pt.at_, List.drop_succ_cons, List.drop_zero]
        iterate 9 (refine Pt.pr_run (v := ?_) (by rfl) ?_ ?_; rotate_left; (focus (intro w'; go_simp; with_reducible rfl)); simp only [Act.put, List.setIfInBounds_toArray, List.set_cons_zero, List.set_cons_succ])
        (refine Pt.rd_load (by rfl) 40 (.tmp 43) (by rfl) b0 (o0 + a * 3) (by rfl) [.int .u64 (x.t : Int), .int .u64 (x.s : Int), .int .i64 x.a] _ (fun w' h => HRG.out w' h.d0) Try.underlying40 rfl (by exact Try.sizeDue) ?_; simp only [Act.put, List.setIfInBounds_toArray, List.set_cons_zero, List.set_cons_succ])
        (refine Pt.rd_load (by rfl) 40 (.tmp 4) (by rfl) w.heap.size 0 (by rfl) [.int .u64 (y.t : Int), .int .u64 (y.s : Int), .int .i64 y.a] _ (fun w' h => (h.blk 0 rfl).range 0 3 _ rfl) Try.underlying40 rfl (by exact Try.sizeDue) ?_; simp only [Act.put, List.setIfInBounds_toArray, List.set_cons_zero, List.set_cons_succ])
        refine Pt.run_go ?_
        go_wp2_with fail
        refine (HORD.out _).mono ?_
        rintro e w2 ⟨rfl, q, os, rfl⟩
        have H4 := St.grow H3 q os
        generalize hxx : grow _ os = w2 at *
        clear hxx H2 H3
        go_wp2_with fail
        refine Pt.same H4 ?_
        iterate 4 (refine Pt.pr_run (v := ?_) (by rfl) ?_ ?_; rotate_left; (focus (intro w'; go_simp; with_reducible rfl)); simp only [Act.put, List.setIfInBounds_toArray, List.set_cons_zero, List.set_cons_succ])
        refine Pt.run_fin ?_
        go_wp2
        go_ret2
        exact ⟨a, _, rfl, HAL.out, HAA.out, HBB.out, HF.out, H4.d0⟩
      · have r2 : ¬ (a : Int) < (n : Int) := by omega
        have hf : false = true ↔ ∃ h : a < l.length, ord l[a] y = 0 := ⟨(fun h => by cases h), fun ⟨h, _⟩ => by have := HN.out; omega⟩
        have HF := Lib.hid hf
        clear han hf hal
        go_upto_region 8 with fail
        refine Pt.wp_plan (fun w' => St w0 w' M (eb w.heap.size 40 [.int .u64 (y.t : Int), .int .u64 (y.s : Int), .int .i64 y.a] :: L)) (Pt.prs [0, 1, 2, 3, 4, 5, 6, 7, 8] (Pt.rds [9, 10] (.go 11 (Pt.prs [12, 13, 14, 15] .fin)))) [] Try.mixed (by kernel_rfl) (fun _ _ d _ _ h => by cases d <;> exact h) H2.drew ?_
        have H3 := H2.drew
        simp only [Pt.toL, Pt.rds, Pt.prs, Pt.at_, List.drop_succ_cons, List.drop_zero]
        iterate 5 (refine Pt.pr_run (v := ?_) (by rfl) ?_ ?_; rotate_left; (focus (intro w'; go_simp; with_reducible rfl)); simp only [Act.put, List.setIfInBounds_toArray, List.set_cons_zero, List.set_cons_succ])
        iterate 4 (refine Pt.pr_skip (by rfl) ?_; simp only [Act.put, List.setIfInBounds_toArray, List.set_cons_zero, List.set_cons_succ])
        iterate 2 (refine Pt.rd_skip (by rfl) ?_; simp only [Act.put, List.setIfInBounds_toArray, List.set_cons_zero, List.set_cons_succ])
        refine Pt.run_go ?_
        go_wp2_with fail
        refine Pt.same H3 ?_
        (refine Pt.pr_skip (by rfl) ?_; simp only [Act.put, List.setIfInBounds_toArray, List.set_cons_zero, List.set_cons_succ])
        iterate 3 (refine Pt.pr_run (v := ?_) (by rfl) ?_ ?_; rotate_left; (focus (intro w'; go_simp; with_reducible rfl)); simp only [Act.put, List.setIfInBounds_toArray, List.set_cons_zero, List.set_cons_succ])
        refine Pt.run_fin ?_
        go_wp2
        go_ret2
        exact ⟨a, false, rfl, HAL.out, HAA.out, HBB.out, HF.out, H3.d0⟩
end
end Go.Proofs.Ytgnlkcdpklgikaa
