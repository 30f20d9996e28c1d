/- due.Check. -/
import Derived.Test.YtgnlkcdpklgikaaVe
set_option linter.unusedVariables false
set_option linter.unusedSimpArgs false
namespace Go.Proofs.Ytgnlkcdpklgikaa
open Go.RowKit Wd Go.Sort
open Du (Due)
/-- 0 where the list may be, 1 (ErrArg) else. -/
def RetCk (w0 : World) (M : Mem) (L : List Ent) (P : Prop) (e : Ending) (w' : World) : Prop := ((P ∧ e = .returned (.int .i64 0)) ∨ (¬ P ∧ e = .returned (.int .i64 1))) ∧ St w0 w' M L
section
variable {w0 w : World} {M : Mem} {L : List Ent}
set_option maxRecDepth 100000 in
set_option maxHeartbeats 2000000 in
theorem check_any (H : St w0 w M L) {A : Option Addr} {c n : Nat} {l : List Due} (hn : n = l.length) (hn2 : n ≤ 1000000) (hl : SrA w0 M L A (dcs l)) :
    Calls Try.prog 10 #[.slice A n c] w (RetCk w0 M L (Du.May l)) := by
  have HN := Lib.hid hn
  have hfull := fun w' (H : St w0 w' M L) => full_any (c := c) H hn hn2 hl
  have HFULL := Lib.hid hfull
  clear hn hfull
  go_enter Try.func10, Try.ntmps10
  go_wp2
  go_loopw [7] (fun i wr => ∃ k : Nat, k ≤ n ∧ i = .int .i64 k ∧ Du.good l k ∧ St w0 wr M L) (fun i _ => n - (intOf i).toNat)
  case atStart => exact ⟨0, by omega, rfl, Du.good_zero l, H⟩
  case round =>
    obtain ⟨k, hk, rfl, hs, H1⟩ := hrel
    clear H
    have HS := Lib.hid hs
    clear hs
    by_cases hlt : k < n
    · have hk1 : k < l.length := by have := HN.out; omega
      obtain ⟨b, o, rfl, hrg⟩ := RA.at3 (hl.now H1) k hk1
      have H2 := H1.new (dc l[k]) 40
      have r1 : (k : Int) < (n : Int) := by omega
      have HLT := Lib.hid hlt
      have hmay := fun w' L' (H : St w0 w' M L') => may_any H l[k]
      have hbad1 := fun h => Du.good.bad1 (l := l) hk1 h
      by_cases h0 : k = 0
      · subst h0
        have hgood := fun h => Du.good_succ (l := l) HS.out hk1 h (by omega)
        obtain ⟨y, hy⟩ : ∃ y, y = l[0] := ⟨_, rfl⟩
        rw [← hy] at hrg H2 hmay hbad1 hgood
        have HRG := Lib.hid hrg
        unfold dc at H2
        unfold dv at hmay
        obtain ⟨m, hm⟩ : ∃ m, m = decide (Du.may y) := ⟨_, rfl⟩
        rw [← hm] at hmay
        have HMAY := Lib.hid hmay
        have hmt : m = true → Du.good l 1 := fun h => hgood (of_decide_eq_true (hm.symm.trans h))
        have hmf : m = false → ¬ Du.May l := fun h h2 => hbad1 (of_decide_eq_false (hm.symm.trans h)) h2.1
        have HMT := Lib.hid hmt
        have HMF := Lib.hid hmf
        clear hy hrg hk1 hmay hbad1 hgood hm hmt hmf hlt
        go_wp2_with (refine wpList_load_mid (by rfl) 40 (.tmp 10) (by rfl) b (o + 0 * 3) (by rfl) [.int .u64 (y.t : Int), .int .u64 (y.s : Int), .int .i64 y.a] _ HRG.out Try.underlying40 rfl (by exact Try.sizeDue) ?_)
        refine Pt.wp_plan (fun w' => St w0 w' M (eb wr.heap.size 40 [.int .u64 (y.t : Int), .int .u64 (y.s : Int), .int .i64 y.a] :: L)) (Pt.rds [0] (.go 1 (Pt.prs [2, 3, 4, 5, 6, 7, 8, 9, 10] (Pt.rds [11, 12] (.go 13 (Pt.prs [14, 15, 16] .fin)))))) [] Try.mixed (by kernel_rfl) (fun _ _ d _ _ h => by cases d <;> exact h) H2.drew ?_
        have H3 := H2.drew
        simp only [Pt.toL, Pt.rds, Pt.prs, Pt.at_, List.drop_succ_cons, List.drop_zero]
        (refine Pt.rd_load (by rfl) 40 (.tmp 4) (by rfl) wr.heap.size 0 (by rfl) [.int .u64 (y.t : Int), .int .u64 (y.s : Int), .int .i64 y.a] _ (fun w' h => (h.blk 0 rfl).range 0 3 _ rfl) Try.underlying40 rfl (by exact Try.sizeDue) ?_; simp only [Act.put, List.setIfInBounds_toArray, List.set_cons_zero, List.set_cons_succ])
        refine Pt.run_go ?_
        go_wp2_with fail
        refine (HMAY.out _ _ H3).mono ?_
        rintro e w1 ⟨rfl, H4⟩
        go_wp2_with fail
        refine Pt.same H4 ?_
        clear H1 H2 H3
        cases m with
        | false =>
          have hno := HMF.out rfl
          have HNO := Lib.hid hno
          clear hno
          iterate 2 (refine Pt.pr_run (v := ?_) (by rfl) ?_ ?_; rotate_left; (focus (intro w'; go_simp; with_reducible rfl)); simp only [Act.put, List.setIfInBounds_toArray, List.set_cons_zero, List.set_cons_succ])
          iterate 7 (refine Pt.pr_skip (by rfl) ?_; simp only [Act.put, List.setIfInBounds_toArray, List.set_cons_zero, List.set_cons_succ])
          iterate 2 (refine Pt.rd_skip (by rfl) ?_; simp only [Act.put, List.setIfInBounds_toArray, List.set_cons_zero, List.set_cons_succ])
          refine Pt.run_go ?_
          go_wp2_with fail
          refine Pt.same H4 ?_
          iterate 2 (refine Pt.pr_skip (by rfl) ?_; simp only [Act.put, List.setIfInBounds_toArray, List.set_cons_zero, List.set_cons_succ])
          (refine Pt.pr_run (v := ?_) (by rfl) ?_ ?_; rotate_left; (focus (intro w'; go_simp; with_reducible rfl)); simp only [Act.put, List.setIfInBounds_toArray, List.set_cons_zero, List.set_cons_succ])
          refine Pt.run_fin ?_
          go_wp2
          go_ret
          exact ⟨.inr ⟨HNO.out, rfl⟩, H4.d0⟩
        | true =>
          have hg := HMT.out rfl
          have HG := Lib.hid hg
          clear hg
          iterate 5 (refine Pt.pr_run (v := ?_) (by rfl) ?_ ?_; rotate_left; (focus (intro w'; go_simp; with_reducible rfl)); simp only [Act.put, List.setIfInBounds_toArray, List.set_cons_zero, List.set_cons_succ])
          iterate 4 (refine Pt.pr_skip (by rfl) ?_; simp only [Act.put, List.setIfInBounds_toArray, List.set_cons_zero, List.set_cons_succ])
          iterate 2 (refine Pt.rd_skip (by rfl) ?_; simp only [Act.put, List.setIfInBounds_toArray, List.set_cons_zero, List.set_cons_succ])
          refine Pt.run_go ?_
          go_wp2_with fail
          refine Pt.same H4 ?_
          (refine Pt.pr_skip (by rfl) ?_; simp only [Act.put, List.setIfInBounds_toArray, List.set_cons_zero, List.set_cons_succ])
          iterate 2 (refine Pt.pr_run (v := ?_) (by rfl) ?_ ?_; rotate_left; (focus (intro w'; go_simp; with_reducible rfl)); simp only [Act.put, List.setIfInBounds_toArray, List.set_cons_zero, List.set_cons_succ])
          refine Pt.run_fin ?_
          go_wp2
          exact ⟨⟨1, by have := HLT.out; omega, rfl, HG.out, H4.d0⟩, by have := HLT.out; simp [intOf]; omega⟩
      · obtain ⟨i, hi⟩ : ∃ i, i = k - 1 := ⟨_, rfl⟩
        have hi1 : i < l.length := by omega
        have hs2 := hl.at3 i hi1
        have e1 : (k : Int) - 1 = (i : Int) := by omega
        have e2 : (0 : Int) < (k : Int) := by omega
        have hk0 : 0 < k := by omega
        have wi : IntKind.i64.wrap (i : Int) = (i : Int) := by rw [IntKind.wrap_i64]; omega
        have ilt : (i : Int) < (n : Int) := by omega
        have hgood : Du.may l[k] → Du.ahead (l[i]'hi1) l[k] → Du.good l (k + 1) := fun h h2 => Du.good_succ (l := l) HS.out hk1 h (fun _ => by subst hi; exact h2)
        have hbad2 : ¬ Du.ahead (l[i]'hi1) l[k] → ¬ Du.good l l.length := fun h => Du.good.bad2 hk1 (by omega) (by subst hi; exact h)
        obtain ⟨y, hy⟩ : ∃ y, y = l[k] := ⟨_, rfl⟩
        obtain ⟨z, hz⟩ : ∃ z, z = l[i] := ⟨_, rfl⟩
        rw [← hy] at hrg H2 hmay hbad1 hgood hbad2
        rw [← hz] at hs2 hgood hbad2
        have hord := fun w' => order_any z y w'
        have hneg := ord_neg z y
        obtain ⟨O, hO⟩ : ∃ O, O = ord z y := ⟨_, rfl⟩
        rw [← hO] at hord hneg
        have HRG := Lib.hid hrg
        have HS2 := Lib.hid hs2
        unfold dc at H2
        unfold dv at hmay hord
        obtain ⟨m, hm⟩ : ∃ m, m = decide (Du.may y) := ⟨_, rfl⟩
        rw [← hm] at hmay
        have HMAY := Lib.hid hmay
        have HORD := Lib.hid hord
        have HNEG := Lib.hid hneg
        have hmt : m = true → Du.ahead z y → Du.good l (k + 1) := fun h => hgood (of_decide_eq_true (hm.symm.trans h))
        have hmf : m = false → ¬ Du.May l := fun h h2 => hbad1 (of_decide_eq_false (hm.symm.trans h)) h2.1
        have hmb : ¬ Du.ahead z y → ¬ Du.May l := fun h h2 => hbad2 h h2.1
        have HMT := Lib.hid hmt
        have HMF := Lib.hid hmf
        have HMB := Lib.hid hmb
        clear hy hz hrg hk1 hmay hbad1 hgood hm hmt hmf hlt hO hord hneg hmb hbad2 hi1 hs2 hi h0
        go_wp2_with (refine wpList_load_mid (by rfl) 40 (.tmp 10) (by rfl) b (o + k * 3) (by rfl) [.int .u64 (y.t : Int), .int .u64 (y.s : Int), .int .i64 y.a] _ HRG.out Try.underlying40 rfl (by exact Try.sizeDue) ?_)
        refine Pt.wp_plan (fun w' => St w0 w' M (eb wr.heap.size 40 [.int .u64 (y.t : Int), .int .u64 (y.s : Int), .int .i64 y.a] :: L)) (Pt.rds [0] (.go 1 (Pt.prs [2, 3, 4, 5, 6, 7, 8, 9, 10] (Pt.rds [11, 12] (.go 13 (Pt.prs [14, 15, 16] .fin)))))) [] Try.mixed (by kernel_rfl) (fun _ _ d _ _ h => by cases d <;> exact h) H2.drew ?_
        have H3 := H2.drew
        simp only [Pt.toL, Pt.rds, Pt.prs, Pt.at_, List.drop_succ_cons, List.drop_zero]
        (refine Pt.rd_load (by rfl) 40 (.tmp 4) (by rfl) wr.heap.size 0 (by rfl) [.int .u64 (y.t : Int), .int .u64 (y.s : Int), .int .i64 y.a] _ (fun w' h => (h.blk 0 rfl).range 0 3 _ rfl) Try.underlying40 rfl (by exact Try.sizeDue) ?_; simp only [Act.put, List.setIfInBounds_toArray, List.set_cons_zero, List.set_cons_succ])
        refine Pt.run_go ?_
        go_wp2_with fail
        refine (HMAY.out _ _ H3).mono ?_
        rintro e w1 ⟨rfl, H4⟩
        go_wp2_with fail
        refine Pt.same H4 ?_
        clear H1 H2 H3
        cases m with
        | false =>
          have hno := HMF.out rfl
          have HNO := Lib.hid hno
          clear hno
          iterate 2 (refine Pt.pr_run (v := ?_) (by rfl) ?_ ?_; rotate_left; (focus (intro w'; go_simp; with_reducible rfl)); simp only [Act.put, List.setIfInBounds_toArray, List.set_cons_zero, List.set_cons_succ])
          iterate 7 (refine Pt.pr_skip (by rfl) ?_; simp only [Act.put, List.setIfInBounds_toArray, List.set_cons_zero, List.set_cons_succ])
          iterate 2 (refine Pt.rd_skip (by rfl) ?_; simp only [Act.put, List.setIfInBounds_toArray, List.set_cons_zero, List.set_cons_succ])
          refine Pt.run_go ?_
          go_wp2_with fail
          refine Pt.same H4 ?_
          iterate 2 (refine Pt.pr_skip (by rfl) ?_; simp only [Act.put, List.setIfInBounds_toArray, List.set_cons_zero, List.set_cons_succ])
          (refine Pt.pr_run (v := ?_) (by rfl) ?_ ?_; rotate_left; (focus (intro w'; go_simp; with_reducible rfl)); simp only [Act.put, List.setIfInBounds_toArray, List.set_cons_zero, List.set_cons_succ])
          refine Pt.run_fin ?_
          go_wp2
          go_ret
          exact ⟨.inr ⟨HNO.out, rfl⟩, H4.d0⟩
        | true =>
          iterate 9 (refine Pt.pr_run (v := ?_) (by rfl) ?_ ?_; rotate_left; (focus (intro w'; go_simp; with_reducible rfl)); simp only [Act.put, List.setIfInBounds_toArray, List.set_cons_zero, List.set_cons_succ])
          (refine Pt.rd_load (by rfl) 40 (.tmp 22) (by rfl) b (o + i * 3) (by rfl) [.int .u64 (z.t : Int), .int .u64 (z.s : Int), .int .i64 z.a] _ (fun w' h => HS2.out w' h.d0) Try.underlying40 rfl (by exact Try.sizeDue) ?_; simp only [Act.put, List.setIfInBounds_toArray, List.set_cons_zero, List.set_cons_succ])
          (refine Pt.rd_load (by rfl) 40 (.tmp 4) (by rfl) wr.heap.size 0 (by rfl) [.int .u64 (y.t : Int), .int .u64 (y.s : Int), .int .i64 y.a] _ (fun w' h => (h.blk 0 rfl).range 0 3 _ rfl) Try.underlying40 rfl (by exact Try.sizeDue) ?_; simp only [Act.put, List.setIfInBounds_toArray, List.set_cons_zero, List.set_cons_succ])
          refine Pt.run_go ?_
          go_wp2_with fail
          refine (HORD.out _).mono ?_
          rintro e w2 ⟨rfl, q, os, rfl⟩
          have H5 := St.grow H4 q os
          generalize hxx : grow _ os = w2 at *
          clear hxx H4
          go_wp2_with fail
          refine Pt.same H5 ?_
          by_cases hO : O < 0
          · have q1 : ¬ (0 : Int) ≤ O := by omega
            have hg := HMT.out (by trivial) (HNEG.out.1 hO)
            have HG := Lib.hid hg
            clear hg hO
            iterate 3 (refine Pt.pr_run (v := ?_) (by rfl) ?_ ?_; rotate_left; (focus (intro w'; go_simp; with_reducible rfl)); simp only [Act.put, List.setIfInBounds_toArray, List.set_cons_zero, List.set_cons_succ])
            refine Pt.run_fin ?_
            go_wp2
            exact ⟨⟨k + 1, by have := HLT.out; omega, by go_num, HG.out, H5.d0⟩, by have := HLT.out; simp [intOf]; omega⟩
          · have q1 : (0 : Int) ≤ O := by omega
            have hno := HMB.out fun h => hO (HNEG.out.2 h)
            have HNO := Lib.hid hno
            clear hno hO
            iterate 3 (refine Pt.pr_run (v := ?_) (by rfl) ?_ ?_; rotate_left; (focus (intro w'; go_simp; with_reducible rfl)); simp only [Act.put, List.setIfInBounds_toArray, List.set_cons_zero, List.set_cons_succ])
            refine Pt.run_fin ?_
            go_wp2
            go_ret
            exact ⟨.inr ⟨HNO.out, rfl⟩, H5.d0⟩
    · obtain rfl : k = n := by omega
      have hs := HS.out
      have hm : ∀ b, (b = true ↔ Du.Full l) → (b = true → ¬ Du.May l) ∧ (b = false → Du.May l) := fun b h => by
        rw [HN.out] at hs
        refine ⟨fun h2 h3 => (h.1 h2) ⟨h3.2.1, h3.2.2⟩, fun h2 => ?_⟩
        have h3 : ¬ Du.Full l := fun h4 => by rw [h.2 h4] at h2; cases h2
        have h4 := Classical.not_not.1 h3
        exact ⟨hs, h4.1, h4.2⟩
      have HM := Lib.hid hm
      clear hlt hs hm
      go_wp2_with fail
      refine (HFULL.out _ H1).mono ?_
      rintro e w1 ⟨b, rfl, hb, H2⟩
      obtain ⟨h1, h2⟩ := HM.out b hb
      clear hb
      cases b with
      | true =>
        have h3 := h1 rfl
        have H3 := Lib.hid h3
        clear h1 h2 h3
        go_wp2
        go_ret
        exact ⟨.inr ⟨H3.out, rfl⟩, H2⟩
      | false =>
        have h3 := h2 rfl
        have H3 := Lib.hid h3
        clear h1 h2 h3
        go_wp2
        go_ret
        exact ⟨.inl ⟨H3.out, rfl⟩, H2⟩
end
end Go.Proofs.Ytgnlkcdpklgikaa
