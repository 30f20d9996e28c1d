/- The reference's May. -/
import Derived.Test.YtgnlkcdpklgikaaVf
set_option linter.unusedVariables false
set_option linter.unusedSimpArgs false
namespace Go.Proofs.Ytgnlkcdpklgikaa
open Go.RowKit Wd Go.Sort
open Du (Due)
section
variable {w0 w : World} {M : Mem} {L : List Ent}
set_option maxRecDepth 100000 in
set_option maxHeartbeats 2000000 in
theorem rmay_any (H : St w0 w M L) {A : Option Addr} {c n : Nat} {l : List Due} (hn : n = l.length) (hn2 : n ≤ 1000000) (hl : SrA w0 M L A (dcs l)) :
    Calls Try.prog 11 #[.slice A n c] w (RetB w0 M L (Du.May l)) := by
  have HN := Lib.hid hn
  clear hn
  go_enter Try.func11, Try.ntmps11
  go_wp2
  go_loopw [3, 4] (fun x i wr => ∃ k R : Nat, k ≤ n ∧ i = .int .i64 k ∧ x = .int .i64 R ∧ R = Du.runs l k ∧ Du.slim l k ∧ Du.good l k ∧ St w0 wr M L) (fun _ i _ => n - (intOf i).toNat)
  case atStart => exact ⟨0, 0, by omega, rfl, rfl, rfl, Du.slim_zero l, Du.good_zero l, H⟩
  case round =>
    obtain ⟨k, R, hk, rfl, rfl, hR, hsl, hgd, H1⟩ := hrel
    clear H
    have hR64 : R ≤ 64 := by rw [hR]; exact hsl k (Nat.le_refl _)
    have HR := Lib.hid hR
    have HSL := Lib.hid hsl
    have HGD := Lib.hid hgd
    clear hR hsl hgd
    by_cases hlt : k < n
    · have hk1 : k < l.length := by have := HN.out; omega
      obtain ⟨b, o, rfl, -⟩ := RA.at3 (hl.now H1) k hk1
      have hrg := hl.at3 k hk1
      have r1 : (k : Int) < (n : Int) := by omega
      have wk : IntKind.i64.wrap (k : Int) = (k : Int) := by rw [IntKind.wrap_i64]; omega
      have HLT := Lib.hid hlt
      have hmay := fun w' (H : St w0 w' M L) => one_any H l[k]
      have hbad1 := fun h => Du.good.bad1 (l := l) hk1 h
      have hnew : ∀ R', R' = Du.runs l (k + 1) → (R' ≤ 64 → Du.slim l (k + 1)) ∧ (¬ R' ≤ 64 → ¬ Du.May l) := fun R' h => ⟨fun h1 => Du.slim_succ HSL.out (by omega), fun h1 h2 => h1 (by have := h2.2.1 (k + 1) (by omega); omega)⟩
      have HNEW := Lib.hid hnew
      clear hnew
      by_cases h0 : k = 0
      · subst h0
        have hr := Du.runs_new (l := l) hk1 (.inl rfl)
        have hgood := fun h => Du.good_succ (l := l) HGD.out hk1 h (by omega)
        obtain ⟨y, hy⟩ : ∃ y, y = l[0] := ⟨_, rfl⟩
        rw [← hy] at hrg hmay hbad1 hgood
        have HRG := Lib.hid hrg
        have HRR := Lib.hid hr
        unfold dv at hmay
        obtain ⟨m, hm⟩ : ∃ m, m = decide (Du.may y) := ⟨_, rfl⟩
        rw [← hm] at hmay
        have HMAY := Lib.hid hmay
        have hmt : m = true → Du.good l 1 := fun h => hgood (of_decide_eq_true (hm.symm.trans h))
        have hmf : m = false → ¬ Du.May l := fun h h2 => hbad1 (of_decide_eq_false (hm.symm.trans h)) h2.1
        have HMT := Lib.hid hmt
        have HMF := Lib.hid hmf
        clear hy hrg hk1 hmay hbad1 hgood hm hmt hmf hlt hr
        go_upto_region 5 with fail
        refine Pt.wp_plan (fun w' => St w0 w' M L) (Pt.prs [0, 1, 2] (Pt.rds [3] (.go 4 (Pt.prs [5, 6, 7, 8, 9, 10, 11, 12, 13, 15, 16, 17] (Pt.rds [14, 18] (.go 19 (Pt.prs [20, 21, 22] .fin))))))) [] Try.mixed (by kernel_rfl) (fun _ _ d _ _ h => by cases d <;> exact h) H1.drew ?_
        have H3 := H1.drew
        simp only [Pt.toL, Pt.rds, Pt.prs, Pt.at_, List.drop_succ_cons, List.drop_zero]
        iterate 3 (refine Pt.pr_run (v := ?_) (by rfl) ?_ ?_; rotate_left; (focus (intro w'; go_simp; with_reducible rfl)); simp only [Act.put, List.setIfInBounds_toArray, List.set_cons_zero, List.set_cons_succ])
        (refine Pt.rd_load (by rfl) 40 (.tmp 13) (by rfl) b (o + 0 * 3) (by rfl) [.int .u64 (y.t : Int), .int .u64 (y.s : Int), .int .i64 y.a] _ (fun w' h => HRG.out w' h) Try.underlying40 rfl (by exact Try.sizeDue) ?_; simp only [Act.put, List.setIfInBounds_toArray, List.set_cons_zero, List.set_cons_succ])
        refine Pt.run_go ?_
        go_wp2_with fail
        refine (HMAY.out _ H3).mono ?_
        rintro e w1 ⟨rfl, H4⟩
        go_wp2_with fail
        refine Pt.same H4 ?_
        clear H1 H3
        cases m with
        | false =>
          have hno := HMF.out rfl
          have HNO := Lib.hid hno
          clear hno
          iterate 2 (refine Pt.pr_run (v := ?_) (by rfl) ?_ ?_; rotate_left; (focus (intro w'; go_simp; with_reducible rfl)); simp only [Act.put, List.setIfInBounds_toArray, List.set_cons_zero, List.set_cons_succ])
          iterate 10 (refine Pt.pr_skip (by rfl) ?_; simp only [Act.put, List.setIfInBounds_toArray, List.set_cons_zero, List.set_cons_succ])
          iterate 2 (refine Pt.rd_skip (by rfl) ?_; simp only [Act.put, List.setIfInBounds_toArray, List.set_cons_zero, List.set_cons_succ])
          refine Pt.run_go ?_
          go_wp2_with fail
          refine Pt.same H4 ?_
          iterate 2 (refine Pt.pr_skip (by rfl) ?_; simp only [Act.put, List.setIfInBounds_toArray, List.set_cons_zero, List.set_cons_succ])
          (refine Pt.pr_run (v := ?_) (by rfl) ?_ ?_; rotate_left; (focus (intro w'; go_simp; with_reducible rfl)); simp only [Act.put, List.setIfInBounds_toArray, List.set_cons_zero, List.set_cons_succ])
          refine Pt.run_fin ?_
          go_wp2
          go_ret
          exact ⟨false, rfl, ⟨(fun h => by cases h), fun h => absurd h HNO.out⟩, H4⟩
        | true =>
          have hg := HMT.out rfl
          have HG := Lib.hid hg
          clear hg
          iterate 5 (refine Pt.pr_run (v := ?_) (by rfl) ?_ ?_; rotate_left; (focus (intro w'; go_simp; with_reducible rfl)); simp only [Act.put, List.setIfInBounds_toArray, List.set_cons_zero, List.set_cons_succ])
          iterate 7 (refine Pt.pr_skip (by rfl) ?_; simp only [Act.put, List.setIfInBounds_toArray, List.set_cons_zero, List.set_cons_succ])
          iterate 2 (refine Pt.rd_skip (by rfl) ?_; simp only [Act.put, List.setIfInBounds_toArray, List.set_cons_zero, List.set_cons_succ])
          refine Pt.run_go ?_
          go_wp2_with fail
          refine Pt.same H4 ?_
          (refine Pt.pr_skip (by rfl) ?_; simp only [Act.put, List.setIfInBounds_toArray, List.set_cons_zero, List.set_cons_succ])
          iterate 2 (refine Pt.pr_run (v := ?_) (by rfl) ?_ ?_; rotate_left; (focus (intro w'; go_simp; with_reducible rfl)); simp only [Act.put, List.setIfInBounds_toArray, List.set_cons_zero, List.set_cons_succ])
          refine Pt.run_fin ?_
          go_upto_region 7 with fail
          refine Pt.wp_plan (fun w' => St w0 w' M L) (Pt.prs [0, 1, 2, 3, 4, 5, 6, 7, 9, 10, 11, 12] (Pt.rds [8, 13] (Pt.prs [14, 15] .fin))) [] Try.mixed (by kernel_rfl) (fun _ _ d _ _ h => by cases d <;> exact h) H4.drew ?_
          have H5 := H4.drew
          simp only [Pt.toL, Pt.rds, Pt.prs, Pt.at_, List.drop_succ_cons, List.drop_zero]
          iterate 3 (refine Pt.pr_run (v := ?_) (by rfl) ?_ ?_; rotate_left; (focus (intro w'; go_simp; with_reducible rfl)); simp only [Act.put, List.setIfInBounds_toArray, List.set_cons_zero, List.set_cons_succ])
          iterate 9 (refine Pt.pr_skip (by rfl) ?_; simp only [Act.put, List.setIfInBounds_toArray, List.set_cons_zero, List.set_cons_succ])
          iterate 2 (refine Pt.rd_skip (by rfl) ?_; simp only [Act.put, List.setIfInBounds_toArray, List.set_cons_zero, List.set_cons_succ])
          (refine Pt.pr_skip (by rfl) ?_; simp only [Act.put, List.setIfInBounds_toArray, List.set_cons_zero, List.set_cons_succ])
          (refine Pt.pr_run (v := ?_) (by rfl) ?_ ?_; rotate_left; (focus (intro w'; go_simp; with_reducible rfl)); simp only [Act.put, List.setIfInBounds_toArray, List.set_cons_zero, List.set_cons_succ])
          refine Pt.run_fin ?_
          clear H4
          go_wp2
          exact ⟨⟨1, 1, by have := HLT.out; omega, rfl, rfl, HRR.out.symm, (HNEW.out 1 HRR.out.symm).1 (by omega), HG.out, H5⟩, by have := HLT.out; simp [intOf]; omega⟩
      · obtain ⟨i, hi⟩ : ∃ i, i = k - 1 := ⟨_, rfl⟩
        have hi1 : i < l.length := by omega
        have hs2 := hl.at3 i hi1
        have e1 : (k : Int) - 1 = (i : Int) := by omega
        have e2 : (0 : Int) < (k : Int) := by omega
        have hk0 : 0 < k := by omega
        have wi : IntKind.i64.wrap (i : Int) = (i : Int) := by rw [IntKind.wrap_i64]; omega
        have ilt : (i : Int) < (n : Int) := by omega
        have hsame : (l[i]'hi1).t = l[k].t → R + 1 = Du.runs l (k + 1) := fun h => by subst hi; rw [Du.runs_same hk1 (by omega) h, HR.out]
        have hdiff : ¬ (l[i]'hi1).t = l[k].t → 1 = Du.runs l (k + 1) := fun h => by subst hi; rw [Du.runs_new hk1 (.inr h)]
        have hgood : Du.may l[k] → Du.ahead (l[i]'hi1) l[k] → Du.good l (k + 1) := fun h h2 => Du.good_succ (l := l) HGD.out hk1 h (fun _ => by subst hi; exact h2)
        have hbad2 : ¬ Du.ahead (l[i]'hi1) l[k] → ¬ Du.good l l.length := fun h => Du.good.bad2 hk1 (by omega) (by subst hi; exact h)
        have hah := fun w' (H : St w0 w' M L) => ahead_any H (l[i]'hi1) l[k]
        obtain ⟨y, hy⟩ : ∃ y, y = l[k] := ⟨_, rfl⟩
        obtain ⟨z, hz⟩ : ∃ z, z = l[i] := ⟨_, rfl⟩
        rw [← hy] at hrg hmay hbad1 hgood hbad2 hah hsame hdiff
        rw [← hz] at hs2 hgood hbad2 hah hsame hdiff
        have HRG := Lib.hid hrg
        have HS2 := Lib.hid hs2
        unfold dv at hmay hah
        obtain ⟨m, hm⟩ : ∃ m, m = decide (Du.may y) := ⟨_, rfl⟩
        obtain ⟨v, hv⟩ : ∃ v, v = decide (Du.ahead z y) := ⟨_, rfl⟩
        rw [← hm] at hmay
        rw [← hv] at hah
        have HMAY := Lib.hid hmay
        have HAH := Lib.hid hah
        have hmt : m = true → v = true → Du.good l (k + 1) := fun h h2 => hgood (of_decide_eq_true (hm.symm.trans h)) (of_decide_eq_true (hv.symm.trans h2))
        have hmf : m = false → ¬ Du.May l := fun h h2 => hbad1 (of_decide_eq_false (hm.symm.trans h)) h2.1
        have hmb : v = false → ¬ Du.May l := fun h h2 => hbad2 (of_decide_eq_false (hv.symm.trans h)) h2.1
        have HMT := Lib.hid hmt
        have HMF := Lib.hid hmf
        have HMB := Lib.hid hmb
        have HSAME := Lib.hid hsame
        have HDIFF := Lib.hid hdiff
        clear hy hz hrg hk1 hmay hbad1 hgood hm hmt hmf hlt hv hah hmb hbad2 hi1 hs2 hi h0 hsame hdiff
        go_upto_region 5 with fail
        refine Pt.wp_plan (fun w' => St w0 w' M L) (Pt.prs [0, 1, 2] (Pt.rds [3] (.go 4 (Pt.prs [5, 6, 7, 8, 9, 10, 11, 12, 13, 15, 16, 17] (Pt.rds [14, 18] (.go 19 (Pt.prs [20, 21, 22] .fin))))))) [] Try.mixed (by kernel_rfl) (fun _ _ d _ _ h => by cases d <;> exact h) H1.drew ?_
        have H3 := H1.drew
        simp only [Pt.toL, Pt.rds, Pt.prs, Pt.at_, List.drop_succ_cons, List.drop_zero]
        iterate 3 (refine Pt.pr_run (v := ?_) (by rfl) ?_ ?_; rotate_left; (focus (intro w'; go_simp; with_reducible rfl)); simp only [Act.put, List.setIfInBounds_toArray, List.set_cons_zero, List.set_cons_succ])
        (refine Pt.rd_load (by rfl) 40 (.tmp 13) (by rfl) b (o + k * 3) (by rfl) [.int .u64 (y.t : Int), .int .u64 (y.s : Int), .int .i64 y.a] _ (fun w' h => HRG.out w' h) Try.underlying40 rfl (by exact Try.sizeDue) ?_; simp only [Act.put, List.setIfInBounds_toArray, List.set_cons_zero, List.set_cons_succ])
        refine Pt.run_go ?_
        go_wp2_with fail
        refine (HMAY.out _ H3).mono ?_
        rintro e w1 ⟨rfl, H4⟩
        go_wp2_with fail
        refine Pt.same H4 ?_
        clear H1 H3
        cases m with
        | false =>
          have hno := HMF.out rfl
          have HNO := Lib.hid hno
          clear hno
          iterate 2 (refine Pt.pr_run (v := ?_) (by rfl) ?_ ?_; rotate_left; (focus (intro w'; go_simp; with_reducible rfl)); simp only [Act.put, List.setIfInBounds_toArray, List.set_cons_zero, List.set_cons_succ])
          iterate 10 (refine Pt.pr_skip (by rfl) ?_; simp only [Act.put, List.setIfInBounds_toArray, List.set_cons_zero, List.set_cons_succ])
          iterate 2 (refine Pt.rd_skip (by rfl) ?_; simp only [Act.put, List.setIfInBounds_toArray, List.set_cons_zero, List.set_cons_succ])
          refine Pt.run_go ?_
          go_wp2_with fail
          refine Pt.same H4 ?_
          iterate 2 (refine Pt.pr_skip (by rfl) ?_; simp only [Act.put, List.setIfInBounds_toArray, List.set_cons_zero, List.set_cons_succ])
          (refine Pt.pr_run (v := ?_) (by rfl) ?_ ?_; rotate_left; (focus (intro w'; go_simp; with_reducible rfl)); simp only [Act.put, List.setIfInBounds_toArray, List.set_cons_zero, List.set_cons_succ])
          refine Pt.run_fin ?_
          go_wp2
          go_ret
          exact ⟨false, rfl, ⟨(fun h => by cases h), fun h => absurd h HNO.out⟩, H4⟩
        | true =>
          iterate 12 (refine Pt.pr_run (v := ?_) (by rfl) ?_ ?_; rotate_left; (focus (intro w'; go_simp; with_reducible rfl)); simp only [Act.put, List.setIfInBounds_toArray, List.set_cons_zero, List.set_cons_succ])
          (refine Pt.rd_load (by rfl) 40 (.tmp 24) (by rfl) b (o + i * 3) (by rfl) [.int .u64 (z.t : Int), .int .u64 (z.s : Int), .int .i64 z.a] _ (fun w' h => HS2.out w' h) Try.underlying40 rfl (by exact Try.sizeDue) ?_; simp only [Act.put, List.setIfInBounds_toArray, List.set_cons_zero, List.set_cons_succ])
          (refine Pt.rd_load (by rfl) 40 (.tmp 28) (by rfl) b (o + k * 3) (by rfl) [.int .u64 (y.t : Int), .int .u64 (y.s : Int), .int .i64 y.a] _ (fun w' h => HRG.out w' h) Try.underlying40 rfl (by exact Try.sizeDue) ?_; simp only [Act.put, List.setIfInBounds_toArray, List.set_cons_zero, List.set_cons_succ])
          refine Pt.run_go ?_
          go_wp2_with fail
          refine (HAH.out _ H4).mono ?_
          rintro e w2 ⟨rfl, H5⟩
          go_wp2_with fail
          refine Pt.same H5 ?_
          clear H4
          cases v with
          | false =>
            have hno := HMB.out rfl
            have HNO := Lib.hid hno
            clear hno
            iterate 3 (refine Pt.pr_run (v := ?_) (by rfl) ?_ ?_; rotate_left; (focus (intro w'; go_simp; with_reducible rfl)); simp only [Act.put, List.setIfInBounds_toArray, List.set_cons_zero, List.set_cons_succ])
            refine Pt.run_fin ?_
            go_wp2
            go_ret
            exact ⟨false, rfl, ⟨(fun h => by cases h), fun h => absurd h HNO.out⟩, H5⟩
          | true =>
            have hg := HMT.out (by trivial) (by trivial)
            have HG := Lib.hid hg
            clear hg
            iterate 3 (refine Pt.pr_run (v := ?_) (by rfl) ?_ ?_; rotate_left; (focus (intro w'; go_simp; with_reducible rfl)); simp only [Act.put, List.setIfInBounds_toArray, List.set_cons_zero, List.set_cons_succ])
            refine Pt.run_fin ?_
            go_upto_region 7 with fail
            refine Pt.wp_plan (fun w' => St w0 w' M L) (Pt.prs [0, 1, 2, 3, 4, 5, 6, 7, 9, 10, 11, 12] (Pt.rds [8, 13] (Pt.prs [14, 15] .fin))) [] Try.mixed (by kernel_rfl) (fun _ _ d _ _ h => by cases d <;> exact h) H5.drew ?_
            have H6 := H5.drew
            simp only [Pt.toL, Pt.rds, Pt.prs, Pt.at_, List.drop_succ_cons, List.drop_zero]
            iterate 12 (refine Pt.pr_run (v := ?_) (by rfl) ?_ ?_; rotate_left; (focus (intro w'; go_simp; with_reducible rfl)); simp only [Act.put, List.setIfInBounds_toArray, List.set_cons_zero, List.set_cons_succ])
            (refine Pt.rd_run (v := ?_) (by rfl) ?_ ?_; rotate_left; (focus (intro w' hS; have c := HS2.out w' hS 0 _ rfl; rw [Nat.add_zero] at c; go_simp; with_reducible rfl)); simp only [Act.put, List.setIfInBounds_toArray, List.set_cons_zero, List.set_cons_succ])
            (refine Pt.rd_run (v := ?_) (by rfl) ?_ ?_; rotate_left; (focus (intro w' hS; have c := HRG.out w' hS 0 _ rfl; rw [Nat.add_zero] at c; go_simp; with_reducible rfl)); simp only [Act.put, List.setIfInBounds_toArray, List.set_cons_zero, List.set_cons_succ])
            clear H5
            by_cases hyz : z.t = y.t
            · have q : ((z.t : Int) == (y.t : Int)) = true := by rw [hyz]; simp
              have hr := HSAME.out hyz
              have HRR := Lib.hid hr
              clear hyz hr
              iterate 2 (refine Pt.pr_run (v := ?_) (by rfl) ?_ ?_; rotate_left; (focus (intro w'; go_simp; with_reducible rfl)); simp only [Act.put, List.setIfInBounds_toArray, List.set_cons_zero, List.set_cons_succ])
              refine Pt.run_fin ?_
              by_cases h64 : R + 1 ≤ 64
              · have q64 : ¬ (64 : Int) < (R : Int) + 1 := by omega
                have H64 := Lib.hid h64
                clear h64
                go_wp2
                exact ⟨⟨k + 1, R + 1, by have := HLT.out; omega, by go_num, by go_num, HRR.out, (HNEW.out _ HRR.out).1 H64.out, HG.out, H6⟩, by have := HLT.out; simp [intOf]; omega⟩
              · have q64 : (64 : Int) < (R : Int) + 1 := by omega
                have hno := (HNEW.out _ HRR.out).2 h64
                have HNO := Lib.hid hno
                clear h64 hno
                go_wp2
                go_ret
                exact ⟨false, rfl, ⟨(fun h => by cases h), fun h => absurd h HNO.out⟩, H6⟩
            · have q : ((z.t : Int) == (y.t : Int)) = false := by simp; omega
              have hr := HDIFF.out hyz
              have HRR := Lib.hid hr
              clear hyz hr
              iterate 2 (refine Pt.pr_run (v := ?_) (by rfl) ?_ ?_; rotate_left; (focus (intro w'; go_simp; with_reducible rfl)); simp only [Act.put, List.setIfInBounds_toArray, List.set_cons_zero, List.set_cons_succ])
              refine Pt.run_fin ?_
              go_wp2
              exact ⟨⟨k + 1, 1, by have := HLT.out; omega, by go_num, rfl, HRR.out, (HNEW.out _ HRR.out).1 (by omega), HG.out, H6⟩, by have := HLT.out; simp [intOf]; omega⟩
    · obtain rfl : k = n := by omega
      have hs := HSL.out
      have hg := HGD.out
      rw [HN.out] at hs hg
      by_cases h4 : k ≤ 4096
      · have q : (k : Int) ≤ 4096 := by omega
        have hgood : Du.May l := ⟨hg, hs, by have := HN.out; omega⟩
        have HG := Lib.hid hgood
        clear hlt h4 hs hg hgood
        go_wp2
        go_ret
        exact ⟨true, rfl, ⟨fun _ => HG.out, fun _ => rfl⟩, H1⟩
      · have q : ¬ (k : Int) ≤ 4096 := by omega
        have hbad : ¬ Du.May l := fun h => by have := HN.out; have := h.2.2; omega
        have HG := Lib.hid hbad
        clear hlt h4 hs hg hbad
        go_wp2
        go_ret
        exact ⟨false, rfl, ⟨(fun h => by cases h), fun h => absurd h HG.out⟩, H1⟩
end
end Go.Proofs.Ytgnlkcdpklgikaa
