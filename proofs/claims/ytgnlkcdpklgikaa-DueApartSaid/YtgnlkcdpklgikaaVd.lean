/- Which dues may be; the two orders; the closures of due.Pick. -/
import Derived.Test.YtgnlkcdpklgikaaVc
import Derived.Deep.DeepCutAuto
set_option linter.unusedVariables false
set_option linter.unusedSimpArgs false
namespace Go.Proofs.Ytgnlkcdpklgikaa
open Go.RowKit Wd Go.Sort
open Du (Due)
section
variable {w0 w : World} {M : Mem} {L : List Ent}
theorem may_cases (p : Due) : ((p.t : Int) = 0 ∧ decide (Du.may p) = false) ∨ (¬ (p.t : Int) = 0 ∧ (p.s : Int) = 0 ∧ decide (Du.may p) = false) ∨ (¬ (p.t : Int) = 0 ∧ ¬ (p.s : Int) = 0 ∧ decide (Du.may p) = decide (Du.time p.a)) := by
  by_cases h1 : p.t = 0
  · exact .inl ⟨by omega, decide_eq_false fun h => h.1 h1⟩
  · by_cases h2 : p.s = 0
    · exact .inr (.inl ⟨by omega, by omega, decide_eq_false fun h => h.2.1 h2⟩)
    · refine .inr (.inr ⟨by omega, by omega, ?_⟩)
      rw [decide_eq_decide]
      exact ⟨fun h => h.2.2, fun h => ⟨h1, h2, h⟩⟩
theorem may_any (H : St w0 w M L) (p : Due) :
    Calls Try.prog 28 #[dv p] w fun e w' => e = .returned (.bool (decide (Du.may p))) ∧ St w0 w' M L := by
  have hc := may_cases p
  obtain ⟨t, s, a⟩ := p
  obtain ⟨R, hR⟩ : ∃ R, R = decide (Du.may ⟨t, s, a⟩) := ⟨_, rfl⟩
  rw [← hR] at hc ⊢
  simp only at hc
  have ht := fun w => time_any a w
  obtain ⟨B, hB⟩ : ∃ B, B = decide (Du.time a) := ⟨_, rfl⟩
  rw [← hB] at ht hc
  have HT := Lib.hid ht
  have H1 := H.alloc (.cells #[.int .u64 (t : Int), .int .u64 (s : Int), .int .i64 a] 40)
  clear ht hB hR
  unfold dv
  simp only
  rcases hc with ⟨h1, rfl⟩ | ⟨h1, h2, rfl⟩ | ⟨h1, h2, rfl⟩
  · have q1 : ((t : Int) != 0) = false := by simpa using h1
    clear h1
    go_enter Try.func28, Try.ntmps28
    go_wp2
    go_ret
    exact ⟨rfl, H1⟩
  · have q1 : ((t : Int) != 0) = true := by simpa using h1
    have q2 : ((s : Int) != 0) = false := by simpa using h2
    clear h1 h2
    go_enter Try.func28, Try.ntmps28
    go_wp2
    go_ret
    exact ⟨rfl, H1⟩
  · have q1 : ((t : Int) != 0) = true := by simpa using h1
    have q2 : ((s : Int) != 0) = true := by simpa using h2
    clear h1 h2
    go_enter Try.func28, Try.ntmps28
    go_wp2_with fail
    refine (HT.out _).mono ?_
    rintro e w1 ⟨rfl, rfl⟩
    go_wp2
    go_ret
    exact ⟨rfl, H1⟩
theorem one_any (H : St w0 w M L) (p : Due) :
    Calls Try.prog 31 #[dv p] w fun e w' => e = .returned (.bool (decide (Du.may p))) ∧ St w0 w' M L := by
  have hc := may_cases p
  obtain ⟨t, s, a⟩ := p
  obtain ⟨R, hR⟩ : ∃ R, R = decide (Du.may ⟨t, s, a⟩) := ⟨_, rfl⟩
  rw [← hR] at hc ⊢
  simp only at hc
  have ht := fun w => rtime_any a w
  obtain ⟨B, hB⟩ : ∃ B, B = decide (Du.time a) := ⟨_, rfl⟩
  rw [← hB] at ht hc
  have HT := Lib.hid ht
  have H1 := H.alloc (.cells #[.int .u64 (t : Int), .int .u64 (s : Int), .int .i64 a] 40)
  clear ht hB hR
  unfold dv
  simp only
  rcases hc with ⟨h1, rfl⟩ | ⟨h1, h2, rfl⟩ | ⟨h1, h2, rfl⟩
  · have q1 : ((t : Int) != 0) = false := by simpa using h1
    clear h1
    go_enter Try.func31, Try.ntmps31
    go_wp2
    go_ret
    exact ⟨rfl, H1⟩
  · have q1 : ((t : Int) != 0) = true := by simpa using h1
    have q2 : ((s : Int) != 0) = false := by simpa using h2
    clear h1 h2
    go_enter Try.func31, Try.ntmps31
    go_wp2
    go_ret
    exact ⟨rfl, H1⟩
  · have q1 : ((t : Int) != 0) = true := by simpa using h1
    have q2 : ((s : Int) != 0) = true := by simpa using h2
    clear h1 h2
    go_enter Try.func31, Try.ntmps31
    go_wp2_with fail
    refine (HT.out _).mono ?_
    rintro e w1 ⟨rfl, rfl⟩
    go_wp2
    go_ret
    exact ⟨rfl, H1⟩
set_option maxRecDepth 100000 in
theorem ahead_any (H : St w0 w M L) (p q : Due) :
    Calls Try.prog 32 #[dv p, dv q] w fun e w' => e = .returned (.bool (decide (Du.ahead p q))) ∧ St w0 w' M L := by
  have hc : ((p.t : Int) < (q.t : Int) ∧ decide (Du.ahead p q) = true) ∨ (¬ (p.t : Int) < (q.t : Int) ∧ ¬ (p.t : Int) = (q.t : Int) ∧ decide (Du.ahead p q) = false) ∨
      (p.t = q.t ∧ (p.s : Int) < (q.s : Int) ∧ decide (Du.ahead p q) = true) ∨ (p.t = q.t ∧ ¬ (p.s : Int) < (q.s : Int) ∧ decide (Du.ahead p q) = false) := by
    by_cases h1 : p.t < q.t
    · exact .inl ⟨by omega, decide_eq_true (.inl h1)⟩
    · by_cases h2 : p.t = q.t
      · by_cases h3 : p.s < q.s
        · exact .inr (.inr (.inl ⟨h2, by omega, decide_eq_true (.inr ⟨h2, h3⟩)⟩))
        · exact .inr (.inr (.inr ⟨h2, by omega, decide_eq_false fun h => by unfold Du.ahead at h; omega⟩))
      · exact .inr (.inl ⟨by omega, by omega, decide_eq_false fun h => by unfold Du.ahead at h; omega⟩)
  obtain ⟨R, hR⟩ : ∃ R, R = decide (Du.ahead p q) := ⟨_, rfl⟩
  rw [← hR] at hc ⊢
  clear hR
  obtain ⟨t, s, a⟩ := p
  obtain ⟨t', s', a'⟩ := q
  have H1 := (H.alloc (.cells #[.int .u64 (t : Int), .int .u64 (s : Int), .int .i64 a] 40)).alloc (.cells #[.int .u64 (t' : Int), .int .u64 (s' : Int), .int .i64 a'] 40)
  unfold dv
  simp only at hc ⊢
  rcases hc with ⟨h1, rfl⟩ | ⟨h1, h2, rfl⟩ | ⟨rfl, h2, rfl⟩ | ⟨rfl, h2, rfl⟩
  · go_enter Try.func32, Try.ntmps32
    go_wp2
    go_ret
    exact ⟨rfl, H1⟩
  · have q2 : ((t : Int) == (t' : Int)) = false := by simpa using h2
    have q2n : ¬ t = t' := by omega
    go_enter Try.func32, Try.ntmps32
    go_wp2
    go_ret
    exact ⟨rfl, H1⟩
  · go_enter Try.func32, Try.ntmps32
    go_wp2
    go_ret
    exact ⟨rfl, H1⟩
  · go_enter Try.func32, Try.ntmps32
    go_wp2
    go_ret
    exact ⟨rfl, H1⟩
/-- What due.order says. -/
def ord (p q : Due) : Int := orL [ncmp p.t q.t, ncmp p.s q.s]
def ord3 (p q : Due) : Int := orL [ncmp p.t q.t, ncmp p.a q.a, ncmp p.s q.s]
theorem ord_neg (p q : Due) : ord p q < 0 ↔ Du.ahead p q := by
  unfold ord Du.ahead
  simp only [orL]
  rcases ncmp_cases p.t q.t with ⟨h1, h2⟩ | ⟨h1, h2⟩ | ⟨h1, h2⟩
  · rw [h2]; simp; omega
  · rw [h2]
    simp only [ne_eq, not_true_eq_false, if_false]
    rcases ncmp_cases p.s q.s with ⟨h3, h4⟩ | ⟨h3, h4⟩ | ⟨h3, h4⟩
    · rw [h4]; simp; omega
    · rw [h4]; simp; omega
    · rw [h4]; simp; omega
  · rw [h2]; simp; omega
theorem ord3_neg (p q : Due) : ord3 p q < 0 ↔ Du.lt p q := by
  unfold ord3 Du.lt
  simp only [orL]
  rcases ncmp_cases p.t q.t with ⟨h1, h2⟩ | ⟨h1, h2⟩ | ⟨h1, h2⟩
  · rw [h2]; simp; omega
  · rw [h2]
    simp only [ne_eq, not_true_eq_false, if_false]
    rcases ncmp_cases p.a q.a with ⟨h3, h4⟩ | ⟨h3, h4⟩ | ⟨h3, h4⟩
    · rw [h4]; simp; omega
    · rw [h4]
      simp only [ne_eq, not_true_eq_false, if_false]
      rcases ncmp_cases p.s q.s with ⟨h5, h6⟩ | ⟨h5, h6⟩ | ⟨h5, h6⟩
      · rw [h6]; simp; omega
      · rw [h6]; simp; omega
      · rw [h6]; simp; omega
    · rw [h4]; simp; omega
  · rw [h2]; simp; omega
set_option maxRecDepth 100000 in
theorem order_any (p q : Due) (w : World) :
    Calls Try.prog 29 #[dv p, dv q] w fun e w' => e = .returned (.int .i64 (ord p q)) ∧ ∃ n os, w' = grow (w.drewN n) os := by
  obtain ⟨t, s, a⟩ := p
  obtain ⟨t', s', a'⟩ := q
  have H1 := (St.start w).new [.int .u64 (t : Int), .int .u64 (s : Int), .int .i64 a] 40
  have H2 := H1.newg [.int .u64 (t' : Int), .int .u64 (s' : Int), .int .i64 a'] 40 (g := w.heap.size + 1) (by simp)
  have hn := fun w => ncmp_any t t' w
  have hs := fun w => ncmp_any s s' w
  obtain ⟨N, hN⟩ : ∃ N, N = ncmp t t' := ⟨_, rfl⟩
  obtain ⟨S, hS⟩ : ∃ S, S = ncmp s s' := ⟨_, rfl⟩
  have hR : ord ⟨t, s, a⟩ ⟨t', s', a'⟩ = orL [N, S] := by rw [hN, hS]; rfl
  rw [hR]
  rw [← hN] at hn
  rw [← hS] at hs
  obtain ⟨R, hRe⟩ : ∃ R, R = orL [N, S] := ⟨_, rfl⟩
  have hor := fun w A (h : RA w A (iv [N, S])) => or_any (c := 2) (n := 2) (xs := [N, S]) rfl (by omega) h
  rw [← hRe] at hor ⊢
  have HN := Lib.hid hn
  have HS := Lib.hid hs
  have HOR := Lib.hid hor
  clear hn hs hN hS hor hRe hR
  unfold dv
  simp only
  go_enter Try.func29, Try.ntmps29
  go_upto_region 1 with fail
  refine Pt.wp_plan (fun w' => St w w' (w.heap[·]?) (eb (w.heap.size + 1) 40 [.int .u64 (t' : Int), .int .u64 (s' : Int), .int .i64 a'] :: eb w.heap.size 40 [.int .u64 (t : Int), .int .u64 (s : Int), .int .i64 a] :: [])) (Pt.prs [0, 2, 5, 7] (Pt.rds [1, 3, 6, 8] (.go 4 (.go 9 (.go 10 (.go 11 (Pt.prs [12] .fin))))))) [] Try.mixed (by kernel_rfl) (fun _ _ d _ _ h => by cases d <;> exact h) H2.drew ?_
  have H3 := H2.drew
  simp only [Pt.toL, Pt.rds, Pt.prs, Pt.at_, List.drop_succ_cons, List.drop_zero]
  iterate 4 (refine Pt.pr_run (v := ?_) (by rfl) ?_ ?_; rotate_left; (focus (intro w'; go_simp; with_reducible rfl)); simp only [Act.put, List.setIfInBounds_toArray, List.set_cons_zero, List.set_cons_succ])
  (refine Pt.rd_run (v := ?_) (by rfl) ?_ ?_; rotate_left; (focus (intro w' hS; have c := hS.cell 1 rfl 0; go_simp; with_reducible rfl)); simp only [Act.put, List.setIfInBounds_toArray, List.set_cons_zero, List.set_cons_succ])
  (refine Pt.rd_run (v := ?_) (by rfl) ?_ ?_; rotate_left; (focus (intro w' hS; have c := hS.cell 0 rfl 0; go_simp; with_reducible rfl)); simp only [Act.put, List.setIfInBounds_toArray, List.set_cons_zero, List.set_cons_succ])
  (refine Pt.rd_run (v := ?_) (by rfl) ?_ ?_; rotate_left; (focus (intro w' hS; have c := hS.cell 1 rfl 1; go_simp; with_reducible rfl)); simp only [Act.put, List.setIfInBounds_toArray, List.set_cons_zero, List.set_cons_succ])
  (refine Pt.rd_run (v := ?_) (by rfl) ?_ ?_; rotate_left; (focus (intro w' hS; have c := hS.cell 0 rfl 1; go_simp; with_reducible rfl)); simp only [Act.put, List.setIfInBounds_toArray, List.set_cons_zero, List.set_cons_succ])
  generalize hxx : World.drew _ = wy at *
  have HXX := Lib.hid hxx
  clear hxx H1 H2
  refine Pt.run_go ?_
  go_wp2_with fail
  refine (HN.out _).mono ?_
  rintro e w' ⟨rfl, rfl⟩
  go_wp2_with fail
  refine Pt.same H3 ?_
  refine Pt.run_go ?_
  go_wp2_with fail
  refine (HS.out _).mono ?_
  rintro e w' ⟨rfl, rfl⟩
  go_wp2_with fail
  refine Pt.same H3 ?_
  have H4 := H3.new [.int .i64 N, .int .i64 S] 3
  refine Pt.run_go ?_
  go_wp2_with fail
  refine Pt.same H4.d0 ?_
  have hra : RA _ (some ⟨wy.heap.size, 0, none⟩) (iv [N, S]) := (H4.blk 0 rfl).ra 0 2 _ rfl
  refine Pt.run_go ?_
  go_wp2_with fail
  refine (HOR.out _ _ hra).mono ?_
  rintro e w' ⟨rfl, rfl⟩
  go_wp2_with fail
  refine Pt.same H4.d0 ?_
  (refine Pt.pr_run (v := ?_) (by rfl) ?_ ?_; rotate_left; (focus (intro w'; go_simp; with_reducible rfl)); simp only [Act.put, List.setIfInBounds_toArray, List.set_cons_zero, List.set_cons_succ])
  refine Pt.run_fin ?_
  go_wp2
  go_ret
  refine ⟨rfl, 1, #[.cells #[.int .u64 (t : Int), .int .u64 (s : Int), .int .i64 a] 40, .cells #[.int .u64 (t' : Int), .int .u64 (s' : Int), .int .i64 a'] 40, .cells #[.int .i64 N, .int .i64 S] 3], ?_⟩
  rw [← HXX.out]
  simp only [alloc_eq_grow, drew_grow, grow_grow]
  rfl
set_option maxRecDepth 100000 in
theorem pick2_any (p q : Due) (w : World) :
    Calls Try.prog 23 #[dv p, dv q] w fun e w' => e = .returned (.int .i64 (ord3 p q)) ∧ ∃ n os, w' = grow (w.drewN n) os := by
  obtain ⟨t, s, a⟩ := p
  obtain ⟨t', s', a'⟩ := q
  have H1 := (St.start w).new [.int .u64 (t : Int), .int .u64 (s : Int), .int .i64 a] 40
  have H2 := H1.newg [.int .u64 (t' : Int), .int .u64 (s' : Int), .int .i64 a'] 40 (g := w.heap.size + 1) (by simp)
  have hn := fun w => ncmp_any t t' w
  have hk := fun w => icmp_any a a' w
  have hs := fun w => ncmp_any s s' w
  obtain ⟨N, hN⟩ : ∃ N, N = ncmp t t' := ⟨_, rfl⟩
  obtain ⟨K, hK⟩ : ∃ K, K = ncmp a a' := ⟨_, rfl⟩
  obtain ⟨S, hS⟩ : ∃ S, S = ncmp s s' := ⟨_, rfl⟩
  have hR : ord3 ⟨t, s, a⟩ ⟨t', s', a'⟩ = orL [N, K, S] := by rw [hN, hS, hK]; rfl
  rw [hR]
  rw [← hN] at hn
  rw [← hK] at hk
  rw [← hS] at hs
  obtain ⟨R, hRe⟩ : ∃ R, R = orL [N, K, S] := ⟨_, rfl⟩
  have hor := fun w A (h : RA w A (iv [N, K, S])) => or_any (c := 3) (n := 3) (xs := [N, K, S]) rfl (by omega) h
  rw [← hRe] at hor ⊢
  have HN := Lib.hid hn
  have HK := Lib.hid hk
  have HS := Lib.hid hs
  have HOR := Lib.hid hor
  clear hn hs hk hN hK hS hor hRe hR
  unfold dv
  simp only
  go_enter Try.func23, Try.ntmps23
  go_upto_region 1 with fail
  refine Pt.wp_plan (fun w' => St w w' (w.heap[·]?) (eb (w.heap.size + 1) 40 [.int .u64 (t' : Int), .int .u64 (s' : Int), .int .i64 a'] :: eb w.heap.size 40 [.int .u64 (t : Int), .int .u64 (s : Int), .int .i64 a] :: [])) (Pt.prs [0, 2, 5, 7, 10, 12] (Pt.rds [1, 3, 6, 8, 11, 13] (.go 4 (.go 9 (.go 14 (.go 15 (.go 16 (Pt.prs [17] .fin)))))))) [] Try.mixed (by kernel_rfl) (fun _ _ d _ _ h => by cases d <;> exact h) H2.drew ?_
  have H3 := H2.drew
  simp only [Pt.toL, Pt.rds, Pt.prs, Pt.at_, List.drop_succ_cons, List.drop_zero]
  iterate 6 (refine Pt.pr_run (v := ?_) (by rfl) ?_ ?_; rotate_left; (focus (intro w'; go_simp; with_reducible rfl)); simp only [Act.put, List.setIfInBounds_toArray, List.set_cons_zero, List.set_cons_succ])
  (refine Pt.rd_run (v := ?_) (by rfl) ?_ ?_; rotate_left; (focus (intro w' hS; have c := hS.cell 1 rfl 0; go_simp; with_reducible rfl)); simp only [Act.put, List.setIfInBounds_toArray, List.set_cons_zero, List.set_cons_succ])
  (refine Pt.rd_run (v := ?_) (by rfl) ?_ ?_; rotate_left; (focus (intro w' hS; have c := hS.cell 0 rfl 0; go_simp; with_reducible rfl)); simp only [Act.put, List.setIfInBounds_toArray, List.set_cons_zero, List.set_cons_succ])
  (refine Pt.rd_run (v := ?_) (by rfl) ?_ ?_; rotate_left; (focus (intro w' hS; have c := hS.cell 1 rfl 2; go_simp; with_reducible rfl)); simp only [Act.put, List.setIfInBounds_toArray, List.set_cons_zero, List.set_cons_succ])
  (refine Pt.rd_run (v := ?_) (by rfl) ?_ ?_; rotate_left; (focus (intro w' hS; have c := hS.cell 0 rfl 2; go_simp; with_reducible rfl)); simp only [Act.put, List.setIfInBounds_toArray, List.set_cons_zero, List.set_cons_succ])
  (refine Pt.rd_run (v := ?_) (by rfl) ?_ ?_; rotate_left; (focus (intro w' hS; have c := hS.cell 1 rfl 1; go_simp; with_reducible rfl)); simp only [Act.put, List.setIfInBounds_toArray, List.set_cons_zero, List.set_cons_succ])
  (refine Pt.rd_run (v := ?_) (by rfl) ?_ ?_; rotate_left; (focus (intro w' hS; have c := hS.cell 0 rfl 1; go_simp; with_reducible rfl)); simp only [Act.put, List.setIfInBounds_toArray, List.set_cons_zero, List.set_cons_succ])
  generalize hxx : World.drew _ = wy at *
  have HXX := Lib.hid hxx
  clear hxx H1 H2
  refine Pt.run_go ?_
  go_wp2_with fail
  refine (HN.out _).mono ?_
  rintro e w' ⟨rfl, rfl⟩
  go_wp2_with fail
  refine Pt.same H3 ?_
  refine Pt.run_go ?_
  go_wp2_with fail
  refine (HK.out _).mono ?_
  rintro e w' ⟨rfl, rfl⟩
  go_wp2_with fail
  refine Pt.same H3 ?_
  refine Pt.run_go ?_
  go_wp2_with fail
  refine (HS.out _).mono ?_
  rintro e w' ⟨rfl, rfl⟩
  go_wp2_with fail
  refine Pt.same H3 ?_
  have H4 := H3.new [.int .i64 N, .int .i64 K, .int .i64 S] 3
  refine Pt.run_go ?_
  go_wp2_with fail
  refine Pt.same H4.d0 ?_
  have hra : RA _ (some ⟨wy.heap.size, 0, none⟩) (iv [N, K, S]) := (H4.blk 0 rfl).ra 0 3 _ rfl
  refine Pt.run_go ?_
  go_wp2_with fail
  refine (HOR.out _ _ hra).mono ?_
  rintro e w' ⟨rfl, rfl⟩
  go_wp2_with fail
  refine Pt.same H4.d0 ?_
  (refine Pt.pr_run (v := ?_) (by rfl) ?_ ?_; rotate_left; (focus (intro w'; go_simp; with_reducible rfl)); simp only [Act.put, List.setIfInBounds_toArray, List.set_cons_zero, List.set_cons_succ])
  refine Pt.run_fin ?_
  go_wp2
  go_ret
  refine ⟨rfl, 1, #[.cells #[.int .u64 (t : Int), .int .u64 (s : Int), .int .i64 a] 40, .cells #[.int .u64 (t' : Int), .int .u64 (s' : Int), .int .i64 a'] 40, .cells #[.int .i64 N, .int .i64 K, .int .i64 S] 3], ?_⟩
  rw [← HXX.out]
  simp only [alloc_eq_grow, drew_grow, grow_grow]
  rfl
end
end Go.Proofs.Ytgnlkcdpklgikaa
