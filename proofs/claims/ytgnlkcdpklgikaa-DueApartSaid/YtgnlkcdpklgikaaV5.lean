/- due.Add. -/
import Derived.Test.YtgnlkcdpklgikaaV3
import Derived.Test.YtgnlkcdpklgikaaV4
import Derived.Test.YtgnlkcdpklgikaaIn
set_option linter.unusedVariables false
set_option linter.unusedSimpArgs false
namespace Go.Proofs.Ytgnlkcdpklgikaa
open Go.RowKit Wd Go.Sort
open Du (Due)
theorem dcs_put (i : Nat) (y : Due) (l : List Due) : dcs (Du.putAt i y l) = (dcs l).take (i * 3) ++ (dc y ++ (dcs l).drop (i * 3)) := by
  unfold Du.putAt
  have h1 : (dcs l).take (i * 3) = dcs (l.take i) := by
    rcases Nat.lt_or_ge i l.length with h | h
    · conv => lhs; rw [← List.take_append_drop i l, dcs_append]
      rw [List.take_append_of_le_length (by rw [dcs_length, List.length_take]; omega), List.take_of_length_le (by rw [dcs_length, List.length_take]; omega)]
    · rw [List.take_of_length_le h, List.take_of_length_le (by rw [dcs_length]; omega)]
  have h2 : (dcs l).drop (i * 3) = dcs (l.drop i) := by
    rcases Nat.lt_or_ge i l.length with h | h
    · conv => lhs; rw [← List.take_append_drop i l, dcs_append]
      rw [List.drop_append, List.drop_eq_nil_of_le (by rw [dcs_length, List.length_take]; omega), dcs_length, List.length_take, Nat.min_eq_left (by omega), Nat.sub_self, List.drop_zero, List.nil_append]
    · rw [List.drop_eq_nil_of_le h, List.drop_eq_nil_of_le (by rw [dcs_length]; omega)]
      rfl
  rw [dcs_append, h1, h2]
  rfl
/-- What due.Add gives: the list with one more, or nothing. -/
def RetAdd (w0 : World) (M : Mem) (L : List Ent) (n : Nat) (l : List Due) (y : Due) (e : Ending) (w' : World) : Prop :=
  (∃ v i, Du.may y ∧ i ≤ l.length ∧ Du.May (Du.putAt i y l) ∧ e = .returned (.tuple #[v, .int .i64 0]) ∧ St w0 w' M (er 40 3 v (n + 1) (dcs (Du.putAt i y l)) :: L)) ∨
    (∃ r : Int, r ≠ 0 ∧ e = .returned (.tuple #[.slice none 0 0, .int .i64 r]) ∧ St w0 w' M L)
section
variable {w0 w : World} {M : Mem} {L : List Ent}
set_option maxRecDepth 100000 in
set_option maxHeartbeats 2000000 in
theorem add_any (H : St w0 w M L) {A : Option Addr} {c n : Nat} {l : List Due} (hn : n = l.length) (hn3 : n ≤ 900000) (hA : A = none → c = 0) (hl : SrA w0 M L A (dcs l)) (y : Due) :
    Calls Try.prog 17 #[.slice A n c, dv y] w (RetAdd w0 M L n l y) := by
  have hn2 : n ≤ 1000000 := by omega
  have HN := Lib.hid hn
  have H1 := H.new (dc y) 40
  have hck := check_any (c := c) H1 hn hn2 (hl.cons _)
  have HCK := Lib.hid hck
  have hmay := fun w' L' (H : St w0 w' M L') => may_any H y
  have hmt := (decide_eq_true_iff (p := Du.may y))
  obtain ⟨m, hm⟩ : ∃ m, m = decide (Du.may y) := ⟨_, rfl⟩
  rw [← hm] at hmay hmt
  have HMAY := Lib.hid hmay
  have HMT := Lib.hid hmt
  have hcl := fun w' L' (H : St w0 w' M L') (hl : SrA w0 M L' A (dcs l)) => clone_any (c := c) H hn hn2 hA hl
  have HCLN := Lib.hid hcl
  have hbs := fun w' L' (H : St w0 w' M L') (hl : SrA w0 M L' A (dcs l)) (hs : l.Pairwise Du.ahead) => bs_any (enters_of Try.func29 (by kernel_rfl) rfl) (c := c) H hn hn2 hl hs y
  have HBS := Lib.hid hbs
  have hone := dcs_one l
  have HONE := Lib.hid hone
  unfold dv at *
  unfold dc at H1 HCK
  have hdl : ∀ k, dcs (Du.putAt k y l) = (dcs l).take (k * 3) ++ ([.int .u64 (y.t : Int), .int .u64 (y.s : Int), .int .i64 y.a] ++ (dcs l).drop (k * 3)) := fun k => dcs_put k y l
  have HDL := Lib.hid hdl
  clear hn hck hmay hmt hm hcl hbs H hone hdl
  go_enter Try.func17, Try.ntmps17
  go_wp2_with fail
  refine HCK.out.mono ?_
  rintro e w1 ⟨⟨hmay, rfl⟩ | ⟨hmay, rfl⟩, H2⟩
  · have HM := Lib.hid hmay
    clear hmay HCK H1
    have hrl := (H2.blk 0 rfl).range 0 3 _ rfl
    have HRL := Lib.hid hrl
    clear hrl
    go_wp2_with first
      | (refine wpList_load_g (by rfl) 40 (.tmp 3) (by rfl) w.heap.size 0 (by rfl) [.int .u64 (y.t : Int), .int .u64 (y.s : Int), .int .i64 y.a] _ HRL.out Try.underlying40 rfl (by exact Try.sizeDue) ?_)
    refine (HMAY.out _ _ H2).mono ?_
    rintro e w2 ⟨rfl, H3⟩
    clear H2 HRL
    cases m with
    | false =>
      clear HMT HMAY
      go_wp2
      go_ret2
      exact .inr ⟨1, by omega, rfl, H3.d0⟩
    | true =>
      have hmy := HMT.out.1 (by trivial)
      have HMY := Lib.hid hmy
      clear hmy HMT HMAY
      have hpw := Du.good.pair HM.out.1
      go_wp2_with first
        | (refine wpList_load_mid (by rfl) 40 (.tmp 3) (by rfl) w.heap.size 0 (by rfl) [.int .u64 (y.t : Int), .int .u64 (y.s : Int), .int .i64 y.a] _ ((H3.blk 0 rfl).range 0 3 _ rfl) Try.underlying40 rfl (by exact Try.sizeDue) ?_)
      refine (HBS.out _ _ H3 (hl.cons _) hpw).mono ?_
      rintro e w3 ⟨i, f, rfl, hi, ht, hd, hf, H4⟩
      clear H3
      cases f with
      | true =>
        clear hf ht hd
        go_wp2
        go_ret2
        exact .inr ⟨6, by omega, rfl, H4.d0⟩
      | false =>
        have hnot : ∀ h : i < l.length, ¬ (l[i].t = y.t ∧ l[i].s = y.s) := fun h he => by
          have h1 := ord_zero l[i] y
          have h2 : Du.like y l[i] = true := by simp [Du.like, he.1, he.2]
          rw [h2, beq_iff_eq] at h1
          have := hf.2 ⟨h, h1⟩
          cases this
        have hpp := Du.put_pair hpw ht hd hnot
        have hmm := Du.put_may (i := i) (y := y) (l := l) (fun d hd => by
          obtain ⟨j, hj, rfl⟩ := List.getElem_of_mem hd
          exact (HM.out.1 j hj hj).1) HMY.out
        have hgd := Du.good_of hmm hpp
        have hpl : (Du.putAt i y l).length = n + 1 := by unfold Du.putAt; rw [List.length_append, List.length_cons, List.length_take, List.length_drop, HN.out]; omega
        have HGD := Lib.hid hgd
        have HPL := Lib.hid hpl
        have HI := Lib.hid hi
        have hin : i ≤ n := by have := HN.out; omega
        have HIN := Lib.hid hin
        clear hf ht hd hnot hpp hmm hgd hpl hi hpw
        go_upto_region 6 with fail
        refine Pt.wp_plan (fun w' => St w0 w' M (eb w.heap.size 40 [.int .u64 (y.t : Int), .int .u64 (y.s : Int), .int .i64 y.a] :: L)) (Pt.prs [0, 2] (Pt.rds [3] (.go2 1 (.go 4 (.go 5 (Pt.prs [6] .fin))) 4 (.go 1 (.go 5 (Pt.prs [6] .fin)))))) [] Try.mixed (by kernel_rfl) (fun _ _ d _ _ h => by cases d <;> exact h) H4.drew ?_
        have H5 := H4.drew
        clear H4
        simp only [Pt.toL, Pt.rds, Pt.prs, Pt.at_, List.drop_succ_cons, List.drop_zero]
        iterate 2 (refine Pt.pr_run (v := ?_) (by rfl) ?_ ?_; rotate_left; (focus (intro w'; go_simp; with_reducible rfl)); simp only [Act.put, List.setIfInBounds_toArray, List.set_cons_zero, List.set_cons_succ])
        (refine Pt.rd_load (by rfl) 40 (.tmp 3) (by rfl) w.heap.size 0 (by rfl) [.int .u64 (y.t : Int), .int .u64 (y.s : Int), .int .i64 y.a] _ (fun w' h => (h.blk 0 rfl).range 0 3 _ rfl) Try.underlying40 rfl (by exact Try.sizeDue) ?_; simp only [Act.put, List.setIfInBounds_toArray, List.set_cons_zero, List.set_cons_succ])
        refine Pt.run_go2 ?_ ?_
        · go_wp2_with fail
          refine (HCLN.out _ _ H5 (hl.cons _)).mono ?_
          rintro e w5 ⟨v5, rfl, H6⟩
          go_wp2_with fail
          refine Pt.same H6.d0 ?_
          have H7 := H6.new [.int .u64 (y.t : Int), .int .u64 (y.s : Int), .int .i64 y.a] 40
          refine Pt.run_go ?_
          go_wp2_with fail
          refine Pt.same H7.d0.d0 ?_
          have hins := insert_any (i := i) H7.f1 rfl (by simp [Value.oneCell']) HONE.out HIN.out hn2
          have HINS := Lib.hid hins
          clear hins H5 H6 H7
          refine Pt.run_go ?_
          go_wp2_with fail
          refine HINS.out.mono ?_
          rintro e w6 ⟨v6, rfl, H8⟩
          rw [← HDL.out i] at H8
          have H9 := H8.d1
          go_wp2_with fail
          refine Pt.same H9.d0 ?_
          clear HINS H8
          (refine Pt.pr_run (v := ?_) (by rfl) ?_ ?_; rotate_left; (focus (intro w'; go_simp; with_reducible rfl)); simp only [Act.put, List.setIfInBounds_toArray, List.set_cons_zero, List.set_cons_succ])
          refine Pt.run_fin ?_
          obtain ⟨A6, c6, rfl, hc6⟩ := H9.shape 0 rfl
          have hfu := full_any (c := c6) H9 HPL.out.symm (by omega) (SrA.row 0 rfl)
          go_wp2_with fail
          refine hfu.mono ?_
          rintro e w7 ⟨b, rfl, hb, H10⟩
          clear H9
          cases b with
          | true =>
            clear hb
            go_wp2
            go_ret2
            exact .inr ⟨12, by omega, rfl, H10.d0.d0⟩
          | false =>
            have hnf : ¬ Du.Full (Du.putAt i y l) := fun h => by have := hb.2 h; cases this
            have HNF := Lib.hid hnf
            clear hb hnf
            go_wp2
            go_ret2
            have h1 := Classical.not_not.1 HNF.out
            refine .inl ⟨_, i, HMY.out, HI.out, ⟨HGD.out, h1.1, h1.2⟩, rfl, ?_⟩
            exact H10.d1
        · go_wp2_with fail
          have H6 := H5.new [.int .u64 (y.t : Int), .int .u64 (y.s : Int), .int .i64 y.a] 40
          refine Pt.same H6.d0 ?_
          refine Pt.run_go ?_
          go_wp2_with fail
          refine (HCLN.out _ _ H6 ((hl.cons _).cons _)).mono ?_
          rintro e w5 ⟨v5, rfl, H7⟩
          go_wp2_with fail
          refine Pt.same H7.d0.d0 ?_
          have hins := insert_any (i := i) H7 rfl (by simp [Value.oneCell']) HONE.out HIN.out hn2
          have HINS := Lib.hid hins
          clear hins H5 H6 H7
          refine Pt.run_go ?_
          go_wp2_with fail
          refine HINS.out.mono ?_
          rintro e w6 ⟨v6, rfl, H8⟩
          rw [← HDL.out i] at H8
          have H9 := H8.d1
          go_wp2_with fail
          refine Pt.same H9.d0 ?_
          clear HINS H8
          (refine Pt.pr_run (v := ?_) (by rfl) ?_ ?_; rotate_left; (focus (intro w'; go_simp; with_reducible rfl)); simp only [Act.put, List.setIfInBounds_toArray, List.set_cons_zero, List.set_cons_succ])
          refine Pt.run_fin ?_
          obtain ⟨A6, c6, rfl, hc6⟩ := H9.shape 0 rfl
          have hfu := full_any (c := c6) H9 HPL.out.symm (by omega) (SrA.row 0 rfl)
          go_wp2_with fail
          refine hfu.mono ?_
          rintro e w7 ⟨b, rfl, hb, H10⟩
          clear H9
          cases b with
          | true =>
            clear hb
            go_wp2
            go_ret2
            exact .inr ⟨12, by omega, rfl, H10.d0.d0⟩
          | false =>
            have hnf : ¬ Du.Full (Du.putAt i y l) := fun h => by have := hb.2 h; cases this
            have HNF := Lib.hid hnf
            clear hb hnf
            go_wp2
            go_ret2
            have h1 := Classical.not_not.1 HNF.out
            refine .inl ⟨_, i, HMY.out, HI.out, ⟨HGD.out, h1.1, h1.2⟩, rfl, ?_⟩
            exact H10.d1
  · clear HMT HMAY
    go_wp2
    go_ret2
    exact .inr ⟨1, by omega, rfl, H2.d0⟩
end
end Go.Proofs.Ytgnlkcdpklgikaa
