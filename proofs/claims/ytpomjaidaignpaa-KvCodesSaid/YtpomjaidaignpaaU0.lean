/- KvCodes walked. -/
import Derived.Test.YtpomjaidaignpaaG3
import Derived.Test.YtpomjaidaignpaaK4
import Derived.Test.YtpomjaidaignpaaK5
import Derived.Test.YtpomjaidaignpaaG8
set_option linter.unusedVariables false
set_option linter.unusedSimpArgs false
namespace Go.Proofs.Ytpomjaidaignpaa
open Go.RowKit Wd
theorem Kv.enc_no {l : List Kv.Act} (h : Kv.check l ≠ 0) : (Kv.enc l).1 = [] := by
  unfold Kv.enc
  rw [if_neg h]
set_option maxRecDepth 100000 in
set_option maxHeartbeats 2000000 in
theorem kvCodes_any {w : World} {A : Option Addr} {c n : Nat} {l : List Ac} (hn : n = l.length) (hr : RA w A (acs l)) (hi : ∀ a ∈ l, a.p.ok ∧ RB w a.p.A a.p.l) :
    Calls Try.prog 3 #[.slice A n c] w fun e w' => e = .returned (.bool true) ∧ Below w.heap.size w w' := by
  have H := St.start w
  have hs : SrA w _ [] A (acs l) := SrA.of_in (In.oldRA H hr)
  have il : AcIn _ l := fun a ha => ⟨(hi a ha).1, In.oldRB H (hi a ha).2⟩
  obtain ⟨M, H, hs, il⟩ : ∃ M, St w w M [] ∧ SrA w M [] A (acs l) ∧ AcIn M l := ⟨_, H, hs, il⟩
  have HSM := Lib.hid (small_any (c := c) H hn hs fun a ha => (il a ha).1.1)
  have HH := Lib.hid (And.intro hn (And.intro hs il))
  clear hr hi hn hs il H
  go_enter Try.func3, Try.ntmps3
  go_wp2_with fail
  refine HSM.out.mono ?_
  rintro e w1 ⟨b, rfl, hb, H1⟩
  cases b with
  | false =>
    have HAW := Lib.hid (awake20_any H1)
    clear HSM H1 hb
    go_wp2_with fail
    refine HAW.out.mono ?_
    rintro e w2 ⟨rfl, H2⟩
    go_wp2
    go_ret
    exact ⟨rfl, H2.below⟩
  | true =>
    obtain ⟨hn3, hslim⟩ := hb rfl
    have he := encode_any H1 (c := c) HH.out.1 HH.out.2.1 HH.out.2.2 (by omega)
    rw [Kv.enc_snd] at he
    have HSL := Lib.hid (And.intro hn3 hslim)
    have hdb := @Kv.decode_bytes (l.map Ac.act)
    have heb := @Kv.enc_fst (l.map Ac.act)
    have hen := @Kv.enc_no (l.map Ac.act)
    obtain ⟨C, hC⟩ : ∃ C, C = Kv.check (l.map Ac.act) := ⟨_, rfl⟩
    obtain ⟨R, hR⟩ : ∃ R, R = (Kv.enc (l.map Ac.act)).1 := ⟨_, rfl⟩
    rw [← hC, ← hR] at he
    rw [← hC] at hdb
    rw [← hC, ← hR] at heb hen
    have HE := Lib.hid he
    have HC := Lib.hid (And.intro hC (And.intro hdb (And.intro heb hen)))
    clear he hC hdb heb hen hR hn3 hslim hb H1 HSM
    go_wp2_with fail
    refine HE.out.mono ?_
    rintro e w2 ⟨B, d, M2, rfl, hd, hB, hM2, hin, H2⟩
    have hck := rcheck_any H2 (c := c) HH.out.1 (HH.out.2.1.le hM2) (fun a ha => (HH.out.2.2 a ha).1.1) (by have := HSL.out.1; omega) (fun a ha => by have := HSL.out.2 a ha; omega)
    rw [← HC.out.1] at hck
    have HCK := Lib.hid hck
    have HM2 := Lib.hid (And.intro hM2 (And.intro hd (And.intro hB hin)))
    obtain ⟨m, hm⟩ : ∃ m, m = R.length := ⟨_, rfl⟩
    rw [← hm] at hd ⊢
    have HMM := Lib.hid hm
    clear hck hM2 hd hB hin HE hm
    go_wp2_with fail
    refine HCK.out.mono ?_
    rintro e w' ⟨rfl, rfl⟩
    clear HCK
    by_cases hc : C = 0
    · subst hc
      have hRb := HC.out.2.2.1 rfl
      have hdec := decode_any H2 (n := m) (c := d) HMM.out HM2.out.2.2.2 (by have := HM2.out.2.1; have := HMM.out; omega) (by
        have h1 := (Kv.check_zero HC.out.1.symm).2.2.2
        rw [← hRb] at h1
        have := HMM.out
        omega)
      have HDE := Lib.hid hdec
      have HRB := Lib.hid hRb
      clear hdec hRb H2
      go_wp2_with fail
      refine HDE.out.mono ?_
      rintro e w3 (⟨hno, -, -⟩ | ⟨ps, v, M3, hso, rfl, hM3, hps, H3⟩)
      · rw [HRB.out, HC.out.2.1 trivial] at hno
        cases hno
      · rw [HRB.out, HC.out.2.1 trivial] at hso
        injection hso with hso
        have hpl : ps.length = n := by rw [HH.out.1]; simpa using (congrArg List.length hso).symm
        rw [hpl] at H3
        obtain ⟨A5, c5, rfl, -⟩ := H3.shape 0 rfl
        have H4 := H3.drew
        have hM23 := HM2.out.1.trans hM3
        have hrb := rbytes_any H4 (c := c) HH.out.1 ((HH.out.2.1.cons _).le hM23) (HH.out.2.2.le hM23) (by
          have := (Kv.check_zero HC.out.1.symm).2.1
          rw [List.length_map] at this
          have := HH.out.1
          omega) (fun a ha => by
          have hl := (Kv.check_zero HC.out.1.symm).2.2.1
          have h2 : Kv.long a.act = false := by
            cases h : Kv.long a.act with
            | false => rfl
            | true => rw [List.any_eq_true.2 ⟨_, List.mem_map.2 ⟨a, ha, rfl⟩, h⟩] at hl; cases hl
          unfold Kv.long at h2
          simp only [Bool.or_eq_false_iff, decide_eq_false_iff_not] at h2
          have e1 : a.act.key = a.key := rfl
          have e2 : a.act.data = a.p.l := rfl
          rw [e1, e2] at h2
          omega)
        rw [← HRB.out] at hrb
        have HRBY := Lib.hid hrb
        have HX := Lib.hid (And.intro hso (And.intro hpl (And.intro hM23 (And.intro hps (HM2.out.2.2.2.le hM3)))))
        clear hrb hso hpl hM23 hps hM3 HDE
        go_upto_region 10 with fail
        refine Pt.wp_plan (fun w' => St w w' M3 [er 53 3 (.slice A5 n c5) n (acs ps)]) (Pt.prs [0, 2] (Pt.rds [1] (.go 3 (Pt.rds [4] (Pt.prs [5, 6, 7, 8, 9, 10, 11, 12] (.go 13 (Pt.prs [14, 15] (.go 16 (Pt.prs [17, 18] .fin))))))))) [] Try.mixed (by kernel_rfl) (fun _ _ d _ _ h => by cases d <;> exact h) H4 ?_
        simp only [Pt.toL, Pt.rds, Pt.prs, Pt.at_, List.drop_succ_cons, List.drop_zero]
        iterate 2 (refine Pt.pr_run (v := ?_) (by rfl) ?_ ?_; rotate_left; (focus (intro w'; go_simp; with_reducible rfl)); simp only [Act.put, List.setIfInBounds_toArray, List.set_cons_zero, List.set_cons_succ])
        (refine Pt.rd_run (v := ?_) (by rfl) ?_ ?_; rotate_left; (focus (intro w' hS; have cv := conv_RB (P := Try.prog) (src := 25) (dst := 9) (n := m) (c := d) Try.underlying25 Try.underlying5 Try.underlying9 (HX.out.2.2.2.2.now hS) HMM.out; go_simp; with_reducible rfl)); simp only [Act.put, List.setIfInBounds_toArray, List.set_cons_zero, List.set_cons_succ])
        refine Pt.run_go ?_
        go_wp2_with fail
        refine HRBY.out.mono ?_
        rintro e w4 ⟨B2, d2, M4, rfl, hd2, hB2, hM4, hin2, H5⟩
        rw [← HMM.out]
        have hsa := same_acts H5 (A1 := A5) (A2 := A) (c1 := c5) (c2 := c) (n := n) HX.out.2.1.symm HX.out.1.symm (SrA.row 0 rfl) ((HH.out.2.1.cons _).le (HX.out.2.2.1.trans hM4)) (HX.out.2.2.2.1.le hM4) (HH.out.2.2.le (HX.out.2.2.1.trans hM4)) (by have := HSL.out.1; omega)
        have HSA := Lib.hid hsa
        have HY := Lib.hid (And.intro hM4 hin2)
        clear hsa hM4 hin2 hB2 hd2 HRBY
        go_wp2_with fail
        refine Pt.more (fun w' => St w w' M4 [er 53 3 (.slice A5 n c5) n (acs ps)]) (H5.weak H4 HY.out.1) H5 ?_
        (refine Pt.rd_run (v := ?_) (by rfl) ?_ ?_; rotate_left; (focus (intro w' hS; have cv := conv_RB (P := Try.prog) (src := 25) (dst := 9) (n := m) (c := d2) Try.underlying25 Try.underlying5 Try.underlying9 (HY.out.2.now hS.2) HMM.out; go_simp; with_reducible rfl)); simp only [Act.put, List.setIfInBounds_toArray, List.set_cons_zero, List.set_cons_succ])
        iterate 8 (refine Pt.pr_run (v := ?_) (by rfl) ?_ ?_; rotate_left; (focus (intro w'; go_simp; with_reducible rfl)); simp only [Act.put, List.setIfInBounds_toArray, List.set_cons_zero, List.set_cons_succ])
        refine Pt.run_go ?_
        go_wp2_with fail
        refine HSA.out.mono ?_
        rintro e w5 ⟨rfl, H6⟩
        have HAW := Lib.hid (awake20_any H6)
        go_wp2_with fail
        refine Pt.same ⟨H6.weak H4 HY.out.1, H6⟩ ?_
        clear HSA H5
        iterate 2 (refine Pt.pr_run (v := ?_) (by rfl) ?_ ?_; rotate_left; (focus (intro w'; go_simp; with_reducible rfl)); simp only [Act.put, List.setIfInBounds_toArray, List.set_cons_zero, List.set_cons_succ])
        refine Pt.run_go ?_
        go_wp2_with fail
        refine HAW.out.mono ?_
        rintro e w6 ⟨rfl, H7⟩
        go_wp2_with fail
        refine Pt.same ⟨H7.weak H4 HY.out.1, H7⟩ ?_
        clear HAW H6
        iterate 2 (refine Pt.pr_run (v := ?_) (by rfl) ?_ ?_; rotate_left; (focus (intro w'; go_simp; with_reducible rfl)); simp only [Act.put, List.setIfInBounds_toArray, List.set_cons_zero, List.set_cons_succ])
        refine Pt.run_fin ?_
        go_wp2
        go_ret
        exact ⟨rfl, H7.below⟩
    · have hR0 := HC.out.2.2.2 hc
      have hm0 : m = 0 := by rw [HMM.out, hR0]; rfl
      subst hm0
      have HAW := Lib.hid (awake20_any H2)
      clear H2 hR0
      go_wp2_with fail
      refine HAW.out.mono ?_
      rintro e w4 ⟨rfl, H3⟩
      go_wp2
      go_ret
      exact ⟨rfl, H3.below⟩
end Go.Proofs.Ytpomjaidaignpaa
