/- The reference's Same (pairs). -/
import Derived.Test.YtpomjaidaignpaaGreatS8
set_option linter.unusedVariables false
set_option linter.unusedSimpArgs false
namespace Go.Proofs.YtpomjaidaignpaaGreat
open Go.RowKit Wd
section
variable {w0 w : World} {M : Mem} {L : List Ent}
set_option maxRecDepth 100000 in
set_option maxHeartbeats 2000000 in
theorem rsame20_any (H : St w0 w M L) {A B : Option Addr} {c d n m : Nat} {ps qs : List Pa} (hn : n = ps.length) (hm : m = qs.length) (hA : SrA w0 M L A (pas ps)) (hB : SrA w0 M L B (pas qs)) (ip : PaIn M ps) (iq : PaIn M qs) (hn2 : n ≤ 100000000) :
    Calls Tryz.prog 14 #[.slice A n c, .slice B m d] w fun e w' => e = .returned (.bool (decide (ps.map Pa.pr = qs.map Pa.pr))) ∧ St w0 w' M L := by
  obtain ⟨R, hR⟩ : ∃ R, R = decide (ps.map Pa.pr = qs.map Pa.pr) := ⟨_, rfl⟩
  rw [← hR]
  by_cases hnm : n = m
  · subst hnm
    have HN := Lib.hid (And.intro hn (And.intro hm hR))
    clear hn hm hR
    go_enter Tryz.func14, Tryz.ntmps14
    go_wp2
    go_loopw [5] (fun i wr => ∃ k : Nat, k ≤ n ∧ i = .int .i64 k ∧ (ps.map Pa.pr).take k = (qs.map Pa.pr).take k ∧ St w0 wr M L) (fun i _ => n - (intOf i).toNat)
    case atStart => exact ⟨0, by omega, rfl, rfl, H⟩
    case round =>
      obtain ⟨k, hk, rfl, hso, H1⟩ := hrel
      clear H
      by_cases hlt : k < n
      · have hk1 : k < ps.length := by have := HN.out.1; omega
        have hk2 : k < qs.length := by have := HN.out.2.1; omega
        obtain ⟨b1, o1, rfl, -⟩ := RA.pa2 (hA.now H1) k hk1
        obtain ⟨b2, o2, rfl, -⟩ := RA.pa2 (hB.now H1) k hk2
        have t1 : (ps.map Pa.pr).take (k + 1) = (ps.map Pa.pr).take k ++ [Pa.pr ps[k]] := by rw [List.take_succ_eq_append_getElem (by rw [List.length_map]; exact hk1), List.getElem_map]
        have t2 : (qs.map Pa.pr).take (k + 1) = (qs.map Pa.pr).take k ++ [Pa.pr qs[k]] := by rw [List.take_succ_eq_append_getElem (by rw [List.length_map]; exact hk2), List.getElem_map]
        have hp := ip _ (List.getElem_mem hk1)
        have hq := iq _ (List.getElem_mem hk2)
        have k1 := fun W (HW : St w0 W M L) => cells_pa hA hk1 (Mem.le.refl M) HW rfl rfl
        have k2 := fun W (HW : St w0 W M L) => cells_pa hB hk2 (Mem.le.refl M) HW rfl rfl
        obtain ⟨p, hpe⟩ : ∃ p, p = ps[k] := ⟨_, rfl⟩
        obtain ⟨q, hqe⟩ : ∃ q, q = qs[k] := ⟨_, rfl⟩
        rw [← hpe] at hp t1
        rw [← hqe] at hq t2
        simp only [← hpe] at k1
        simp only [← hqe] at k2
        obtain ⟨key1, ⟨PA, PN, PC, PL⟩⟩ := p
        obtain ⟨key2, ⟨QA, QN, QC, QL⟩⟩ := q
        simp only [Pc.v] at k1 k2
        obtain ⟨⟨hPN, -, -⟩, hpr⟩ := hp
        obtain ⟨⟨hQN, -, -⟩, hqr⟩ := hq
        simp only at hPN hQN hpr hqr
        have cv1 := fun W (HW : St w0 W M L) => conv_RB (P := Tryz.prog) (src := 33) (dst := 9) (c := PC) Tryz.underlying33 Tryz.underlying5 Tryz.underlying9 (hpr.now HW) hPN
        have cv2 := fun W (HW : St w0 W M L) => conv_RB (P := Tryz.prog) (src := 33) (dst := 9) (c := QC) Tryz.underlying33 Tryz.underlying5 Tryz.underlying9 (hqr.now HW) hQN
        have e1 : Pa.pr ⟨key1, ⟨PA, PN, PC, PL⟩⟩ = (key1, PL) := rfl
        have e2 : Pa.pr ⟨key2, ⟨QA, QN, QC, QL⟩⟩ = (key2, QL) := rfl
        rw [e1] at t1
        rw [e2] at t2
        have K1 := Lib.hid k1
        have K2 := Lib.hid k2
        have CV1 := Lib.hid cv1
        have CV2 := Lib.hid cv2
        have hno : (key1, PL) ≠ (key2, QL) → R = false := fun hne => by
          rw [HN.out.2.2]
          refine decide_eq_false fun he => ?_
          have h3 := congrArg (List.take (k + 1)) he
          rw [t1, t2, hso] at h3
          have h4 := List.append_cancel_left h3
          simp only [List.cons.injEq, and_true] at h4
          exact hne h4
        have HNO := Lib.hid hno
        have HT := Lib.hid (And.intro hlt (And.intro t1 (And.intro t2 hso)))
        have q1 : (k : Int) < (n : Int) := by omega
        have q1n : k < n := hlt
        clear k1 k2 cv1 cv2 hpr hqr hPN hQN hpe hqe hk1 hk2 hlt hk t1 t2 hso e1 e2 hno
        obtain ⟨bk, hbk⟩ : ∃ bk, bk = (key1 == key2) := ⟨_, rfl⟩
        have hse := hbk.symm
        go_upto_region 6 with fail
        refine Pt.wp_plan (fun w' => St w0 w' M L) (Pt.prs [0, 1, 2, 3, 5, 6, 7, 8] (Pt.rds [4, 9] (Pt.prs [10, 11, 12, 13, 14, 15, 18, 19, 20, 21] (Pt.rds [16, 17, 22, 23] (Pt.prs [24, 25] .fin))))) [] Tryz.mixed (by kernel_rfl) (fun _ _ d _ _ h => by cases d <;> exact h) H1.drew ?_
        have H2 := H1.drew
        clear H1
        simp only [Pt.toL, Pt.rds, Pt.prs, Pt.at_, List.drop_succ_cons, List.drop_zero]
        iterate 8 (refine Pt.pr_run (v := ?_) (by rfl) ?_ ?_; rotate_left; (focus (intro w'; go_simp; with_reducible rfl)); simp only [Act.put, List.setIfInBounds_toArray, List.set_cons_zero, List.set_cons_succ])
        (refine Pt.rd_run (v := ?_) (by rfl) ?_ ?_; rotate_left; (focus (intro w' hS; obtain ⟨x0, x1⟩ := K1.out _ hS; go_simp; with_reducible rfl)); simp only [Act.put, List.setIfInBounds_toArray, List.set_cons_zero, List.set_cons_succ])
        (refine Pt.rd_run (v := ?_) (by rfl) ?_ ?_; rotate_left; (focus (intro w' hS; obtain ⟨x0, x1⟩ := K2.out _ hS; go_simp; with_reducible rfl)); simp only [Act.put, List.setIfInBounds_toArray, List.set_cons_zero, List.set_cons_succ])
        cases bk with
        | false =>
          have hne : (key1, PL) ≠ (key2, QL) := fun h => by
            injection h with h _
            rw [h] at hbk
            simp at hbk
          have hRf := HNO.out hne
          subst hRf
          clear hne hbk
          iterate 2 (refine Pt.pr_run (v := ?_) (by rfl) ?_ ?_; rotate_left; (focus (intro w'; go_simp; with_reducible rfl)); simp only [Act.put, List.setIfInBounds_toArray, List.set_cons_zero, List.set_cons_succ])
          iterate 8 (refine Pt.pr_skip (by rfl) ?_; simp only [Act.put, List.setIfInBounds_toArray, List.set_cons_zero, List.set_cons_succ])
          iterate 4 (refine Pt.rd_skip (by rfl) ?_; simp only [Act.put, List.setIfInBounds_toArray, List.set_cons_zero, List.set_cons_succ])
          (refine Pt.pr_skip (by rfl) ?_; simp only [Act.put, List.setIfInBounds_toArray, List.set_cons_zero, List.set_cons_succ])
          (refine Pt.pr_run (v := ?_) (by rfl) ?_ ?_; rotate_left; (focus (intro w'; go_simp; with_reducible rfl)); simp only [Act.put, List.setIfInBounds_toArray, List.set_cons_zero, List.set_cons_succ])
          refine Pt.run_fin ?_
          clear hse
          go_wp2
          go_ret
          exact ⟨rfl, H2⟩
        | true =>
          have hke : key1 = key2 := by simpa using hbk.symm
          subst hke
          clear hbk
          iterate 10 (refine Pt.pr_run (v := ?_) (by rfl) ?_ ?_; rotate_left; (focus (intro w'; go_simp; with_reducible rfl)); simp only [Act.put, List.setIfInBounds_toArray, List.set_cons_zero, List.set_cons_succ])
          (refine Pt.rd_run (v := ?_) (by rfl) ?_ ?_; rotate_left; (focus (intro w' hS; obtain ⟨x0, x1⟩ := K1.out _ hS; go_simp; with_reducible rfl)); simp only [Act.put, List.setIfInBounds_toArray, List.set_cons_zero, List.set_cons_succ])
          (refine Pt.rd_run (v := ?_) (by rfl) ?_ ?_; rotate_left; (focus (intro w' hS; have cv := CV1.out _ hS; go_simp; with_reducible rfl)); simp only [Act.put, List.setIfInBounds_toArray, List.set_cons_zero, List.set_cons_succ])
          (refine Pt.rd_run (v := ?_) (by rfl) ?_ ?_; rotate_left; (focus (intro w' hS; obtain ⟨x0, x1⟩ := K2.out _ hS; go_simp; with_reducible rfl)); simp only [Act.put, List.setIfInBounds_toArray, List.set_cons_zero, List.set_cons_succ])
          (refine Pt.rd_run (v := ?_) (by rfl) ?_ ?_; rotate_left; (focus (intro w' hS; have cv := CV2.out _ hS; go_simp; with_reducible rfl)); simp only [Act.put, List.setIfInBounds_toArray, List.set_cons_zero, List.set_cons_succ])
          clear hse
          obtain ⟨bd, hbd⟩ : ∃ bd, bd = (PL == QL) := ⟨_, rfl⟩
          have hse2 := hbd.symm
          have HBD := Lib.hid hbd
          clear hbd
          cases bd with
          | false =>
            have hne : (key1, PL) ≠ (key1, QL) := fun h => by
              injection h with _ h
              have := HBD.out
              rw [h] at this
              simp at this
            have hRf := HNO.out hne
            subst hRf
            clear hne
            iterate 2 (refine Pt.pr_run (v := ?_) (by rfl) ?_ ?_; rotate_left; (focus (intro w'; go_simp; with_reducible rfl)); simp only [Act.put, List.setIfInBounds_toArray, List.set_cons_zero, List.set_cons_succ])
            refine Pt.run_fin ?_
            clear hse2
            go_wp2
            go_ret
            exact ⟨rfl, H2⟩
          | true =>
            iterate 2 (refine Pt.pr_run (v := ?_) (by rfl) ?_ ?_; rotate_left; (focus (intro w'; go_simp; with_reducible rfl)); simp only [Act.put, List.setIfInBounds_toArray, List.set_cons_zero, List.set_cons_succ])
            refine Pt.run_fin ?_
            clear hse2
            go_wp2
            have hde : PL = QL := by simpa using HBD.out.symm
            exact ⟨⟨k + 1, by have := HT.out.1; omega, by go_num, by rw [HT.out.2.1, HT.out.2.2.1, HT.out.2.2.2, hde], H2⟩, by have := HT.out.1; simp [intOf]; omega⟩
      · obtain rfl : k = n := by omega
        have hRt : R = true := by
          rw [HN.out.2.2]
          rw [List.take_of_length_le (by rw [List.length_map]; have := HN.out.1; omega), List.take_of_length_le (by rw [List.length_map]; have := HN.out.2.1; omega)] at hso
          exact decide_eq_true hso
        subst hRt
        clear hso
        go_wp2
        go_ret
        exact ⟨rfl, H1⟩
  · have hRf : R = false := by
      rw [hR]
      refine decide_eq_false fun he => hnm ?_
      have := congrArg List.length he
      rw [List.length_map, List.length_map] at this
      omega
    subst hRf
    have q1 : ((n : Int) == (m : Int)) = false := by simp; omega
    clear hR hn hm
    go_enter Tryz.func14, Tryz.ntmps14
    go_wp2
    go_ret
    exact ⟨rfl, H⟩
end
end Go.Proofs.YtpomjaidaignpaaGreat
