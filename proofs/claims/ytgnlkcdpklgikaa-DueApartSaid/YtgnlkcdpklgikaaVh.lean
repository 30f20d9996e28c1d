/- The reference's Same (layer 26). -/
import Derived.Test.YtgnlkcdpklgikaaVg
import Derived.Laws.StructEq
set_option linter.unusedVariables false
set_option linter.unusedSimpArgs false
namespace Go.Proofs.Ytgnlkcdpklgikaa
open Go.RowKit Wd Go.Sort
open Du (Due)
theorem neqDue (p q : Due) (w : World) : (binOp .neq 40 (.agg #[.int .u64 (p.t : Int), .int .u64 (p.s : Int), .int .i64 p.a]) (.agg #[.int .u64 (q.t : Int), .int .u64 (q.s : Int), .int .i64 q.a])).run Try.prog w = .ok (.bool (!decide (p = q))) w := by
  have hS : Try.prog.underlying 40 = some (.struct (Try.prog.fieldsOf 40)) := by kernel_rfl
  have hp : Try.prog.stoodInHeld 40 = false := by kernel_rfl
  rw [run_neq_struct, show (10000 : Nat) = 9999 + 1 from rfl, run_equalIn_agg w 9999 40 _ _ hS hp]
  simp only [Program.fieldsOf, Try.underlying40]
  go_simp
  have e : decide (p = q) = (decide (p.t = q.t) && decide (p.s = q.s) && decide (p.a = q.a)) := by
    rw [Bool.eq_iff_iff]
    simp only [decide_eq_true_eq, Bool.and_eq_true]
    exact ⟨fun h => by subst h; exact ⟨⟨rfl, rfl⟩, rfl⟩, fun h => Du.Due.ext' h.1.1 h.1.2 h.2⟩
  rw [e]
  by_cases h1 : p.t = q.t <;> by_cases h2 : p.s = q.s <;> by_cases h3 : p.a = q.a <;> simp [h1, h2, h3] <;> omega
theorem neqGuard (x y : Operand) (a b : Array Value) (w : World) : (eqGuard .neq 40 x y (.agg a) (.agg b)).run Try.prog w = .ok () w := run_eqGuard_agg w .neq 40 x y a b (by kernel_rfl)
section
variable {w0 w : World} {M : Mem} {L : List Ent}
set_option maxRecDepth 100000 in
set_option maxHeartbeats 1000000 in
theorem rsame_any (H : St w0 w M L) {A B : Option Addr} {c d n m : Nat} {ps qs : List Due} (hn : n = ps.length) (hm : m = qs.length) (hA : SrA w0 M L A (dcs ps)) (hB : SrA w0 M L B (dcs qs)) (hn2 : n ≤ 100000000) :
    Calls Try.prog 12 #[.slice A n c, .slice B m d] w fun e w' => e = .returned (.bool (decide (ps = qs))) ∧ St w0 w' M L := by
  obtain ⟨R, hR⟩ : ∃ R, R = decide (ps = qs) := ⟨_, rfl⟩
  rw [← hR]
  by_cases hnm : n = m
  · have HN := Lib.hid hn
    have HM := Lib.hid hm
    have HR := Lib.hid hR
    clear hn hm hR
    subst hnm
    go_enter Try.func12, Try.ntmps12
    go_wp2
    go_loopw [5] (fun i wr => ∃ k : Nat, k ≤ n ∧ i = .int .i64 k ∧ ps.take k = qs.take k ∧ St w0 wr M L) (fun i _ => n - (intOf i).toNat)
    case atStart => exact ⟨0, by omega, rfl, rfl, H⟩
    case round =>
      obtain ⟨k, hk, rfl, hsofar, H1⟩ := hrel
      have HS := Lib.hid hsofar
      clear H hsofar
      by_cases hlt : k < n
      · have hk1 : k < ps.length := by have := HN.out; omega
        have hk2 : k < qs.length := by have := HM.out; omega
        obtain ⟨b1, o1, rfl, -⟩ := RA.at3 (hA.now H1) k hk1
        obtain ⟨b2, o2, rfl, -⟩ := RA.at3 (hB.now H1) k hk2
        have hc1 : ∀ W, St w0 W M L → W.rangeAt b1 (o1 + k * 3) (dc ps[k]) := fun W hW => by
          obtain ⟨b, o, he, hc⟩ := RA.at3 (hA.now hW) k hk1
          injection he with he
          injection he with h1 h2
          subst h1 h2
          exact hc
        have hc2 : ∀ W, St w0 W M L → W.rangeAt b2 (o2 + k * 3) (dc qs[k]) := fun W hW => by
          obtain ⟨b, o, he, hc⟩ := RA.at3 (hB.now hW) k hk2
          injection he with he
          injection he with h1 h2
          subst h1 h2
          exact hc
        have t1 : ps.take (k + 1) = ps.take k ++ [ps[k]] := List.take_succ_eq_append_getElem hk1
        have t2 : qs.take (k + 1) = qs.take k ++ [qs[k]] := List.take_succ_eq_append_getElem hk2
        obtain ⟨p, hpe⟩ : ∃ p, p = ps[k] := ⟨_, rfl⟩
        obtain ⟨q, hqe⟩ : ∃ q, q = qs[k] := ⟨_, rfl⟩
        rw [← hpe] at hc1 t1
        rw [← hqe] at hc2 t2
        have hne := fun w => neqDue p q w
        obtain ⟨t, ht⟩ : ∃ t, t = decide (p = q) := ⟨_, rfl⟩
        rw [← ht] at hne
        have hgd := neqGuard
        have T1 := Lib.hid t1
        have T2 := Lib.hid t2
        have HT := Lib.hid ht
        have HNE := Lib.hid hne
        have HGD := Lib.hid hgd
        have HC1 := Lib.hid hc1
        have HC2 := Lib.hid hc2
        have HK := Lib.hid hlt
        have r1 : (k : Int) < (n : Int) := by omega
        have r1n : k < n := hlt
        clear t1 t2 hpe hqe ht hne hgd hc1 hc2 hk1 hk2 hlt hk
        go_upto_region 6 with fail
        refine Pt.wp_plan (fun w' => St w0 w' M L) (Pt.prs [0, 1, 2, 4, 5, 6] (Pt.rds [3, 7] (Pt.prs [8] .fin))) [] Try.mixed (by kernel_rfl) (fun _ _ d _ _ h => by cases d <;> exact h) H1.drew ?_
        have H2 := H1.drew
        simp only [Pt.toL, Pt.rds, Pt.prs, Pt.at_, List.drop_succ_cons, List.drop_zero]
        iterate 6 (refine Pt.pr_run (v := ?_) (by rfl) ?_ ?_; rotate_left; (focus (intro w'; go_simp; with_reducible rfl)); simp only [Act.put, List.setIfInBounds_toArray, List.set_cons_zero, List.set_cons_succ])
        (refine Pt.rd_load (by rfl) 40 (.tmp 19) (by rfl) b1 (o1 + k * 3) (by rfl) [.int .u64 (p.t : Int), .int .u64 (p.s : Int), .int .i64 p.a] _ (fun w' h => HC1.out w' h) Try.underlying40 rfl (by exact Try.sizeDue) ?_; simp only [Act.put, List.setIfInBounds_toArray, List.set_cons_zero, List.set_cons_succ])
        (refine Pt.rd_load (by rfl) 40 (.tmp 23) (by rfl) b2 (o2 + k * 3) (by rfl) [.int .u64 (q.t : Int), .int .u64 (q.s : Int), .int .i64 q.a] _ (fun w' h => HC2.out w' h) Try.underlying40 rfl (by exact Try.sizeDue) ?_; simp only [Act.put, List.setIfInBounds_toArray, List.set_cons_zero, List.set_cons_succ])
        have hne := HNE.out
        have hgd := HGD.out
        (refine Pt.pr_run (v := ?_) (by rfl) ?_ ?_; rotate_left; (focus (intro w'; go_simp; with_reducible rfl)); simp only [Act.put, List.setIfInBounds_toArray, List.set_cons_zero, List.set_cons_succ])
        clear hne hgd
        refine Pt.run_fin ?_
        clear H1
        cases t with
        | false =>
          have hR : R = false := by
            rw [HR.out]
            refine decide_eq_false fun he => ?_
            have h3 := congrArg (List.take (k + 1)) he
            rw [T1.out, T2.out, HS.out] at h3
            have h4 := List.append_cancel_left h3
            simp only [List.cons.injEq, and_true] at h4
            have := HT.out
            simp [h4] at this
          subst hR
          go_upto_if 25 with fail
          simp only [Bool.not_false]
          go_wp2
          go_ret
          exact ⟨rfl, H2⟩
        | true =>
          have h4 : p = q := by simpa using HT.out
          have h5 : ps.take (k + 1) = qs.take (k + 1) := by rw [T1.out, T2.out, HS.out, h4]
          have H5 := Lib.hid h5
          clear h4 h5
          go_upto_if 25 with fail
          simp only [Bool.not_true]
          go_wp2
          exact ⟨⟨k + 1, by have := HK.out; omega, by go_num, H5.out, H2⟩, by have := HK.out; simp [intOf]; omega⟩
      · obtain rfl : k = n := by omega
        have hR : R = true := by
          rw [HR.out]
          refine decide_eq_true ?_
          have h3 := HS.out
          rw [List.take_of_length_le (by rw [HN.out]; exact Nat.le_refl _), List.take_of_length_le (by rw [HM.out]; exact Nat.le_refl _)] at h3
          exact h3
        subst hR
        clear hlt
        go_wp2
        go_ret
        exact ⟨rfl, H1⟩
  · have hR2 : R = false := by
      rw [hR]
      refine decide_eq_false fun he => hnm ?_
      rw [hn, hm, he]
    subst hR2
    have q1 : ¬ (n : Int) = (m : Int) := by omega
    clear hR hn hm
    go_enter Try.func12, Try.ntmps12
    go_wp2
    go_ret
    exact ⟨rfl, H⟩
end
end Go.Proofs.Ytgnlkcdpklgikaa
