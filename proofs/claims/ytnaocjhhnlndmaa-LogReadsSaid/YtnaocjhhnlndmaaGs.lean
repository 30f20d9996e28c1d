/- The reference's Same (layer 18); the law's all. -/
import Derived.Test.YtnaocjhhnlndmaaGr
import Derived.Test.YtnaocjhhnlndmaaGk
set_option linter.unusedVariables false
set_option linter.unusedSimpArgs false
namespace Go.Proofs.Ytnaocjhhnlndmaa
open Go.RowKit Wd
section
variable {w0 w : World} {M : Mem} {L : List Ent}
set_option maxRecDepth 100000 in
theorem rsame_any (H : St w0 w M L) {A B : Option Addr} {c d n m : Nat} {ps qs : List Pc} (hn : n = ps.length) (hm : m = qs.length) (hA : SrA w0 M L A (ps.map Pc.v)) (hB : SrA w0 M L B (qs.map Pc.v)) (hp : ∀ p ∈ ps, p.ok ∧ Sr w0 M L p.A p.l) (hq : ∀ p ∈ qs, p.ok ∧ Sr w0 M L p.A p.l) (hn2 : n ≤ 100000000) :
    Calls Try.prog 12 #[.slice A n c, .slice B m d] w fun e w' => e = .returned (.bool (decide (ps.map Pc.l = qs.map Pc.l))) ∧ St w0 w' M L := by
  obtain ⟨R, hR⟩ : ∃ R, R = decide (ps.map Pc.l = qs.map Pc.l) := ⟨_, rfl⟩
  rw [← hR]
  by_cases hnm : n = m
  · have HN := Lib.hid hn
    have HM := Lib.hid hm
    have HR := Lib.hid hR
    clear hn hm hR
    subst hnm
    go_enter Try.func12, Try.ntmps12
    go_wp2
    go_loopw [5] (fun i wr => ∃ k : Nat, k ≤ n ∧ i = .int .i64 k ∧ (ps.map Pc.l).take k = (qs.map Pc.l).take k ∧ St w0 wr M L) (fun i _ => n - (intOf i).toNat)
    case atStart => exact ⟨0, by omega, rfl, rfl, H⟩
    case round =>
      obtain ⟨k, hk, rfl, hsofar, H1⟩ := hrel
      have HS := Lib.hid hsofar
      clear H hsofar
      by_cases hlt : k < n
      · have hk1 : k < ps.length := by have := HN.out; omega
        have hk2 : k < qs.length := by have := HM.out; omega
        obtain ⟨b1, o1, rfl, -⟩ := SrA.at (hA.now H1) k (by rw [List.length_map]; exact hk1)
        obtain ⟨b2, o2, rfl, -⟩ := SrA.at (hB.now H1) k (by rw [List.length_map]; exact hk2)
        have hc1 : ∀ W, St w0 W M L → W.cell? ⟨b1, o1 + k, none⟩ = some (.slice (ps[k]).A (ps[k]).n (ps[k]).c) := fun W hW => by
          obtain ⟨b, o, he, hc⟩ := SrA.at (hA.now hW) k (by rw [List.length_map]; exact hk1)
          injection he with he
          injection he with h1 h2
          subst h1 h2
          rw [List.getElem_map] at hc
          exact hc
        have hc2 : ∀ W, St w0 W M L → W.cell? ⟨b2, o2 + k, none⟩ = some (.slice (qs[k]).A (qs[k]).n (qs[k]).c) := fun W hW => by
          obtain ⟨b, o, he, hc⟩ := SrA.at (hB.now hW) k (by rw [List.length_map]; exact hk2)
          injection he with he
          injection he with h1 h2
          subst h1 h2
          rw [List.getElem_map] at hc
          exact hc
        obtain ⟨⟨x1, x2, x3⟩, x4⟩ := hp ps[k] (List.getElem_mem hk1)
        obtain ⟨⟨y1, y2, y3⟩, y4⟩ := hq qs[k] (List.getElem_mem hk2)
        have t1 : (ps.map Pc.l).take (k + 1) = (ps.map Pc.l).take k ++ [(ps[k]).l] := by
          rw [List.take_succ_eq_append_getElem (by rw [List.length_map]; exact hk1), List.getElem_map]
        have t2 : (qs.map Pc.l).take (k + 1) = (qs.map Pc.l).take k ++ [(qs[k]).l] := by
          rw [List.take_succ_eq_append_getElem (by rw [List.length_map]; exact hk2), List.getElem_map]
        obtain ⟨p, hpe⟩ : ∃ p, p = ps[k] := ⟨_, rfl⟩
        obtain ⟨q, hqe⟩ : ∃ q, q = qs[k] := ⟨_, rfl⟩
        rw [← hpe] at hc1 x1 x2 x3 x4 t1
        rw [← hqe] at hc2 y1 y2 y3 y4 t2
        obtain ⟨p1, p2, p3, p4⟩ := p
        obtain ⟨q1, q2, q3, q4⟩ := q
        simp only at hc1 hc2 x1 x2 x3 x4 y1 y2 y3 y4 t1 t2
        obtain ⟨t, ht⟩ : ∃ t, t = decide (p4 = q4) := ⟨_, rfl⟩
        have hse := list_eq p4 q4
        rw [← ht] at hse
        have X1 := Lib.hid x1
        have Y1 := Lib.hid y1
        have T1 := Lib.hid t1
        have T2 := Lib.hid t2
        have HT := Lib.hid ht
        have HSE := Lib.hid hse
        have HC1 := Lib.hid hc1
        have HC2 := Lib.hid hc2
        have HK := Lib.hid hlt
        have r1 : (k : Int) < (n : Int) := by omega
        clear x1 x2 x3 y1 y2 y3 t1 t2 hpe hqe ht hse hc1 hc2 hk1 hk2 hlt hk
        go_upto_region 6 with fail
        refine Pt.wp_plan (fun w' => St w0 w' M L) (Pt.prs [0, 1, 2, 5, 6, 7] (Pt.rds [3, 4, 8, 9] (Pt.prs [10] .fin))) [] Try.mixed (by kernel_rfl) (fun _ _ d _ _ h => by cases d <;> exact h) H1.drew ?_
        have H2 := H1.drew
        simp only [Pt.toL, Pt.rds, Pt.prs, Pt.at_, List.drop_succ_cons, List.drop_zero]
        iterate 6 (refine Pt.pr_run (v := ?_) (by rfl) ?_ ?_; rotate_left; (focus (intro w'; go_simp; with_reducible rfl)); simp only [Act.put, List.setIfInBounds_toArray, List.set_cons_zero, List.set_cons_succ])
        (refine Pt.rd_run (v := ?_) (by rfl) ?_ ?_; rotate_left; (focus (intro w' hS; have c1 := HC1.out _ hS; go_simp; with_reducible rfl)); simp only [Act.put, List.setIfInBounds_toArray, List.set_cons_zero, List.set_cons_succ])
        (refine Pt.rd_run (v := ?_) (by rfl) ?_ ?_; rotate_left; (focus (intro w' hS; have cv := conv_RB (P := Try.prog) (src := 22) (dst := 9) (n := p2) (c := p3) Try.underlying22 Try.underlying5 Try.underlying9 (x4.now hS) X1.out; go_simp; with_reducible rfl)); simp only [Act.put, List.setIfInBounds_toArray, List.set_cons_zero, List.set_cons_succ])
        (refine Pt.rd_run (v := ?_) (by rfl) ?_ ?_; rotate_left; (focus (intro w' hS; have c1 := HC2.out _ hS; go_simp; with_reducible rfl)); simp only [Act.put, List.setIfInBounds_toArray, List.set_cons_zero, List.set_cons_succ])
        (refine Pt.rd_run (v := ?_) (by rfl) ?_ ?_; rotate_left; (focus (intro w' hS; have cv := conv_RB (P := Try.prog) (src := 22) (dst := 9) (n := q2) (c := q3) Try.underlying22 Try.underlying5 Try.underlying9 (y4.now hS) Y1.out; go_simp; with_reducible rfl)); simp only [Act.put, List.setIfInBounds_toArray, List.set_cons_zero, List.set_cons_succ])
        have hse := HSE.out
        (refine Pt.pr_run (v := ?_) (by rfl) ?_ ?_; rotate_left; (focus (intro w'; go_simp; with_reducible rfl)); simp only [Act.put, List.setIfInBounds_toArray, List.set_cons_zero, List.set_cons_succ])
        clear hse
        refine Pt.run_fin ?_
        clear H1
        cases t with
        | false =>
          have hR : R = false := by
            rw [HR.out]
            refine decide_eq_false fun he => ?_
            have h3 := congrArg (List.take (k + 1)) he
            rw [T1.out, T2.out, HS.out] at h3
            have h4 := List.append_cancel_left h3
            simp only [List.cons.injEq, and_true] at h4
            have := HT.out
            simp [h4] at this
          subst hR
          go_upto_if 27 with fail
          simp only [Bool.not_false]
          go_wp2
          go_ret
          exact ⟨rfl, H2⟩
        | true =>
          have h4 : p4 = q4 := by simpa using HT.out
          have h5 : (ps.map Pc.l).take (k + 1) = (qs.map Pc.l).take (k + 1) := by rw [T1.out, T2.out, HS.out, h4]
          have H5 := Lib.hid h5
          clear h4 h5
          go_upto_if 27 with fail
          simp only [Bool.not_true]
          go_wp2
          exact ⟨⟨k + 1, by have := HK.out; omega, by go_num, H5.out, H2⟩, by have := HK.out; simp [intOf]; omega⟩
      · obtain rfl : k = n := by omega
        have hR : R = true := by
          rw [HR.out]
          refine decide_eq_true ?_
          have h3 := HS.out
          rw [List.take_of_length_le (by rw [List.length_map, HN.out]; exact Nat.le_refl _), List.take_of_length_le (by rw [List.length_map, HM.out]; exact Nat.le_refl _)] at h3
          exact h3
        subst hR
        clear hlt
        go_wp2
        go_ret
        exact ⟨rfl, H1⟩
  · have hR2 : R = false := by
      rw [hR]
      refine decide_eq_false fun he => hnm ?_
      have := congrArg List.length he
      simp at this
      omega
    subst hR2
    have q1 : ¬ (n : Int) = (m : Int) := by omega
    clear hR hn hm
    go_enter Try.func12, Try.ntmps12
    go_wp2
    go_ret
    exact ⟨rfl, H⟩
variable {g f gen en : Nat} {F : FM} {ls : List (List UInt8)}
/-- Slices of bytes of their own. -/
def RetRows (w0 : World) (M : Mem) (L : List Ent) (ls : List (List UInt8)) (e : Ending) (w' : World) : Prop :=
  ∃ v ps M', e = .returned v ∧ M.le M' ∧ Rows M' ps ls ∧ St w0 w' M' (er 22 1 v ps.length (ps.map Pc.v) :: L)
set_option maxRecDepth 100000 in
theorem all_any (H : LS w0 w M g f F gen ls en L) (h5 : ls.length ≤ 5000) (hl : ∀ l ∈ ls, l.length < 140737488355000) :
    Calls Try.prog 18 #[.pointer (some ⟨g, 0, none⟩)] w fun e w' => ∃ v ps M', e = .returned v ∧ M.le M' ∧ Rows M' ps ls ∧ LS w0 w' M' g f F gen ls en (er 22 1 v ps.length (ps.map Pc.v) :: L) := by
  obtain ⟨Z, HZ, hb0, hb1, hsr⟩ := H.out
  have H0 := hb1 _ _ _ (Mem.le.refl M) (HZ.lit00 22 1)
  obtain ⟨n, hn⟩ : ∃ n, n = ls.length := ⟨_, rfl⟩
  have HN := Lib.hid hn
  have hn5 : n ≤ 5000 := by omega
  clear hn HZ hb0 hb1 hsr h5
  go_enter Try.func18, Try.ntmps18
  go_wp2
  go_loopw [3, 4] (fun v i wr => ∃ (k : Nat) (ps : List Pc) (M' : Mem), k ≤ n ∧ i = .int .i64 k ∧ ps.length = k ∧ M.le M' ∧ Rows M' ps (ls.take k) ∧ LS w0 wr M' g f F gen ls en (er 22 1 v ps.length (ps.map Pc.v) :: L)) (fun _ i _ => n - (intOf i).toNat)
  case atStart => exact ⟨0, [], M, by omega, rfl, rfl, Mem.le.refl M, Rows.nil M, H0⟩
  case round =>
    obtain ⟨k, ps, M', hk, rfl, hpk, hM', hrow, H1⟩ := hrel
    have HROW := Lib.hid hrow
    have HPK := Lib.hid hpk
    have hlen := len_any H1
    rw [← HN.out] at hlen
    have HLEN := Lib.hid hlen
    clear hrow hpk hlen H0 H
    by_cases hlt : k < n
    · have q1 : (k : Int) < (n : Int) := by omega
      have q2 : (k : Int) < 5000 := by omega
      have hget := get_any H1 k (by rw [← HN.out]; exact hlt) hl
      obtain ⟨b1, hb1⟩ : ∃ b, b = ls[k]'(by rw [← HN.out]; exact hlt) := ⟨_, rfl⟩
      rw [← hb1] at hget
      have htk : ls.take (k + 1) = ls.take k ++ [b1] := by rw [List.take_succ_eq_append_getElem (by rw [← HN.out]; exact hlt), hb1]
      obtain ⟨m, hm⟩ : ∃ m, m = b1.length := ⟨_, rfl⟩
      rw [← hm] at hget
      have HGET := Lib.hid hget
      have HTK := Lib.hid htk
      have HM := Lib.hid hm
      have HLT := Lib.hid hlt
      clear hget hb1 htk hm hlt
      go_wp2_with fail
      refine HLEN.out.mono ?_
      rintro e w1 ⟨rfl, rfl⟩
      go_wp2_with fail
      refine HGET.out.mono ?_
      rintro e w2 ⟨v2, rfl, H2⟩
      obtain ⟨v0, ps0, hr0, ok, lb, pv, H3⟩ := H2
      have H4 := St.f5 H3
      obtain ⟨A2, c2, rfl, hc2, hA2⟩ := H4.shape' 0 rfl
      obtain ⟨M2, hM2, H5, hin⟩ := H4.keepRow
      have hrow2 := (HROW.out.le hM2).snoc (p := ⟨A2, m, c2, b1⟩) ⟨HM.out, hA2, hc2⟩ hin
      have hpl : ps.length ≤ 5000 := by have := HPK.out; omega
      have HPL := Lib.hid hpl
      have HR2 := Lib.hid hrow2
      have HR0 := Lib.hid hr0
      have H6 := St.f5 H5
      clear hpl hrow2 hin hr0 H3 H4 H5 H1 HGET
      go_wp2_with (at_builtin; refine wpList_append1_st H6 (by rfl) (.tmp 26) (.tmp 28) 27 (by rfl) Try.info22 (by rfl) Try.underlying27 (by rfl) (by rfl) (by rfl) (by have := HPL.out; omega) (by have := HPL.out; omega) ?_)
      intro v6 w6 H7
      have H8 : LS w0 w6 M2 g f F gen ls en (er 22 1 v6 (ps ++ [(⟨A2, m, c2, b1⟩ : Pc)]).length ((ps ++ [(⟨A2, m, c2, b1⟩ : Pc)]).map Pc.v) :: L) :=
        ⟨v0, ps0, HR0.out.le hM2, ok, lb, pv, by rw [List.length_append, List.map_append]; exact H7.f5.f5.f5.f5.f5⟩
      clear H6 H7
      go_wp2
      refine ⟨⟨k + 1, _, M2, by have := HLT.out; omega, by go_num, ?_, hM'.trans hM2, ?_, H8⟩, by have := HLT.out; simp [intOf]; omega⟩
      · rw [List.length_append, HPK.out]; rfl
      · rw [HTK.out]; exact HR2.out
    · obtain rfl : k = n := by omega
      have q1 : ¬ (k : Int) < (k : Int) := by omega
      clear hlt
      go_wp2_with fail
      refine HLEN.out.mono ?_
      rintro e w1 ⟨rfl, rfl⟩
      go_wp2
      go_ret
      refine ⟨_, ps, M', rfl, hM', ?_, H1⟩
      have := HROW.out
      rwa [HN.out, List.take_length] at this
end
end Go.Proofs.Ytnaocjhhnlndmaa
