/- The reference's Records (layer 18). -/
import Derived.Test.YtnaocjhhnlndmaaGq
set_option linter.unusedVariables false
set_option linter.unusedSimpArgs false
namespace Go.Proofs.Ytnaocjhhnlndmaa
open Go.RowKit Wd
section
variable {w0 w : World} {M : Mem} {L : List Ent}
set_option maxRecDepth 100000 in
set_option maxHeartbeats 1000000 in
theorem rrecords_any (H : St w0 w M L) (g : Nat) (hg : g < 18446744073709551616) {A : Option Addr} {c n : Nat} {h : List UInt8} (hn : n = h.length) (hl : Sr w0 M L A h) (hA : A = none → c = 0) (hc : n ≤ c) (hc2 : c ≤ 9223372036854775807) (hn2 : n ≤ 1000000) :
    Calls Try.prog 11 #[.slice A n c, .int .u64 (g : Int)] w fun e w' => RetScan w0 M L (Lg.records g h).1 (Lg.records g h).2 e w' := by
  obtain ⟨R1, hR1⟩ : ∃ R, R = (Lg.records g h).1 := ⟨_, rfl⟩
  obtain ⟨R2, hR2⟩ : ∃ R, R = (Lg.records g h).2 := ⟨_, rfl⟩
  rw [← hR1, ← hR2]
  have HR1 := Lib.hid hR1
  have HR2 := Lib.hid hR2
  have HN := Lib.hid hn
  have H0 := H.lit00 22 1
  clear hR1 hR2 hn
  go_enter Try.func11, Try.ntmps11
  go_wp2
  go_loopw [6, 7, 8] (fun v i j wr => ∃ (e k : Nat) (ps : List Pc) (ls : List (List UInt8)) (M' : Mem), i = .int .i64 e ∧ j = .int .i64 k ∧ k ≤ e ∧ M.le M' ∧ Rows M' ps ls ∧ ps.length ≤ e ∧ Lg.sofar g h ls e ∧ St w0 wr M' (er 22 1 v ps.length (ps.map Pc.v) :: L)) (fun _ i _ _ => n - (intOf i).toNat)
  case atStart => exact ⟨0, 0, [], [], M, rfl, rfl, Nat.le_refl _, Mem.le.refl M, Rows.nil M, Nat.zero_le _, Lg.sofar_start g h, H0⟩
  case round =>
    obtain ⟨e, k, ps, ls, M', rfl, rfl, hke, hM', hrow, hps, hso, H1⟩ := hrel
    clear H0 H
    have he := hso.1
    rw [← HN.out] at he
    have qk : (k : Int) ≤ (n : Int) := by omega
    have qkn : k ≤ n := by omega
    have HKE := Lib.hid hke
    clear hke
    by_cases hlt : e + 6 ≤ n
    · obtain ⟨bb, bo, rfl, hbb, hbo⟩ := (hl.le hM').now H1.d0 (by rintro rfl; have := HN.out; simp at this; omega)
      obtain ⟨m, hm⟩ : ∃ m, m = Lg.num ((h.drop e).take 2) := ⟨_, rfl⟩
      have s2 : Sr w0 M' L (some ⟨bb, bo + e, none⟩) ((h.drop e).take 2) := (hl.le hM').sub _ _
      have l2 : ((h.drop e).take 2).length = 2 := by rw [List.length_take, List.length_drop, ← HN.out]; omega
      have hm2 : m < 65536 := by rw [hm]; have := Lg.num_lt ((h.drop e).take 2); rw [l2] at this; exact this
      have hv := fun c' => rnumber_any (c := c') (s2.now H1.d0) (by rw [l2]; omega)
      rw [← hm, l2] at hv
      have HV := Lib.hid hv
      have HM := Lib.hid hm
      have HSO := Lib.hid hso
      have HRW := Lib.hid hrow
      have HPS := Lib.hid hps
      obtain ⟨o6, ho6⟩ : ∃ o6 : Nat, o6 = e + 6 := ⟨_, rfl⟩
      obtain ⟨o7, ho7⟩ : ∃ o7 : Nat, o7 = e + 6 + m := ⟨_, rfl⟩
      have q8 : (e : Int) + 6 = (o6 : Int) := by omega
      have q9 : (o6 : Int) + (m : Int) = (o7 : Int) := by omega
      have q1 : ¬ (n : Int) < (o6 : Int) := by omega
      have q1n : ¬ n < o6 := by omega
      have q2 : (n : Int) ≤ 1000000 := by omega
      have q3 : (c : Int) ≤ 9223372036854775807 := by omega
      have qe2 : e + 2 ≤ n := by omega
      have O6 := Lib.hid ho6
      have O7 := Lib.hid ho7
      have q11b : o7 ≤ 2000000 := by omega
      clear hm hv l2 s2 hso hrow hps ho6 ho7 hbb hbo
      go_upto_region 8 with fail
      go_wp2_with fail
      refine (HV.out _).mono ?_
      rintro x w1 ⟨rfl, rfl⟩
      have stop : Lg.there g h e = none → R2 = e ∧ R1 = ls := fun hno => by
        have hr := Lg.sofar_stop HSO.out hno
        exact ⟨by rw [HR2.out, hr], by rw [HR1.out, hr]⟩
      by_cases h1 : 1 ≤ m ∧ o7 ≤ n
      · obtain ⟨h1, h2⟩ := h1
        have ho6 := O6.out
        have ho7 := O7.out
        have q4 : ¬ (m : Int) = 0 := by omega
        have q6 : ¬ (n : Int) < (o7 : Int) := by omega
        have q6n : ¬ n < o7 := by omega
        have q10 : o7 - o6 = m := by omega
        have q11 : o7 ≤ n := by omega
        have q12 : o6 ≤ o7 := by omega
        have q13 : e ≤ o7 := by omega
        have q14 : o7 - e = m + 6 := by omega
        obtain ⟨b1, hb1⟩ : ∃ b1, b1 = (h.drop (e + 6)).take m := ⟨_, rfl⟩
        have hb1l : b1.length = m := by rw [hb1, List.length_take, List.length_drop, ← HN.out]; omega
        have sb : Sr w0 M' L (some ⟨bb, bo + o6, none⟩) b1 := by rw [hb1, ho6]; exact (hl.le hM').sub _ _
        obtain ⟨E, hE⟩ : ∃ E, E = (h.drop e).take (6 + m) := ⟨_, rfl⟩
        have hEl : E.length = m + 6 := by rw [hE, List.length_take, List.length_drop, ← HN.out]; omega
        have sE : Sr w0 M' L (some ⟨bb, bo + e, none⟩) E := by rw [hE]; exact (hl.le hM').sub _ _
        obtain ⟨D, hD⟩ : ∃ D, D = Lg.record g e b1 := ⟨_, rfl⟩
        have hDl : D.length = m + 6 := by rw [hD, Lg.record_len, hb1l]
        obtain ⟨t, ht⟩ : ∃ t, t = decide (D = E) := ⟨_, rfl⟩
        have hse := list_eq D E
        rw [← ht] at hse
        have hrec := fun (W : World) (HW : St w0 W M' (er 22 1 u6 ps.length (ps.map Pc.v) :: L)) d (hd : m ≤ d) => rrecord_any HW g e hg (by omega) (B := some ⟨bb, bo + o6, none⟩) (d := d) hb1l.symm (by rintro ⟨⟩) hd (sb.cons _) (by omega)
        rw [← hD] at hrec
        have hth : if t = true then Lg.there g h e = some m else Lg.there g h e = none := by
          have hgd : Lg.good g h e m ↔ D = E := by rw [hD, hE, hb1]; exact Iff.rfl
          cases t with
          | true => exact Lg.there_yes (by rw [← HN.out]; omega) HM.out h1 (by rw [← HN.out]; omega) (hgd.2 (by simpa using ht.symm))
          | false => exact Lg.there_no HM.out fun h3 => by have := hgd.1 h3.2.2.2; simp [this] at ht
        have HTH := Lib.hid hth
        have HREC := Lib.hid hrec
        have HSE := Lib.hid hse
        have HB1 := Lib.hid hb1
        have HBL := Lib.hid hb1l
        have HEL := Lib.hid hEl
        have HDL := Lib.hid hDl
        have HLT := Lib.hid hlt
        have STOP := Lib.hid stop
        have Q1 := Lib.hid q1
        clear hb1 hb1l hE hEl hD hDl ht hse hrec hth HV hlt stop h2 h1 ho6 ho7 qkn q1 q1n qe2
        obtain ⟨s6, hs6⟩ : ∃ s6, s6 = m + 6 := ⟨_, rfl⟩
        rw [← hs6] at q14 HEL HDL HREC
        have S6 := Lib.hid hs6
        have hmc : m ≤ c - o6 := by omega
        have hml : m ≤ 1000000 := by omega
        have HML := Lib.hid hml
        clear hml
        have hce : ¬ c = e := by have := HLT.out; omega
        have hce2 : ¬ c = o6 := by omega
        have hco : (o7 : Int) ≤ (c : Int) := by omega
        have w6 : IntKind.i64.wrap (o6 : Int) = (o6 : Int) := by rw [IntKind.wrap_i64]; omega
        have w7 : IntKind.i64.wrap (o7 : Int) = (o7 : Int) := by rw [IntKind.wrap_i64]; omega
        clear hs6 he hm2
        go_wp2
        refine Pt.wp_plan (fun w' => St w0 w' M' (er 22 1 u6 ps.length (ps.map Pc.v) :: L)) (Pt.prs [0, 1, 2, 5, 6, 7, 8, 9, 10, 11] (Pt.rds [12] (.go 3 (Pt.rds [4] (Pt.prs [13] .fin))))) [] Try.mixed (by kernel_rfl) (fun _ _ d _ _ h => by cases d <;> exact h) H1.drew ?_
        have H2 := H1.drew
        simp only [Pt.toL, Pt.rds, Pt.prs, Pt.at_, List.drop_succ_cons, List.drop_zero]
        iterate 10 (refine Pt.pr_run (v := ?_) (by rfl) ?_ ?_; rotate_left; (focus (intro w'; go_simp; with_reducible rfl)); simp only [Act.put, List.setIfInBounds_toArray, List.set_cons_zero, List.set_cons_succ])
        (refine Pt.rd_run (v := ?_) (by rfl) ?_ ?_; rotate_left; (focus (intro w' hS; have cv := fun c'' => conv_RB (P := Try.prog) (src := 22) (dst := 9) (n := s6) (c := c'') Try.underlying22 Try.underlying5 Try.underlying9 ((sE.cons _).now hS) HEL.out.symm; go_simp; with_reducible rfl)); simp only [Act.put, List.setIfInBounds_toArray, List.set_cons_zero, List.set_cons_succ])
        refine Pt.run_go ?_
        go_wp2_with fail
        refine (HREC.out _ H2 _ hmc).mono ?_
        rintro x w3 ⟨v3, rfl, H3⟩
        obtain ⟨A3, c3, rfl, hc3, hA3⟩ := H3.shape' 0 rfl
        go_wp2_with fail
        refine Pt.more (fun w' => St w0 w' M' (er 5 1 (.slice A3 s6 c3) s6 (bv D) :: er 22 1 u6 ps.length (ps.map Pc.v) :: L)) H3.d0 H3 ?_
        (refine Pt.rd_run (v := ?_) (by rfl) ?_ ?_; rotate_left; (focus (intro w' hS; have cv := conv_RB (P := Try.prog) (src := 22) (dst := 9) (n := s6) (c := c3) Try.underlying22 Try.underlying5 Try.underlying9 (er_RB (hS.2.get 0 rfl)) HDL.out.symm; go_simp; with_reducible rfl)); simp only [Act.put, List.setIfInBounds_toArray, List.set_cons_zero, List.set_cons_succ])
        have hse := HSE.out
        (refine Pt.pr_run (v := ?_) (by rfl) ?_ ?_; rotate_left; (focus (intro w'; go_simp; with_reducible rfl)); simp only [Act.put, List.setIfInBounds_toArray, List.set_cons_zero, List.set_cons_succ])
        clear hse
        refine Pt.run_fin ?_
        have H4 := H3.d0
        have Q11 := Lib.hid q11
        have Q9 := Lib.hid q9
        have Q8 := Lib.hid q8
        clear H1 H2 H3 q4 q6 q6n q10 q11 q12 q13 q14 hce hce2 w6 w7
        cases t with
        | false =>
          obtain ⟨e1, e2⟩ := STOP.out (by simpa using HTH.out)
          have E1 := Lib.hid e1
          have E2 := Lib.hid e2
          clear e1 e2
          go_upto_if 66 with fail
          simp only [Bool.not_false]
          go_wp2
          go_ret2
          exact RetScan.mk E1.out E2.out hM' HRW.out H4
        | true =>
          have hth : Lg.there g h e = some m := by simpa using HTH.out
          have hso := Lg.sofar_step HSO.out hth
          rw [← O7.out, ← HB1.out] at hso
          have HS2 := Lib.hid hso
          clear hso hth
          go_upto_if 66 with fail
          simp only [Bool.not_true]
          have H5 := H4.lit0 5
          have r5 : RB _ (some ⟨bb, bo + o6, none⟩) b1 := ((sb.cons _).cons _).now H5
          go_wp2_with (at_builtin; refine wpList_append_st H5 (by rfl) (.tmp 70) (.tmp 71) 22 (by rfl) Try.info5 Try.underlying22 (by rfl) (some ⟨bb, bo + o6, none⟩) m (c - o6) b1 (by rfl) HBL.out.symm (by rintro ⟨⟩) r5 (by have := HML.out; omega) ?_)
          intro v5 w5 H6
          obtain ⟨A5, c5, rfl, hc5, hA5⟩ := H6.shape' 0 rfl
          have hn1 : ps.length < 1000000 := by have := HPS.out; have := HLT.out; omega
          have HN1 := Lib.hid hn1
          have HA5 := Lib.hid hA5
          have HC5 := Lib.hid hc5
          clear hn1 hA5 hc5 hmc hco hc3 hA3 hA r5 H5
          go_wp2_with (at_builtin; refine wpList_append1_st H6.f1 (by rfl) (.tmp 69) (.tmp 73) 27 (by rfl) Try.info22 (by rfl) Try.underlying27 (by rfl) (by rfl) (by rfl) (by have := HN1.out; omega) (by have := HN1.out; omega) ?_)
          intro v6 w6 H7
          obtain ⟨M2, hM2, H8, hin⟩ := H7.f1.keepRow
          have hrow := (HRW.out.le hM2).snoc (p := ⟨A5, m, c5, b1⟩) ⟨HBL.out.symm, HA5.out, HC5.out⟩ hin
          have H9 : St w0 w6 M2 (er 22 1 v6 (ps ++ [(⟨A5, m, c5, b1⟩ : Pc)]).length ((ps ++ [(⟨A5, m, c5, b1⟩ : Pc)]).map Pc.v) :: L) := by
            rw [List.length_append, List.map_append]; exact H8
          have HH := Lib.hid hrow
          have q8 := Q8.out
          have q9 := Q9.out
          clear H4 H6 H7 H8 hrow hin
          go_wp2
          refine ⟨⟨o7, k + 1, _, _, M2, rfl, by go_num, ?_, hM'.trans hM2, HH.out, ?_, HS2.out, H9⟩, ?_⟩
          · have := HKE.out; have := O7.out; omega
          · have := O7.out; have := HPS.out; rw [List.length_append]; simp; omega
          · have := Q11.out; have := O7.out; simp [intOf]; omega
      · have hno : Lg.there g h e = none := Lg.there_no HM.out fun h3 => h1 ⟨h3.2.1, by have := h3.2.2.1; have := O7.out; have := HN.out; omega⟩
        obtain ⟨e1, e2⟩ := stop hno
        have E1 := Lib.hid e1
        have E2 := Lib.hid e2
        have hx : (m : Int) = 0 ∨ (¬ (m : Int) = 0 ∧ (n : Int) < (o7 : Int) ∧ n < o7) := by have := O7.out; omega
        clear e1 e2 hno h1 stop
        rcases hx with q4 | ⟨q4, q6, q6n⟩
        · obtain rfl : m = 0 := by omega
          clear q4
          go_wp2
          go_ret2
          exact RetScan.mk E1.out E2.out hM' HRW.out H1
        · go_wp2
          go_ret2
          exact RetScan.mk E1.out E2.out hM' HRW.out H1
    · have hno : Lg.there g h e = none := Lg.there_no rfl fun h => hlt (by have := h.1; rw [← HN.out] at this; omega)
      have hr := Lg.sofar_stop hso hno
      have e1 : R2 = e := by rw [HR2.out, hr]
      have e2 : R1 = ls := by rw [HR1.out, hr]
      have E1 := Lib.hid e1
      have E2 := Lib.hid e2
      have q1 : (n : Int) < (e : Int) + 6 := by omega
      clear hr e1 e2 hno hlt hso
      go_wp2
      go_ret2
      exact RetScan.mk E1.out E2.out hM' hrow H1
end
end Go.Proofs.Ytnaocjhhnlndmaa
