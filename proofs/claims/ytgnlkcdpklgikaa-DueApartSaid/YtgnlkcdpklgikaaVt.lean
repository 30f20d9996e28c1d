/- The reference's in and Done. -/
import Derived.Test.YtgnlkcdpklgikaaVs
set_option linter.unusedVariables false
set_option linter.unusedSimpArgs false
namespace Go.Proofs.Ytgnlkcdpklgikaa
open Go.RowKit Wd Go.Sort
open Du (Due)
def RetRDone (w0 : World) (M : Mem) (L : List Ent) (l ps : List Due) (now gap : Int) (e : Ending) (w' : World) : Prop :=
  (∃ v, Du.May l ∧ Du.time now ∧ 1 ≤ gap ∧ gap ≤ 1048576 ∧ e = .returned (.tuple #[v, .bool true]) ∧ St w0 w' M (er 40 3 v l.length (dcs (Du.done now gap ps l)) :: L)) ∨
    (¬ (Du.May l ∧ Du.time now ∧ 1 ≤ gap ∧ gap ≤ 1048576) ∧ e = .returned (.tuple #[.slice none 0 0, .bool false]) ∧ St w0 w' M L)
section
variable {w0 w : World} {M : Mem} {L : List Ent}
set_option maxRecDepth 100000 in
set_option maxHeartbeats 1000000 in
theorem in_any (H : St w0 w M L) {B : Option Addr} {d m : Nat} {ps : List Due} (hm : m = ps.length) (hm2 : m ≤ 1000000) (hps : SrA w0 M L B (dcs ps)) (y : Due) :
    Calls Try.prog 35 #[.slice B m d, dv y] w fun e w' => e = .returned (.bool (Du.hit ps y)) ∧ St w0 w' M L := by
  obtain ⟨R, hR⟩ : ∃ R, R = Du.hit ps y := ⟨_, rfl⟩
  rw [← hR]
  have H1 := H.new (dc y) 40
  have HR := Lib.hid hR
  have HM := Lib.hid hm
  unfold dc at H1
  clear hR hm H
  unfold dv
  go_enter Try.func35, Try.ntmps35
  go_wp2
  go_loopw [5] (fun i wr => ∃ j : Nat, j ≤ m ∧ i = .int .i64 j ∧ (∀ x ∈ ps.take j, Du.like y x = false) ∧ St w0 wr M (eb w.heap.size 40 [.int .u64 (y.t : Int), .int .u64 (y.s : Int), .int .i64 y.a] :: L)) (fun i _ => m - (intOf i).toNat)
  case atStart => exact ⟨0, by omega, rfl, by simp, H1⟩
  case round =>
    obtain ⟨j, hj, rfl, hs, H2⟩ := hrel
    clear H1
    have HS := Lib.hid hs
    clear hs
    by_cases hlt : j < m
    · have hj1 : j < ps.length := by have := HM.out; omega
      obtain ⟨b, o, rfl, -⟩ := RA.at3 (hps.now H2.d0) j hj1
      have hrg := hps.at3 j hj1
      have hta : ps.take (j + 1) = ps.take j ++ [ps[j]] := List.take_succ_eq_append_getElem hj1
      have hyes : Du.like y ps[j] = true → R = true := fun h => by rw [HR.out]; unfold Du.hit; rw [List.any_eq_true]; exact ⟨ps[j], List.getElem_mem hj1, h⟩
      obtain ⟨z, hz⟩ : ∃ z, z = ps[j] := ⟨_, rfl⟩
      rw [← hz] at hrg hta hyes
      have hnoo : Du.like y z = false → ∀ x ∈ ps.take (j + 1), Du.like y x = false := fun h x hx => by
        rw [hta] at hx
        rcases List.mem_append.1 hx with hx | hx
        · exact HS.out x hx
        · simp only [List.mem_singleton] at hx
          subst hx
          exact h
      have HRG := Lib.hid hrg
      have HYES := Lib.hid hyes
      have HNO := Lib.hid hnoo
      have HLT := Lib.hid hlt
      have r1 : (j : Int) < (m : Int) := by omega
      have wj : IntKind.i64.wrap (j : Int) = (j : Int) := by rw [IntKind.wrap_i64]; omega
      clear hz hrg hta hyes hnoo hj1 hlt
      go_upto_region 4 with fail
      refine Pt.wp_plan (fun w' => St w0 w' M (eb w.heap.size 40 [.int .u64 (y.t : Int), .int .u64 (y.s : Int), .int .i64 y.a] :: L)) (Pt.prs [0, 1, 2, 3, 5] (Pt.rds [4, 6] (Pt.prs [7, 8, 9, 10, 11, 12, 14] (Pt.rds [13, 15] (Pt.prs [16, 17] .fin))))) [] Try.mixed (by kernel_rfl) (fun _ _ d _ _ h => by cases d <;> exact h) H2.drew ?_
      have H3 := H2.drew
      simp only [Pt.toL, Pt.rds, Pt.prs, Pt.at_, List.drop_succ_cons, List.drop_zero]
      iterate 5 (refine Pt.pr_run (v := ?_) (by rfl) ?_ ?_; rotate_left; (focus (intro w'; go_simp; with_reducible rfl)); simp only [Act.put, List.setIfInBounds_toArray, List.set_cons_zero, List.set_cons_succ])
      (refine Pt.rd_run (v := ?_) (by rfl) ?_ ?_; rotate_left; (focus (intro w' hS; have c := HRG.out w' hS.d0 0 _ rfl; rw [Nat.add_zero] at c; go_simp; with_reducible rfl)); simp only [Act.put, List.setIfInBounds_toArray, List.set_cons_zero, List.set_cons_succ])
      (refine Pt.rd_run (v := ?_) (by rfl) ?_ ?_; rotate_left; (focus (intro w' hS; have c := hS.cell 0 rfl 0; go_simp; with_reducible rfl)); simp only [Act.put, List.setIfInBounds_toArray, List.set_cons_zero, List.set_cons_succ])
      clear H2
      by_cases h1 : z.t = y.t
      · have q : ((z.t : Int) == (y.t : Int)) = true := by rw [h1]; simp
        have H1T := Lib.hid h1
        clear h1
        iterate 7 (refine Pt.pr_run (v := ?_) (by rfl) ?_ ?_; rotate_left; (focus (intro w'; go_simp; with_reducible rfl)); simp only [Act.put, List.setIfInBounds_toArray, List.set_cons_zero, List.set_cons_succ])
        (refine Pt.rd_run (v := ?_) (by rfl) ?_ ?_; rotate_left; (focus (intro w' hS; have c := HRG.out w' hS.d0 1 _ rfl; go_simp; with_reducible rfl)); simp only [Act.put, List.setIfInBounds_toArray, List.set_cons_zero, List.set_cons_succ])
        (refine Pt.rd_run (v := ?_) (by rfl) ?_ ?_; rotate_left; (focus (intro w' hS; have c := hS.cell 0 rfl 1; go_simp; with_reducible rfl)); simp only [Act.put, List.setIfInBounds_toArray, List.set_cons_zero, List.set_cons_succ])
        by_cases h2 : z.s = y.s
        · have q' : ((z.s : Int) == (y.s : Int)) = true := by rw [h2]; simp
          have hRt := HYES.out (by unfold Du.like; exact decide_eq_true ⟨H1T.out, h2⟩)
          subst hRt
          clear h2
          iterate 2 (refine Pt.pr_run (v := ?_) (by rfl) ?_ ?_; rotate_left; (focus (intro w'; go_simp; with_reducible rfl)); simp only [Act.put, List.setIfInBounds_toArray, List.set_cons_zero, List.set_cons_succ])
          refine Pt.run_fin ?_
          go_wp2
          go_ret
          exact ⟨rfl, H3.d0⟩
        · have q' : ((z.s : Int) == (y.s : Int)) = false := by simp; omega
          have hno := HNO.out (by unfold Du.like; exact decide_eq_false fun h => h2 h.2)
          have HNO2 := Lib.hid hno
          clear h2 hno
          iterate 2 (refine Pt.pr_run (v := ?_) (by rfl) ?_ ?_; rotate_left; (focus (intro w'; go_simp; with_reducible rfl)); simp only [Act.put, List.setIfInBounds_toArray, List.set_cons_zero, List.set_cons_succ])
          refine Pt.run_fin ?_
          go_wp2
          exact ⟨⟨j + 1, by have := HLT.out; omega, by go_num, HNO2.out, H3⟩, by have := HLT.out; simp [intOf]; omega⟩
      · have q : ((z.t : Int) == (y.t : Int)) = false := by simp; omega
        have hno := HNO.out (by unfold Du.like; exact decide_eq_false fun h => h1 h.1)
        have HNO2 := Lib.hid hno
        clear h1 hno
        iterate 2 (refine Pt.pr_run (v := ?_) (by rfl) ?_ ?_; rotate_left; (focus (intro w'; go_simp; with_reducible rfl)); simp only [Act.put, List.setIfInBounds_toArray, List.set_cons_zero, List.set_cons_succ])
        iterate 5 (refine Pt.pr_skip (by rfl) ?_; simp only [Act.put, List.setIfInBounds_toArray, List.set_cons_zero, List.set_cons_succ])
        iterate 2 (refine Pt.rd_skip (by rfl) ?_; simp only [Act.put, List.setIfInBounds_toArray, List.set_cons_zero, List.set_cons_succ])
        (refine Pt.pr_skip (by rfl) ?_; simp only [Act.put, List.setIfInBounds_toArray, List.set_cons_zero, List.set_cons_succ])
        (refine Pt.pr_run (v := ?_) (by rfl) ?_ ?_; rotate_left; (focus (intro w'; go_simp; with_reducible rfl)); simp only [Act.put, List.setIfInBounds_toArray, List.set_cons_zero, List.set_cons_succ])
        refine Pt.run_fin ?_
        go_wp2
        exact ⟨⟨j + 1, by have := HLT.out; omega, by go_num, HNO2.out, H3⟩, by have := HLT.out; simp [intOf]; omega⟩
    · obtain rfl : j = m := by omega
      have hRf : R = false := by
        rw [HR.out]
        unfold Du.hit
        rw [List.any_eq_false]
        intro x hx
        have := HS.out x (by rw [HM.out, List.take_length]; exact hx)
        rw [this]
        simp
      subst hRf
      clear hlt
      go_wp2
      go_ret
      exact ⟨rfl, H2.d0⟩
set_option maxRecDepth 100000 in
set_option maxHeartbeats 2000000 in
theorem rdone_any (H : St w0 w M L) {A B : Option Addr} {c n d m : Nat} {l ps : List Due} (hn : n = l.length) (hn2 : n ≤ 1000000) (hl : SrA w0 M L A (dcs l)) (hm : m = ps.length) (hm2 : m ≤ 1000000) (hps : SrA w0 M L B (dcs ps)) (now gap : Int) :
    Calls Try.prog 14 #[.slice A n c, .slice B m d, .int .i64 now, .int .i64 gap] w (RetRDone w0 M L l ps now gap) := by
  have hmay := rmay_any (c := c) H hn hn2 hl
  have HMAYC := Lib.hid hmay
  have HN := Lib.hid hn
  have HM := Lib.hid hm
  clear hmay hn hm
  go_enter Try.func14, Try.ntmps14
  go_wp2_with fail
  refine HMAYC.out.mono ?_
  rintro e w1 ⟨bm, rfl, hbm, H2⟩
  cases bm with
  | false =>
    have hno : ¬ Du.May l := fun h => by have := hbm.2 h; cases this
    have HNO := Lib.hid hno
    clear hbm hno
    go_wp2
    go_ret2
    exact .inr ⟨fun h => HNO.out h.1, rfl, H2⟩
  | true =>
    have hmay := hbm.1 rfl
    have HMAY := Lib.hid hmay
    clear hmay hbm
    have htc := rtime_any now w1
    by_cases ht : Du.time now
    · rw [decide_eq_true ht] at htc
      have HT := Lib.hid ht
      clear ht
      go_wp2_with fail
      refine htc.mono ?_
      rintro e w2 ⟨rfl, rfl⟩
      by_cases hk : 1 ≤ gap ∧ gap ≤ 1048576
      · obtain ⟨k1, k2⟩ := hk
        have q1 : ¬ gap < 1 := by omega
        have q2 : ¬ (1048576 : Int) < gap := by omega
        have hg : IntKind.i64.wrap (now + gap) = now + gap := by rw [IntKind.wrap_i64]; have := HT.out; unfold Du.time at this; omega
        have H6 := H2.lit00 40 3
        clear HMAYC H
        go_wp2
        go_loopw [10, 11] (fun o i wr => ∃ k : Nat, k ≤ n ∧ i = .int .i64 k ∧ St w0 wr M (er 40 3 o k (dcs ((l.take k).map (Du.fwd now gap ps))) :: L)) (fun _ i _ => n - (intOf i).toNat)
        case atStart => exact ⟨0, by omega, rfl, H6⟩
        case round =>
          obtain ⟨k, hk, rfl, H4⟩ := hrel
          clear H6 H2
          obtain ⟨A2, c2, rfl, hc2⟩ := H4.shape 0 rfl
          by_cases hlt : k < n
          · have hk1 : k < l.length := by have := HN.out; omega
            obtain ⟨b, o, rfl, hrg⟩ := RA.at3 (hl.now H4.d0) k hk1
            have hst : (l.take (k + 1)).map (Du.fwd now gap ps) = (l.take k).map (Du.fwd now gap ps) ++ [Du.fwd now gap ps l[k]] := by rw [List.take_succ_eq_append_getElem hk1, List.map_append]; rfl
            have hfw : Du.fwd now gap ps l[k] = if Du.hit ps l[k] then ⟨l[k].t, l[k].s, min 1099511627776 (now + gap)⟩ else l[k] := rfl
            obtain ⟨y, hy⟩ : ∃ y, y = l[k] := ⟨_, rfl⟩
            rw [← hy] at hrg hst hfw
            obtain ⟨X, hXe⟩ : ∃ X, X = (l.take k).map (Du.fwd now gap ps) := ⟨_, rfl⟩
            rw [← hXe] at hst H4
            have H5 := H4.new (dc y) 40
            have hin := in_any (d := d) H5 HM.out hm2 ((hps.cons _).cons _) y
            obtain ⟨V, hV⟩ : ∃ V, V = Du.hit ps y := ⟨_, rfl⟩
            rw [← hV] at hin hfw
            unfold dc at H5 hrg
            unfold dc dv at hin
            have HIN := Lib.hid hin
            have HRG := Lib.hid hrg
            have HLT := Lib.hid hlt
            have r1 : (k : Int) < (n : Int) := by omega
            have wk : IntKind.i64.wrap (k : Int) = (k : Int) := by rw [IntKind.wrap_i64]; omega
            clear hy hrg hin hk1 hlt hV H4 hXe
            go_wp2_with (refine wpList_load_mid (by rfl) 40 (.tmp 38) (by rfl) b (o + k * 3) (by rfl) [.int .u64 (y.t : Int), .int .u64 (y.s : Int), .int .i64 y.a] _ HRG.out Try.underlying40 rfl (by exact Try.sizeDue) ?_)
            go_wp2_with fail
            refine HIN.out.mono ?_
            rintro e w4 ⟨rfl, HZ⟩
            cases V with
            | false =>
              rw [hfw, if_neg (by simp)] at hst
              have HST := Lib.hid hst
              clear hst hfw H5
              have rg := (HZ.blk 0 rfl).range 0 3 [.int .u64 (y.t : Int), .int .u64 (y.s : Int), .int .i64 y.a] rfl
              have RG := Lib.hid rg
              have HZ2 := HZ.newg [.int .u64 (y.t : Int), .int .u64 (y.s : Int), .int .i64 y.a] 40 (g := w4.heap.size) (by simp)
              have ra := (HZ2.blk 0 rfl).ra 0 3 [.int .u64 (y.t : Int), .int .u64 (y.s : Int), .int .i64 y.a] rfl
              have RA1 := Lib.hid ra
              clear rg ra
              go_wp2_with first
                | (refine wpList_load_mid (by rfl) 40 (.tmp 12) (by rfl) wr.heap.size 0 (by rfl) [.int .u64 (y.t : Int), .int .u64 (y.s : Int), .int .i64 y.a] _ RG.out Try.underlying40 rfl (by exact Try.sizeDue) ?_)
                | (at_builtin; refine wpList_append_any_st HZ2.f2 (by rfl) (.tmp 51) (.tmp 53) 22 (by rfl) Try.infoDue (by rfl) (by decide) Try.underlying22 (by rfl) (some ⟨w4.heap.size, 0, none⟩) 1 1 [.int .u64 (y.t : Int), .int .u64 (y.s : Int), .int .i64 y.a] (by rfl) (by rfl) (by rintro ⟨⟩) RA1.out (by simp [Value.oneCell']) (by have := HLT.out; omega) (by have := HLT.out; omega) ?_)
              intro v5 w6 HV
              have HV2 : St w0 w6 M (er 40 3 v5 (k + 1) (dcs ((l.take (k + 1)).map (Du.fwd now gap ps))) :: L) := by
                rw [HST.out, dcs_append]
                exact HV.d1.d1
              clear HZ HZ2 HV RG RA1
              go_wp2
              exact ⟨⟨k + 1, by have := HLT.out; omega, by go_num, HV2⟩, by have := HLT.out; simp [intOf]; omega⟩
            | true =>
              rw [hfw, if_pos rfl] at hst
              have f := HZ.frozen 0 rfl 2
              have c0 := HZ.cell 0 rfl 2
              by_cases hmx : 1099511627776 < now + gap
              · rw [show min 1099511627776 (now + gap) = 1099511627776 from by omega] at hst
                have HST := Lib.hid hst
                have HZ' := (HZ.set 2 (.int .i64 (now + gap))).set 2 (.int .i64 1099511627776)
                clear hst hfw H5 HZ
                have HZ := HZ'
                clear HZ'
                have rg := (HZ.blk 0 rfl).range 0 3 [.int .u64 (y.t : Int), .int .u64 (y.s : Int), .int .i64 1099511627776] rfl
                have RG := Lib.hid rg
                have HZ2 := HZ.newg [.int .u64 (y.t : Int), .int .u64 (y.s : Int), .int .i64 1099511627776] 40 (g := w4.heap.size) (by simp)
                have ra := (HZ2.blk 0 rfl).ra 0 3 [.int .u64 (y.t : Int), .int .u64 (y.s : Int), .int .i64 1099511627776] rfl
                have RA1 := Lib.hid ra
                clear rg ra
                go_wp2_with first
                  | (refine wpList_load_mid (by rfl) 40 (.tmp 12) (by rfl) wr.heap.size 0 (by rfl) [.int .u64 (y.t : Int), .int .u64 (y.s : Int), .int .i64 1099511627776] _ RG.out Try.underlying40 rfl (by exact Try.sizeDue) ?_)
                  | (at_builtin; refine wpList_append_any_st HZ2.f2 (by rfl) (.tmp 51) (.tmp 53) 22 (by rfl) Try.infoDue (by rfl) (by decide) Try.underlying22 (by rfl) (some ⟨w4.heap.size, 0, none⟩) 1 1 [.int .u64 (y.t : Int), .int .u64 (y.s : Int), .int .i64 1099511627776] (by rfl) (by rfl) (by rintro ⟨⟩) RA1.out (by simp [Value.oneCell']) (by have := HLT.out; omega) (by have := HLT.out; omega) ?_)
                intro v5 w6 HV
                have HV2 : St w0 w6 M (er 40 3 v5 (k + 1) (dcs ((l.take (k + 1)).map (Du.fwd now gap ps))) :: L) := by
                  rw [HST.out, dcs_append]
                  exact HV.d1.d1
                clear HZ HZ2 HV RG RA1
                go_wp2
                exact ⟨⟨k + 1, by have := HLT.out; omega, by go_num, HV2⟩, by have := HLT.out; simp [intOf]; omega⟩
              · rw [show min 1099511627776 (now + gap) = now + gap from by omega] at hst
                have HST := Lib.hid hst
                have HZ' := HZ.set 2 (.int .i64 (now + gap))
                clear hst hfw H5 HZ
                have HZ := HZ'
                clear HZ'
                have rg := (HZ.blk 0 rfl).range 0 3 [.int .u64 (y.t : Int), .int .u64 (y.s : Int), .int .i64 (now + gap)] rfl
                have RG := Lib.hid rg
                have HZ2 := HZ.newg [.int .u64 (y.t : Int), .int .u64 (y.s : Int), .int .i64 (now + gap)] 40 (g := w4.heap.size) (by simp)
                have ra := (HZ2.blk 0 rfl).ra 0 3 [.int .u64 (y.t : Int), .int .u64 (y.s : Int), .int .i64 (now + gap)] rfl
                have RA1 := Lib.hid ra
                clear rg ra
                go_wp2_with first
                  | (refine wpList_load_mid (by rfl) 40 (.tmp 12) (by rfl) wr.heap.size 0 (by rfl) [.int .u64 (y.t : Int), .int .u64 (y.s : Int), .int .i64 (now + gap)] _ RG.out Try.underlying40 rfl (by exact Try.sizeDue) ?_)
                  | (at_builtin; refine wpList_append_any_st HZ2.f2 (by rfl) (.tmp 51) (.tmp 53) 22 (by rfl) Try.infoDue (by rfl) (by decide) Try.underlying22 (by rfl) (some ⟨w4.heap.size, 0, none⟩) 1 1 [.int .u64 (y.t : Int), .int .u64 (y.s : Int), .int .i64 (now + gap)] (by rfl) (by rfl) (by rintro ⟨⟩) RA1.out (by simp [Value.oneCell']) (by have := HLT.out; omega) (by have := HLT.out; omega) ?_)
                intro v5 w6 HV
                have HV2 : St w0 w6 M (er 40 3 v5 (k + 1) (dcs ((l.take (k + 1)).map (Du.fwd now gap ps))) :: L) := by
                  rw [HST.out, dcs_append]
                  exact HV.d1.d1
                clear HZ HZ2 HV RG RA1
                go_wp2
                exact ⟨⟨k + 1, by have := HLT.out; omega, by go_num, HV2⟩, by have := HLT.out; simp [intOf]; omega⟩
          · obtain rfl : k = n := by omega
            have hD : (l.take k).map (Du.fwd now gap ps) = Du.done now gap ps l := by rw [HN.out, List.take_length]; rfl
            rw [hD] at H4
            clear hlt hD
            go_wp2
            go_ret2
            exact .inl ⟨_, HMAY.out, HT.out, k1, k2, rfl, by rw [← HN.out]; exact H4⟩
      · have hcase : gap < 1 ∨ (¬ gap < 1 ∧ 1048576 < gap) := by omega
        have HKN := Lib.hid hk
        clear hk
        rcases hcase with h1 | ⟨h1, h2⟩
        all_goals
          go_wp2
          go_ret2
          exact .inr ⟨fun h => HKN.out h.2.2, rfl, H2⟩
    · rw [decide_eq_false ht] at htc
      have HT := Lib.hid ht
      clear ht
      go_wp2_with fail
      refine htc.mono ?_
      rintro e w2 ⟨rfl, rfl⟩
      go_wp2
      go_ret2
      exact .inr ⟨fun h => HT.out h.2.1, rfl, H2⟩
end
end Go.Proofs.Ytgnlkcdpklgikaa
