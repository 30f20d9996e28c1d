/- The reference's Pick. -/
import Derived.Test.YtgnlkcdpklgikaaVm
set_option linter.unusedVariables false
set_option linter.unusedSimpArgs false
namespace Go.Proofs.Ytgnlkcdpklgikaa
open Go.RowKit Wd Go.Sort
open Du (Due)
theorem Du.sel_len (k : Nat) : ∀ m : List Due, (Du.sel k m).length ≤ k := by
  induction k with
  | zero => intro m; simp [Du.sel]
  | succ k ih =>
    intro m
    cases m with
    | nil => simp [Du.sel]
    | cons d r =>
      rw [Du.sel, List.length_cons]
      have := ih ((d :: r).eraseIdx (Du.minIdx (d :: r)))
      omega
theorem Du.refP_len (k : Nat) (ok : Due → Bool) : ∀ (l : List Due) (p : Option Nat), (Du.refP k ok p l).length ≤ k * l.length := by
  intro l
  induction l with
  | nil => intro p; simp [Du.refP]
  | cons d r ih =>
    intro p
    rw [Du.refP, List.length_cons, Nat.mul_add, Nat.mul_one]
    split
    · have := ih p; omega
    · rw [List.length_append]
      have h1 := Du.sel_len k (((d :: r).takeWhile fun x => x.t == d.t).filter ok)
      have := ih (some d.t)
      omega
theorem RA.leftD {w : World} {A : Option Addr} {x y : List Value} (h : RA w A (x ++ y)) : RA w A x := fun hne => by
  obtain ⟨b, o, rfl, hlt, hr⟩ := h (fun h0 => hne (List.append_eq_nil_iff.1 h0).1)
  exact ⟨b, o, rfl, hlt, fun j v hj => hr j v (by rw [List.getElem?_append_left (List.getElem?_eq_some_iff.1 hj).1]; exact hj)⟩
theorem RA.rightD {w : World} {b o : Nat} {x y : List Value} (h : RA w (some ⟨b, o, none⟩) (x ++ y)) : RA w (some ⟨b, o + x.length, none⟩) y := fun hne => by
  obtain ⟨b', o', he, hlt, hr⟩ := h (fun h0 => hne (List.append_eq_nil_iff.1 h0).2)
  injection he with he
  injection he with h1 h2
  subst h1 h2
  exact ⟨_, _, rfl, hlt, fun j v hj => by rw [Nat.add_assoc]; exact hr (x.length + j) v (by rw [List.getElem?_append_right (by omega), Nat.add_sub_cancel_left]; exact hj)⟩
def RetRPick (w0 : World) (M : Mem) (L : List Ent) (l : List Due) (now k : Int) (e : Ending) (w' : World) : Prop :=
  (∃ v R, Du.May l ∧ Du.time now ∧ 1 ≤ k ∧ k ≤ 64 ∧ R = Du.refP k.toNat (fun x => !decide (now < x.a)) none l ∧ e = .returned (.tuple #[v, .bool true]) ∧ St w0 w' M (er 40 3 v R.length (dcs R) :: L)) ∨
    (¬ (Du.May l ∧ Du.time now ∧ 1 ≤ k ∧ k ≤ 64) ∧ e = .returned (.tuple #[.slice none 0 0, .bool false]) ∧ St w0 w' M L)
section
variable {w0 w : World} {M : Mem} {L : List Ent}
set_option maxRecDepth 100000 in
set_option maxHeartbeats 8000000 in
theorem rpick_any (H : St w0 w M L) {A : Option Addr} {c n : Nat} {l : List Due} (hn : n = l.length) (hn2 : n ≤ 1000000) (hl : SrA w0 M L A (dcs l)) (now k : Int) :
    Calls Try.prog 9 #[.slice A n c, .int .i64 now, .int .i64 k] w (RetRPick w0 M L l now k) := by
  have hmay := rmay_any (c := c) H hn hn2 hl
  have HMAYC := Lib.hid hmay
  have HN := Lib.hid hn
  clear hmay hn
  go_enter Try.func9, Try.ntmps9
  go_wp2_with fail
  refine HMAYC.out.mono ?_
  rintro e w1 ⟨bm, rfl, hbm, H2⟩
  cases bm with
  | false =>
    have hno : ¬ Du.May l := fun h => by have := hbm.2 h; cases this
    have HNO := Lib.hid hno
    clear hbm hno
    go_wp2
    go_ret2
    exact .inr ⟨fun h => HNO.out h.1, rfl, H2⟩
  | true =>
    have hmay := hbm.1 rfl
    have HMAY := Lib.hid hmay
    clear hmay hbm
    have htc := rtime_any now w1
    by_cases ht : Du.time now
    · rw [decide_eq_true ht] at htc
      have HT := Lib.hid ht
      clear ht
      go_wp2_with fail
      refine htc.mono ?_
      rintro e w2 ⟨rfl, rfl⟩
      by_cases hk : 1 ≤ k ∧ k ≤ 64
      · obtain ⟨K, rfl⟩ : ∃ K : Nat, k = (K : Int) := ⟨k.toNat, by omega⟩
        have hK : 1 ≤ K ∧ K ≤ 64 := by omega
        have q1 : ¬ (K : Int) < 1 := by omega
        have q2 : ¬ (64 : Int) < (K : Int) := by omega
        have q1m : ¬ K = 0 := by omega
        have HK := Lib.hid hK
        obtain ⟨R, hRe⟩ : ∃ R, R = Du.refP K (fun x => !decide (now < x.a)) none l := ⟨_, rfl⟩
        have hRl : R.length ≤ 64000000 := by
          have h1 := Du.refP_len K (fun x => !decide (now < x.a)) l none
          rw [← hRe, ← HN.out] at h1
          have h2 : K * n ≤ 64 * 1000000 := Nat.mul_le_mul hK.2 hn2
          omega
        obtain ⟨ok, hok⟩ : ∃ ok : Due → Bool, ok = fun x => !decide (now < x.a) := ⟨_, rfl⟩
        have hRo : R = Du.refP K ok none l := by rw [hRe, hok]
        have hokv : ∀ x : Due, (x.a ≤ now → ok x = true) ∧ (¬ x.a ≤ now → ok x = false) := fun x => by
          rw [hok]
          exact ⟨fun h => by simp; omega, fun h => by simp; omega⟩
        have HRE := Lib.hid hRe
        have HRO := Lib.hid hRo
        have HOK := Lib.hid hokv
        have H6 := H2.lit00 40 3
        clear hk hRe hRo hok hokv HMAYC hK
        go_wp2
        go_loopw [8, 9] (fun o i wr => ∃ (i' : Nat) (out : List Due) (p : Option Nat), i' ≤ n ∧ i = .int .i64 i' ∧ R = out ++ Du.refP K ok p (l.drop i') ∧ (0 < i' → p = (l[i' - 1]?).map Du.Due.t) ∧ (i' = 0 → p = none) ∧ St w0 wr M (er 40 3 o out.length (dcs out) :: L)) (fun _ i _ => n - (intOf i).toNat)
        case atStart => exact ⟨0, [], none, by omega, rfl, HRO.out, by omega, fun _ => rfl, H6⟩
        case round =>
          obtain ⟨i, out, p, hi, rfl, hR2, hp1, hp0, H7⟩ := hrel
          clear H6 H2
          have HR2 := Lib.hid hR2
          have HP1 := Lib.hid hp1
          have HP0 := Lib.hid hp0
          clear hR2 hp1 hp0
          by_cases hlt : i < n
          · skip
            have hi1 : i < l.length := by have := HN.out; omega
            obtain ⟨A2, c2, rfl, hc2⟩ := H7.shape 0 rfl
            obtain ⟨b, o, rfl, -⟩ := RA.at3 (hl.now H7.d0) i hi1
            have hrg := hl.at3 i hi1
            have hdd : l.drop i = l[i] :: l.drop (i + 1) := List.drop_eq_getElem_cons hi1
            have hgi : l[i]? = some l[i] := List.getElem?_eq_getElem hi1
            have hR3 := HR2.out
            have r1 : (i : Int) < (n : Int) := by omega
            have wi0 : IntKind.i64.wrap (i : Int) = (i : Int) := by rw [IntKind.wrap_i64]; omega
            have HLT := Lib.hid hlt
            by_cases h0 : i = 0
            · have hpn := HP0.out h0
              subst hpn
              rw [hdd, Du.refP, if_neg (by simp), ← hdd] at hR3
              obtain ⟨y, hy⟩ : ∃ y, y = l[i] := ⟨_, rfl⟩
              rw [← hy] at hrg hR3 hgi
              have HRG := Lib.hid hrg
              have HRN := Lib.hid hR3
              have HGI := Lib.hid hgi
              have hi0 : ¬ 0 < i := by omega
              have e2 : ¬ (0 : Int) < (i : Int) := by omega
              clear h0
              clear hy hrg hR3 hgi hdd hi1 hlt HR2 HP1 HP0
              go_upto_region 7 with fail
              refine Pt.wp_plan (fun w' => St w0 w' M (er 40 3 (.slice A2 out.length c2) out.length (dcs out) :: L)) (Pt.prs [0, 1, 2, 3, 4, 5, 6, 7, 9, 10, 11, 12] (Pt.rds [8, 13] (Pt.prs [14, 15] .fin))) [] Try.mixed (by kernel_rfl) (fun _ _ d _ _ h => by cases d <;> exact h) H7.drew ?_
              have H8 := H7.drew
              simp only [Pt.toL, Pt.rds, Pt.prs, Pt.at_, List.drop_succ_cons, List.drop_zero]
              iterate 3 (refine Pt.pr_run (v := ?_) (by rfl) ?_ ?_; rotate_left; (focus (intro w'; go_simp; with_reducible rfl)); simp only [Act.put, List.setIfInBounds_toArray, List.set_cons_zero, List.set_cons_succ])
              iterate 9 (refine Pt.pr_skip (by rfl) ?_; simp only [Act.put, List.setIfInBounds_toArray, List.set_cons_zero, List.set_cons_succ])
              iterate 2 (refine Pt.rd_skip (by rfl) ?_; simp only [Act.put, List.setIfInBounds_toArray, List.set_cons_zero, List.set_cons_succ])
              (refine Pt.pr_skip (by rfl) ?_; simp only [Act.put, List.setIfInBounds_toArray, List.set_cons_zero, List.set_cons_succ])
              (refine Pt.pr_run (v := ?_) (by rfl) ?_ ?_; rotate_left; (focus (intro w'; go_simp; with_reducible rfl)); simp only [Act.put, List.setIfInBounds_toArray, List.set_cons_zero, List.set_cons_succ])
              refine Pt.run_fin ?_
              clear H7
              have hG := HRN.out
              obtain ⟨G, hGe⟩ : ∃ G, G = (l.drop i).takeWhile fun x => x.t == y.t := ⟨_, rfl⟩
              rw [← hGe] at hG
              have HRN2 := Lib.hid hG
              have HGE := Lib.hid hGe
              have H9 := H8.lit00 40 3
              clear hG hGe
              go_wp2
              go_loopw [10, 11] (fun mv j wr2 => ∃ (j' : Nat) (X mine : List Due), i ≤ j' ∧ j' ≤ n ∧ j = .int .i64 j' ∧ G = X ++ (l.drop j').takeWhile (fun x => x.t == y.t) ∧ mine = X.filter ok ∧ mine.length ≤ j' ∧ St w0 wr2 M (er 40 3 mv mine.length (dcs mine) :: er 40 3 (.slice A2 out.length c2) out.length (dcs out) :: L)) (fun _ j _ => n - (intOf j).toNat)
              case atStart => exact ⟨i, [], [], Nat.le_refl _, by have := HLT.out; omega, rfl, HGE.out, rfl, by simp, H9⟩
              case round =>
                obtain ⟨j, X, mine, hij, hj, rfl, hGX, hmX, hml, HM⟩ := hrel
                clear H8 H9
                have HGX := Lib.hid hGX
                have HMX := Lib.hid hmX
                clear hGX hmX
                obtain ⟨A3, c3, rfl, hc3⟩ := HM.shape 0 rfl
                by_cases hjn : j < n
                · have hj1 : j < l.length := by have := HN.out; omega
                  have hsj := hl.at3 j hj1
                  have htw : (l.drop j).takeWhile (fun x => x.t == y.t) = if l[j].t == y.t then l[j] :: (l.drop (j + 1)).takeWhile (fun x => x.t == y.t) else [] := by
                    rw [List.drop_eq_getElem_cons hj1, List.takeWhile_cons]
                  obtain ⟨z, hz⟩ : ∃ z, z = l[j] := ⟨_, rfl⟩
                  rw [← hz] at hsj htw
                  have HSJ := Lib.hid hsj
                  have HTW := Lib.hid htw
                  have HJN := Lib.hid hjn
                  have r2 : (j : Int) < (n : Int) := by omega
                  have wj : IntKind.i64.wrap (j : Int) = (j : Int) := by rw [IntKind.wrap_i64]; omega
                  clear hz hsj htw hj1 hjn
                  go_upto_region 10 with fail
                  refine Pt.wp_plan (fun w' => St w0 w' M (er 40 3 (.slice A3 mine.length c3) mine.length (dcs mine) :: er 40 3 (.slice A2 out.length c2) out.length (dcs out) :: L)) (Pt.prs [0, 1, 2, 3, 4, 5, 6, 7, 8, 10, 11, 12, 13] (Pt.rds [9, 14] (Pt.prs [15, 16] .fin))) [] Try.mixed (by kernel_rfl) (fun _ _ d _ _ h => by cases d <;> exact h) HM.drew ?_
                  have HM2 := HM.drew
                  simp only [Pt.toL, Pt.rds, Pt.prs, Pt.at_, List.drop_succ_cons, List.drop_zero]
                  iterate 13 (refine Pt.pr_run (v := ?_) (by rfl) ?_ ?_; rotate_left; (focus (intro w'; go_simp; with_reducible rfl)); simp only [Act.put, List.setIfInBounds_toArray, List.set_cons_zero, List.set_cons_succ])
                  (refine Pt.rd_run (v := ?_) (by rfl) ?_ ?_; rotate_left; (focus (intro w' hS; have c := HSJ.out w' hS.d0.d0 0 _ rfl; rw [Nat.add_zero] at c; go_simp; with_reducible rfl)); simp only [Act.put, List.setIfInBounds_toArray, List.set_cons_zero, List.set_cons_succ])
                  (refine Pt.rd_run (v := ?_) (by rfl) ?_ ?_; rotate_left; (focus (intro w' hS; have c := HRG.out w' hS.d0.d0 0 _ rfl; rw [Nat.add_zero] at c; go_simp; with_reducible rfl)); simp only [Act.put, List.setIfInBounds_toArray, List.set_cons_zero, List.set_cons_succ])
                  generalize hxx : World.drew _ = wy2 at *
                  clear hxx HM
                  by_cases hzy : z.t = y.t
                  · have q : ((z.t : Int) == (y.t : Int)) = true := by rw [hzy]; simp
                    have htw2 : (l.drop j).takeWhile (fun x => x.t == y.t) = z :: (l.drop (j + 1)).takeWhile (fun x => x.t == y.t) := by rw [HTW.out, if_pos (by simp [hzy])]
                    have hGX2 : G = (X ++ [z]) ++ (l.drop (j + 1)).takeWhile (fun x => x.t == y.t) := by rw [HGX.out, htw2]; simp
                    have HGX2 := Lib.hid hGX2
                    clear hzy htw2 hGX2
                    iterate 2 (refine Pt.pr_run (v := ?_) (by rfl) ?_ ?_; rotate_left; (focus (intro w'; go_simp; with_reducible rfl)); simp only [Act.put, List.setIfInBounds_toArray, List.set_cons_zero, List.set_cons_succ])
                    refine Pt.run_fin ?_
                    have ca := HSJ.out wy2 HM2.d0.d0 2 _ rfl
                    by_cases hza : z.a ≤ now
                    · have hmm : mine ++ [z] = (X ++ [z]).filter ok := by rw [List.filter_append, ← HMX.out, List.filter_cons_of_pos ((HOK.out z).1 hza), List.filter_nil]
                      have HMM := Lib.hid hmm
                      have rg := HSJ.out wy2 HM2.d0.d0
                      have RG := Lib.hid rg
                      have HM3 := HM2.new [.int .u64 (z.t : Int), .int .u64 (z.s : Int), .int .i64 z.a] 40
                      have ra := (HM3.blk 0 rfl).ra 0 3 [.int .u64 (z.t : Int), .int .u64 (z.s : Int), .int .i64 z.a] rfl
                      have RA1 := Lib.hid ra
                      clear hmm rg ra
                      go_wp2_with first
                        | (refine wpList_load_mid (by rfl) 40 (.tmp 85) (by rfl) b (o + j * 3) (by rfl) [.int .u64 (z.t : Int), .int .u64 (z.s : Int), .int .i64 z.a] _ RG.out Try.underlying40 rfl (by exact Try.sizeDue) ?_)
                        | (at_builtin; refine wpList_append_any_st HM3.f1 (by rfl) (.tmp 82) (.tmp 87) 22 (by rfl) Try.infoDue (by rfl) (by decide) Try.underlying22 (by rfl) (some ⟨wy2.heap.size, 0, none⟩) 1 1 [.int .u64 (z.t : Int), .int .u64 (z.s : Int), .int .i64 z.a] (by rfl) (by rfl) (by rintro ⟨⟩) RA1.out (by simp [Value.oneCell']) (by omega) (by omega) ?_)
                      intro v5 w6 HM4
                      have HM5 : St w0 w6 M (er 40 3 v5 (mine ++ [z]).length (dcs (mine ++ [z])) :: er 40 3 (.slice A2 out.length c2) out.length (dcs out) :: L) := by
                        rw [List.length_append, dcs_append]
                        exact HM4.d1
                      clear HM2 HM3 HM4 RG RA1
                      go_wp2
                      exact ⟨⟨j + 1, X ++ [z], mine ++ [z], by omega, by have := HJN.out; omega, by go_num, HGX2.out, HMM.out, by rw [List.length_append, List.length_singleton]; omega, HM5⟩, by have := HJN.out; simp [intOf]; omega⟩
                    · have hmm : mine = (X ++ [z]).filter ok := by rw [List.filter_append, ← HMX.out, List.filter_cons_of_neg (by rw [(HOK.out z).2 (by omega)]; simp), List.filter_nil, List.append_nil]
                      have HMM := Lib.hid hmm
                      clear hmm
                      go_wp2
                      exact ⟨⟨j + 1, X ++ [z], mine, by omega, by have := HJN.out; omega, by go_num, HGX2.out, HMM.out, by omega, HM2⟩, by have := HJN.out; simp [intOf]; omega⟩
                  · have q : ((z.t : Int) == (y.t : Int)) = false := by simp; omega
                    have hRA : R = out ++ (Du.sel (K - 0) mine ++ Du.refP K ok (some y.t) (l.drop (i + 1))) := by
                      rw [HRN2.out, HGX.out, HTW.out, if_neg (by simp [hzy]), List.append_nil, ← HMX.out]
                      rfl
                    have HRA := Lib.hid hRA
                    clear hRA hzy
                    iterate 2 (refine Pt.pr_run (v := ?_) (by rfl) ?_ ?_; rotate_left; (focus (intro w'; go_simp; with_reducible rfl)); simp only [Act.put, List.setIfInBounds_toArray, List.set_cons_zero, List.set_cons_succ])
                    refine Pt.run_fin ?_
                    have HM := HM2
                    clear HM2
                    go_wp2
                    go_loopw [8, 10, 12] (fun ov mv kk wr3 => ∃ (s : Nat) (out' m' : List Due), s ≤ K ∧ kk = .int .i64 s ∧ R = out' ++ (Du.sel (K - s) m' ++ Du.refP K ok (some y.t) (l.drop (i + 1))) ∧ m'.length ≤ 1000000 ∧ St w0 wr3 M (er 40 3 mv m'.length (dcs m') :: er 40 3 ov out'.length (dcs out') :: L)) (fun _ _ kk _ => K - (intOf kk).toNat)
                    case atStart => exact ⟨0, out, mine, by omega, rfl, HRA.out, by omega, HM⟩
                    case round =>
                      obtain ⟨s, out', m', hsK, rfl, hRs, hml, HY⟩ := hrel
                      clear HM
                      have HRS := Lib.hid hRs
                      clear hRs
                      obtain ⟨A5, c5, rfl, hc5⟩ := HY.shape 0 rfl
                      obtain ⟨A6, c6, rfl, hc6⟩ := HY.shape 1 rfl
                      rcases Nat.lt_or_ge s K with hs | hs
                      · have q5 : (s : Int) < (K : Int) := by omega
                        obtain ⟨ml, hME⟩ : ∃ ml, ml = m'.length := ⟨_, rfl⟩
                        rw [← hME] at HY hml hc5 ⊢
                        by_cases hm' : m' = []
                        · have hRX : R = out' ++ Du.refP K ok (some y.t) (l.drop (i + 1)) := by
                            rw [HRS.out, hm']
                            obtain ⟨d, hd⟩ : ∃ d, K - s = d + 1 := ⟨K - s - 1, by omega⟩
                            rw [hd]
                            rfl
                          have HRX := Lib.hid hRX
                          have q6 : ¬ (0 : Int) < (ml : Int) := by rw [hME, hm']; simp
                          have q6n : ¬ 0 < ml := by rw [hME, hm']; simp
                          have HZ := HY.d0
                          clear hs hRX hm' hME
                          have hnx : 0 < i + 1 → (some y.t) = (l[i + 1 - 1]?).map Du.Due.t := fun _ => by rw [Nat.add_sub_cancel, HGI.out]; rfl
                          have HNX := Lib.hid hnx
                          clear hnx
                          go_wp2
                          exact ⟨⟨i + 1, out', some y.t, by have := HLT.out; omega, by go_num, HRX.out, HNX.out, (fun h => by omega), HZ⟩, by have := HLT.out; simp [intOf]; omega⟩
                        · obtain ⟨d0, r0, hmc⟩ := List.exists_cons_of_ne_nil hm'
                          have q6n : 0 < ml := by rw [hME, hmc]; simp
                          have q6 : (0 : Int) < (ml : Int) := by omega
                          have hsel : Du.sel (K - s) m' = m'[Du.minIdx m']! :: Du.sel (K - (s + 1)) (m'.eraseIdx (Du.minIdx m')) := by
                            obtain ⟨d, hd⟩ : ∃ d, K - s = d + 1 := ⟨K - s - 1, by omega⟩
                            rw [hd, show K - (s + 1) = d from by omega, hmc]
                            rfl
                          have hstart : Du.minIdx m' = Du.least (m'.drop 0) 0 0 d0.a := by rw [hmc]; simp [Du.minIdx, Du.least]
                          have hd0 : (m'[0]?).map Du.Due.a = some d0.a := by rw [hmc]; rfl
                          obtain ⟨b5, o5, rfl, -⟩ := RA.at3 (er_RA (HY.get 0 rfl)) 0 (by omega)
                          have HSEL := Lib.hid hsel
                          have HST := Lib.hid hstart
                          have HD0 := Lib.hid hd0
                          have HME := Lib.hid hME
                          have HSK := Lib.hid hs
                          clear hsel hstart hd0 hME hmc hm' hs
                          go_wp2
                          go_loopw [13, 14] (fun bb jj wr4 => ∃ (bi ji : Nat) (v : Int), bi < ml ∧ ji ≤ ml ∧ bb = .int .i64 bi ∧ jj = .int .i64 ji ∧ (m'[bi]?).map Du.Due.a = some v ∧ Du.minIdx m' = Du.least (m'.drop ji) ji bi v ∧ St w0 wr4 M (er 40 3 (.slice (some ⟨b5, o5, none⟩) ml c5) ml (dcs m') :: er 40 3 (.slice A6 out'.length c6) out'.length (dcs out') :: L)) (fun _ jj _ => ml - (intOf jj).toNat)
                          case atStart => exact ⟨0, 0, d0.a, q6n, by omega, rfl, rfl, HD0.out, HST.out, HY⟩
                          case round =>
                            obtain ⟨bi, ji, v, hbi, hji, rfl, rfl, hbv, hmn, HW⟩ := hrel
                            clear HY
                            have HMN := Lib.hid hmn
                            clear hmn
                            have hb1 : bi < m'.length := by have := HME.out; omega
                            have hsm : SrA w0 M (er 40 3 (.slice (some ⟨b5, o5, none⟩) ml c5) ml (dcs m') :: er 40 3 (.slice A6 out'.length c6) out'.length (dcs out') :: L) (some ⟨b5, o5, none⟩) (dcs m') := SrA.row 0 rfl
                            have hrb := hsm.at3 bi hb1
                            have hgb : m'[bi]! = m'[bi] := getElem!_pos m' bi hb1
                            rw [List.getElem?_eq_getElem hb1] at hbv
                            obtain ⟨x5, hx5⟩ : ∃ x5, x5 = m'[bi] := ⟨_, rfl⟩
                            rw [← hx5] at hrb hgb hbv
                            simp only [Option.map_some, Option.some.injEq] at hbv
                            subst hbv
                            have wbi : IntKind.i64.wrap (bi : Int) = (bi : Int) := by rw [IntKind.wrap_i64]; omega
                            have wji : IntKind.i64.wrap (ji : Int) = (ji : Int) := by rw [IntKind.wrap_i64]; omega
                            have bil : (bi : Int) < (ml : Int) := by omega
                            have HRB := Lib.hid hrb
                            have HGB := Lib.hid hgb
                            by_cases hjl : ji < ml
                            · have hj1 : ji < m'.length := by have := HME.out; omega
                              have hrj := hsm.at3 ji hj1
                              have hstep : Du.least (m'.drop ji) ji bi x5.a = if m'[ji].a < x5.a then Du.least (m'.drop (ji + 1)) (ji + 1) ji m'[ji].a else Du.least (m'.drop (ji + 1)) (ji + 1) bi x5.a := by
                                rw [List.drop_eq_getElem_cons hj1]
                                rfl
                              have hgj : (m'[ji]?).map Du.Due.a = some m'[ji].a := by rw [List.getElem?_eq_getElem hj1]; rfl
                              have hgb2 : (m'[bi]?).map Du.Due.a = some x5.a := by rw [List.getElem?_eq_getElem hb1, hx5]; rfl
                              obtain ⟨u, hu⟩ : ∃ u, u = m'[ji] := ⟨_, rfl⟩
                              rw [← hu] at hrj hstep hgj
                              have HRJ := Lib.hid hrj
                              have HSTEP := Lib.hid hstep
                              have HGJ := Lib.hid hgj
                              have HGB2 := Lib.hid hgb2
                              have HJL := Lib.hid hjl
                              have jil : (ji : Int) < (ml : Int) := by omega
                              clear hu hrj hstep hgj hgb2 hx5 hrb hgb hsm hb1 hj1 hjl
                              go_upto_region 21 with fail
                              refine Pt.wp_plan (fun w' => St w0 w' M (er 40 3 (.slice (some ⟨b5, o5, none⟩) ml c5) ml (dcs m') :: er 40 3 (.slice A6 out'.length c6) out'.length (dcs out') :: L)) (Pt.prs [0, 1, 2, 3, 5, 6, 7, 8] (Pt.rds [4, 9] (Pt.prs [10] .fin))) [] Try.mixed (by kernel_rfl) (fun _ _ d _ _ h => by cases d <;> exact h) HW.drew ?_
                              have HW2 := HW.drew
                              simp only [Pt.toL, Pt.rds, Pt.prs, Pt.at_, List.drop_succ_cons, List.drop_zero]
                              iterate 8 (refine Pt.pr_run (v := ?_) (by rfl) ?_ ?_; rotate_left; (focus (intro w'; go_simp; with_reducible rfl)); simp only [Act.put, List.setIfInBounds_toArray, List.set_cons_zero, List.set_cons_succ])
                              (refine Pt.rd_run (v := ?_) (by rfl) ?_ ?_; rotate_left; (focus (intro w' hS; have c := HRJ.out w' hS 2 _ rfl; go_simp; with_reducible rfl)); simp only [Act.put, List.setIfInBounds_toArray, List.set_cons_zero, List.set_cons_succ])
                              (refine Pt.rd_run (v := ?_) (by rfl) ?_ ?_; rotate_left; (focus (intro w' hS; have c := HRB.out w' hS 2 _ rfl; go_simp; with_reducible rfl)); simp only [Act.put, List.setIfInBounds_toArray, List.set_cons_zero, List.set_cons_succ])
                              clear HW
                              by_cases huv : u.a < x5.a
                              · have hl2 := HSTEP.out
                                rw [if_pos huv] at hl2
                                have HL2 := Lib.hid (HMN.out.trans hl2)
                                clear hl2
                                (refine Pt.pr_run (v := ?_) (by rfl) ?_ ?_; rotate_left; (focus (intro w'; go_simp; with_reducible rfl)); simp only [Act.put, List.setIfInBounds_toArray, List.set_cons_zero, List.set_cons_succ])
                                refine Pt.run_fin ?_
                                go_wp2
                                exact ⟨⟨ji, ji + 1, u.a, HJL.out, by have := HJL.out; omega, rfl, by go_num, HGJ.out, HL2.out, HW2⟩, by have := HJL.out; simp [intOf]; omega⟩
                              · have hl2 := HSTEP.out
                                rw [if_neg huv] at hl2
                                have HL2 := Lib.hid (HMN.out.trans hl2)
                                clear hl2
                                (refine Pt.pr_run (v := ?_) (by rfl) ?_ ?_; rotate_left; (focus (intro w'; go_simp; with_reducible rfl)); simp only [Act.put, List.setIfInBounds_toArray, List.set_cons_zero, List.set_cons_succ])
                                refine Pt.run_fin ?_
                                go_wp2
                                exact ⟨⟨bi, ji + 1, x5.a, by omega, by have := HJL.out; omega, rfl, by go_num, HGB2.out, HL2.out, HW2⟩, by have := HJL.out; simp [intOf]; omega⟩
                            · obtain rfl : ji = ml := by omega
                              have hmi : Du.minIdx m' = bi := by rw [HMN.out, HME.out, List.drop_length]; rfl
                              have hRS2 : R = (out' ++ [x5]) ++ (Du.sel (K - (s + 1)) (m'.eraseIdx bi) ++ Du.refP K ok (some y.t) (l.drop (i + 1))) := by
                                rw [HRS.out, HSEL.out, hmi, HGB.out]
                                simp
                              have hol : out'.length + 1 ≤ 64000000 := by
                                have := congrArg List.length hRS2
                                simp only [List.length_append, List.length_singleton] at this
                                omega
                              have HRS2 := Lib.hid hRS2
                              have hsplit : dcs m' = dcs (m'.take bi) ++ (dcs [x5] ++ dcs (m'.drop (bi + 1))) := by
                                rw [← dcs_append, ← dcs_append]
                                congr 1
                                rw [hx5, List.singleton_append, ← List.drop_eq_getElem_cons hb1, List.take_append_drop]
                              have hera : m'.eraseIdx bi = m'.take bi ++ m'.drop (bi + 1) := List.eraseIdx_eq_take_drop_succ m' bi
                              have htk : (m'.take bi).length = bi := by rw [List.length_take]; omega
                              have hdl : (m'.drop (bi + 1)).length = ji - (bi + 1) := by rw [List.length_drop, HME.out]
                              have HSPL := Lib.hid hsplit
                              have HERA := Lib.hid hera
                              have HTK := Lib.hid htk
                              have HDL := Lib.hid hdl
                              have rg := HRB.out _ HW
                              have RG := Lib.hid rg
                              have HW2 := HW.new [.int .u64 (x5.t : Int), .int .u64 (x5.s : Int), .int .i64 x5.a] 40
                              have ra := (HW2.blk 0 rfl).ra 0 3 [.int .u64 (x5.t : Int), .int .u64 (x5.s : Int), .int .i64 x5.a] rfl
                              have RA1 := Lib.hid ra
                              clear hmi hRS2 hsplit hera htk hdl rg ra hsm hrb hgb hx5 hb1 hjl
                              go_wp2_with first
                                | (refine wpList_load_mid (by rfl) 40 (.tmp 120) (by rfl) b5 (o5 + bi * 3) (by rfl) [.int .u64 (x5.t : Int), .int .u64 (x5.s : Int), .int .i64 x5.a] _ RG.out Try.underlying40 rfl (by exact Try.sizeDue) ?_)
                                | (at_builtin; refine wpList_append_any_st HW2.f2 (by rfl) (.tmp 117) (.tmp 122) 22 (by rfl) Try.infoDue (by rfl) (by decide) Try.underlying22 (by rfl) (some ⟨_, 0, none⟩) 1 1 [.int .u64 (x5.t : Int), .int .u64 (x5.s : Int), .int .i64 x5.a] (by rfl) (by rfl) (by rintro ⟨⟩) RA1.out (by simp [Value.oneCell']) (by omega) (by omega) ?_)
                              intro v7 w7 HV
                              have HV2 : St w0 w7 M (er 40 3 (.slice (some ⟨b5, o5, none⟩) ji c5) ji (dcs m') :: er 40 3 v7 (out' ++ [x5]).length (dcs (out' ++ [x5])) :: L) := by
                                rw [List.length_append, dcs_append]
                                exact HV.d1.f1
                              clear HW HW2 HV RG RA1
                              have b1 : (bi : Int) ≤ (ji : Int) := by omega
                              have b2 : (bi : Int) + 1 ≤ (ji : Int) := by omega
                              have b3 : (ji : Int) ≤ (c5 : Int) := by omega
                              have b4 : (bi : Int) ≤ (c5 : Int) := by omega
                              have b5' : (bi : Int) + 1 ≤ (c5 : Int) := by omega
                              have b6 : bi ≤ c5 := by omega
                              have b7 : bi + 1 ≤ c5 := by omega
                              have wb1 : IntKind.i64.wrap ((bi : Int) + 1) = (bi : Int) + 1 := by rw [IntKind.wrap_i64]; omega
                              have b0 : (0 : Int) ≤ (bi : Int) + 1 := by omega
                              by_cases hcc : c5 = bi + 1
                              · skip
                                have b8 : (bi : Int) ≤ (bi : Int) + 1 := by omega
                                have b9 : (ji : Int) ≤ (bi : Int) + 1 := by omega
                                have b10 : (bi : Int) + 1 ≤ (bi : Int) + 1 := by omega
                                go_upto_region 24 with fail
                                refine Pt.wp_plan (fun w' => St w0 w' M (er 40 3 (.slice (some ⟨b5, o5, none⟩) ji c5) ji (dcs m') :: er 40 3 v7 (out' ++ [x5]).length (dcs (out' ++ [x5])) :: L)) (Pt.prs [1, 2, 3, 5, 6, 7, 8] (.go 0 (.go 4 (.go 9 (Pt.prs [10] .fin))))) [] Try.mixed (by kernel_rfl) (fun _ _ d _ _ h => by cases d <;> exact h) HV2.drew ?_
                                have HV3 := HV2.drew
                                simp only [Pt.toL, Pt.rds, Pt.prs, Pt.at_, List.drop_succ_cons, List.drop_zero]
                                iterate 7 (refine Pt.pr_run (v := ?_) (by rfl) ?_ ?_; rotate_left; (focus (intro w'; go_simp; with_reducible rfl)); simp only [Act.put, List.setIfInBounds_toArray, List.set_cons_zero, List.set_cons_succ])
                                generalize hxx : World.drew _ = wz at *
                                clear hxx HV2
                                refine Pt.run_go ?_
                                have HX := HV3.lit00 40 3
                                go_wp2_with fail
                                refine Pt.same HX.d0 ?_
                                have rr := er_RA (HX.get 1 rfl)
                                rw [HSPL.out] at rr
                                refine Pt.run_go ?_
                                refine wpList_append_any_st HX (by rfl) (.tmp 124) (.tmp 127) 22 (by rfl) Try.infoDue (by rfl) (by decide) Try.underlying22 (by rfl) (some ⟨b5, o5, none⟩) bi _ (dcs (m'.take bi)) (by rfl) (by rw [dcs_length, HTK.out]) (by rintro ⟨⟩) (RA.leftD rr) (dcs_one _) (by omega) (by omega) ?_
                                intro v8 w8 HX2
                                refine wpList_nil ?_
                                refine Pt.same HX2.d0 ?_
                                simp only [Act.put, List.setIfInBounds_toArray, List.set_cons_zero, List.set_cons_succ]
                                have hdn : dcs (m'.drop (bi + 1)) = [] := List.eq_nil_of_length_eq_zero (by rw [dcs_length, HDL.out]; omega)
                                have rr2 : True := trivial
                                have rr3 : RA w8 (some ⟨b5, o5, none⟩) (dcs (m'.drop (bi + 1))) := fun hne => absurd hdn hne
                                refine Pt.run_go ?_
                                refine wpList_append_any_st HX2 (by rfl) (.tmp 128) (.tmp 132) 22 (by rfl) Try.infoDue (by rfl) (by decide) Try.underlying22 (by rfl) (some ⟨b5, o5, none⟩) (ji - (bi + 1)) _ (dcs (m'.drop (bi + 1))) (by rfl) (by rw [dcs_length, HDL.out]) (by rintro ⟨⟩) rr3 (dcs_one _) (by omega) (by omega) ?_
                                intro v9 w9 HX3
                                refine wpList_nil ?_
                                refine Pt.same HX3.d0 ?_
                                simp only [Act.put, List.setIfInBounds_toArray, List.set_cons_zero, List.set_cons_succ]
                                (refine Pt.pr_run (v := ?_) (by rfl) ?_ ?_; rotate_left; (focus (intro w'; go_simp; with_reducible rfl)); simp only [Act.put, List.setIfInBounds_toArray, List.set_cons_zero, List.set_cons_succ])
                                refine Pt.run_fin ?_
                                have HZ2 : St w0 w9 M (er 40 3 v9 (m'.eraseIdx bi).length (dcs (m'.eraseIdx bi)) :: er 40 3 v7 (out' ++ [x5]).length (dcs (out' ++ [x5])) :: L) := by
                                  rw [HERA.out, List.length_append, HTK.out, HDL.out, dcs_append]
                                  simpa using HX3.d1
                                have hel : (m'.eraseIdx bi).length ≤ 1000000 := by rw [HERA.out, List.length_append, HTK.out, HDL.out]; omega
                                clear HX HX2 HX3 rr rr2 rr3 HV3
                                go_wp2
                                exact ⟨⟨s + 1, out' ++ [x5], m'.eraseIdx bi, by have := HSK.out; omega, by go_num, HRS2.out, hel, HZ2⟩, by have := HSK.out; simp [intOf]; omega⟩
                              · skip
                                go_upto_region 24 with fail
                                refine Pt.wp_plan (fun w' => St w0 w' M (er 40 3 (.slice (some ⟨b5, o5, none⟩) ji c5) ji (dcs m') :: er 40 3 v7 (out' ++ [x5]).length (dcs (out' ++ [x5])) :: L)) (Pt.prs [1, 2, 3, 5, 6, 7, 8] (.go 0 (.go 4 (.go 9 (Pt.prs [10] .fin))))) [] Try.mixed (by kernel_rfl) (fun _ _ d _ _ h => by cases d <;> exact h) HV2.drew ?_
                                have HV3 := HV2.drew
                                simp only [Pt.toL, Pt.rds, Pt.prs, Pt.at_, List.drop_succ_cons, List.drop_zero]
                                iterate 7 (refine Pt.pr_run (v := ?_) (by rfl) ?_ ?_; rotate_left; (focus (intro w'; go_simp; with_reducible rfl)); simp only [Act.put, List.setIfInBounds_toArray, List.set_cons_zero, List.set_cons_succ])
                                generalize hxx : World.drew _ = wz at *
                                clear hxx HV2
                                refine Pt.run_go ?_
                                have HX := HV3.lit00 40 3
                                go_wp2_with fail
                                refine Pt.same HX.d0 ?_
                                have rr := er_RA (HX.get 1 rfl)
                                rw [HSPL.out] at rr
                                refine Pt.run_go ?_
                                refine wpList_append_any_st HX (by rfl) (.tmp 124) (.tmp 127) 22 (by rfl) Try.infoDue (by rfl) (by decide) Try.underlying22 (by rfl) (some ⟨b5, o5, none⟩) bi c5 (dcs (m'.take bi)) (by rfl) (by rw [dcs_length, HTK.out]) (by rintro ⟨⟩) (RA.leftD rr) (dcs_one _) (by omega) (by omega) ?_
                                intro v8 w8 HX2
                                refine wpList_nil ?_
                                refine Pt.same HX2.d0 ?_
                                simp only [Act.put, List.setIfInBounds_toArray, List.set_cons_zero, List.set_cons_succ]
                                have rr2 := er_RA (HX2.get 1 rfl)
                                rw [HSPL.out, ← List.append_assoc] at rr2
                                have rr3 := RA.rightD rr2
                                have e9 : o5 + (dcs (m'.take bi) ++ dcs [x5]).length = o5 + (bi + 1) * 3 := by rw [List.length_append, dcs_length, dcs_length, HTK.out, List.length_singleton]; omega
                                rw [e9] at rr3
                                refine Pt.run_go ?_
                                refine wpList_append_any_st HX2 (by rfl) (.tmp 128) (.tmp 132) 22 (by rfl) Try.infoDue (by rfl) (by decide) Try.underlying22 (by rfl) (some ⟨b5, o5 + (bi + 1) * 3, none⟩) (ji - (bi + 1)) (c5 - (bi + 1)) (dcs (m'.drop (bi + 1))) (by rfl) (by rw [dcs_length, HDL.out]) (by rintro ⟨⟩) rr3 (dcs_one _) (by omega) (by omega) ?_
                                intro v9 w9 HX3
                                refine wpList_nil ?_
                                refine Pt.same HX3.d0 ?_
                                simp only [Act.put, List.setIfInBounds_toArray, List.set_cons_zero, List.set_cons_succ]
                                (refine Pt.pr_run (v := ?_) (by rfl) ?_ ?_; rotate_left; (focus (intro w'; go_simp; with_reducible rfl)); simp only [Act.put, List.setIfInBounds_toArray, List.set_cons_zero, List.set_cons_succ])
                                refine Pt.run_fin ?_
                                have HZ2 : St w0 w9 M (er 40 3 v9 (m'.eraseIdx bi).length (dcs (m'.eraseIdx bi)) :: er 40 3 v7 (out' ++ [x5]).length (dcs (out' ++ [x5])) :: L) := by
                                  rw [HERA.out, List.length_append, HTK.out, HDL.out, dcs_append]
                                  simpa using HX3.d1
                                have hel : (m'.eraseIdx bi).length ≤ 1000000 := by rw [HERA.out, List.length_append, HTK.out, HDL.out]; omega
                                clear HX HX2 HX3 rr rr2 rr3 HV3
                                go_wp2
                                exact ⟨⟨s + 1, out' ++ [x5], m'.eraseIdx bi, by have := HSK.out; omega, by go_num, HRS2.out, hel, HZ2⟩, by have := HSK.out; simp [intOf]; omega⟩
                      · obtain rfl : s = K := by omega
                        have hRX : R = out' ++ Du.refP s ok (some y.t) (l.drop (i + 1)) := by
                          rw [HRS.out, Nat.sub_self]
                          rfl
                        have HRX := Lib.hid hRX
                        have HZ := HY.d0
                        clear hs hRX
                        have hnx : 0 < i + 1 → (some y.t) = (l[i + 1 - 1]?).map Du.Due.t := fun _ => by rw [Nat.add_sub_cancel, HGI.out]; rfl
                        have HNX := Lib.hid hnx
                        clear hnx
                        go_wp2
                        exact ⟨⟨i + 1, out', some y.t, by have := HLT.out; omega, by go_num, HRX.out, HNX.out, (fun h => by omega), HZ⟩, by have := HLT.out; simp [intOf]; omega⟩
                · obtain rfl : j = n := by omega
                  have htw : (l.drop j).takeWhile (fun x => x.t == y.t) = [] := by rw [HN.out, List.drop_length]; rfl
                  have hRA : R = out ++ (Du.sel (K - 0) mine ++ Du.refP K ok (some y.t) (l.drop (i + 1))) := by
                    rw [HRN2.out, HGX.out, htw, List.append_nil, ← HMX.out]
                    rfl
                  have HRA := Lib.hid hRA
                  clear hRA htw hjn
                  go_upto_region 10 with fail
                  refine Pt.wp_plan (fun w' => St w0 w' M (er 40 3 (.slice A3 mine.length c3) mine.length (dcs mine) :: er 40 3 (.slice A2 out.length c2) out.length (dcs out) :: L)) (Pt.prs [0, 1, 2, 3, 4, 5, 6, 7, 8, 10, 11, 12, 13] (Pt.rds [9, 14] (Pt.prs [15, 16] .fin))) [] Try.mixed (by kernel_rfl) (fun _ _ d _ _ h => by cases d <;> exact h) HM.drew ?_
                  have HM2 := HM.drew
                  simp only [Pt.toL, Pt.rds, Pt.prs, Pt.at_, List.drop_succ_cons, List.drop_zero]
                  iterate 5 (refine Pt.pr_run (v := ?_) (by rfl) ?_ ?_; rotate_left; (focus (intro w'; go_simp; with_reducible rfl)); simp only [Act.put, List.setIfInBounds_toArray, List.set_cons_zero, List.set_cons_succ])
                  iterate 8 (refine Pt.pr_skip (by rfl) ?_; simp only [Act.put, List.setIfInBounds_toArray, List.set_cons_zero, List.set_cons_succ])
                  iterate 2 (refine Pt.rd_skip (by rfl) ?_; simp only [Act.put, List.setIfInBounds_toArray, List.set_cons_zero, List.set_cons_succ])
                  (refine Pt.pr_skip (by rfl) ?_; simp only [Act.put, List.setIfInBounds_toArray, List.set_cons_zero, List.set_cons_succ])
                  (refine Pt.pr_run (v := ?_) (by rfl) ?_ ?_; rotate_left; (focus (intro w'; go_simp; with_reducible rfl)); simp only [Act.put, List.setIfInBounds_toArray, List.set_cons_zero, List.set_cons_succ])
                  refine Pt.run_fin ?_
                  clear HM
                  have HM := HM2
                  clear HM2
                  go_wp2
                  go_loopw [8, 10, 12] (fun ov mv kk wr3 => ∃ (s : Nat) (out' m' : List Due), s ≤ K ∧ kk = .int .i64 s ∧ R = out' ++ (Du.sel (K - s) m' ++ Du.refP K ok (some y.t) (l.drop (i + 1))) ∧ m'.length ≤ 1000000 ∧ St w0 wr3 M (er 40 3 mv m'.length (dcs m') :: er 40 3 ov out'.length (dcs out') :: L)) (fun _ _ kk _ => K - (intOf kk).toNat)
                  case atStart => exact ⟨0, out, mine, by omega, rfl, HRA.out, by omega, HM⟩
                  case round =>
                    obtain ⟨s, out', m', hsK, rfl, hRs, hml, HY⟩ := hrel
                    clear HM
                    have HRS := Lib.hid hRs
                    clear hRs
                    obtain ⟨A5, c5, rfl, hc5⟩ := HY.shape 0 rfl
                    obtain ⟨A6, c6, rfl, hc6⟩ := HY.shape 1 rfl
                    rcases Nat.lt_or_ge s K with hs | hs
                    · have q5 : (s : Int) < (K : Int) := by omega
                      obtain ⟨ml, hME⟩ : ∃ ml, ml = m'.length := ⟨_, rfl⟩
                      rw [← hME] at HY hml hc5 ⊢
                      by_cases hm' : m' = []
                      · have hRX : R = out' ++ Du.refP K ok (some y.t) (l.drop (i + 1)) := by
                          rw [HRS.out, hm']
                          obtain ⟨d, hd⟩ : ∃ d, K - s = d + 1 := ⟨K - s - 1, by omega⟩
                          rw [hd]
                          rfl
                        have HRX := Lib.hid hRX
                        have q6 : ¬ (0 : Int) < (ml : Int) := by rw [hME, hm']; simp
                        have q6n : ¬ 0 < ml := by rw [hME, hm']; simp
                        have HZ := HY.d0
                        clear hs hRX hm' hME
                        have hnx : 0 < i + 1 → (some y.t) = (l[i + 1 - 1]?).map Du.Due.t := fun _ => by rw [Nat.add_sub_cancel, HGI.out]; rfl
                        have HNX := Lib.hid hnx
                        clear hnx
                        go_wp2
                        exact ⟨⟨i + 1, out', some y.t, by have := HLT.out; omega, by go_num, HRX.out, HNX.out, (fun h => by omega), HZ⟩, by have := HLT.out; simp [intOf]; omega⟩
                      · obtain ⟨d0, r0, hmc⟩ := List.exists_cons_of_ne_nil hm'
                        have q6n : 0 < ml := by rw [hME, hmc]; simp
                        have q6 : (0 : Int) < (ml : Int) := by omega
                        have hsel : Du.sel (K - s) m' = m'[Du.minIdx m']! :: Du.sel (K - (s + 1)) (m'.eraseIdx (Du.minIdx m')) := by
                          obtain ⟨d, hd⟩ : ∃ d, K - s = d + 1 := ⟨K - s - 1, by omega⟩
                          rw [hd, show K - (s + 1) = d from by omega, hmc]
                          rfl
                        have hstart : Du.minIdx m' = Du.least (m'.drop 0) 0 0 d0.a := by rw [hmc]; simp [Du.minIdx, Du.least]
                        have hd0 : (m'[0]?).map Du.Due.a = some d0.a := by rw [hmc]; rfl
                        obtain ⟨b5, o5, rfl, -⟩ := RA.at3 (er_RA (HY.get 0 rfl)) 0 (by omega)
                        have HSEL := Lib.hid hsel
                        have HST := Lib.hid hstart
                        have HD0 := Lib.hid hd0
                        have HME := Lib.hid hME
                        have HSK := Lib.hid hs
                        clear hsel hstart hd0 hME hmc hm' hs
                        go_wp2
                        go_loopw [13, 14] (fun bb jj wr4 => ∃ (bi ji : Nat) (v : Int), bi < ml ∧ ji ≤ ml ∧ bb = .int .i64 bi ∧ jj = .int .i64 ji ∧ (m'[bi]?).map Du.Due.a = some v ∧ Du.minIdx m' = Du.least (m'.drop ji) ji bi v ∧ St w0 wr4 M (er 40 3 (.slice (some ⟨b5, o5, none⟩) ml c5) ml (dcs m') :: er 40 3 (.slice A6 out'.length c6) out'.length (dcs out') :: L)) (fun _ jj _ => ml - (intOf jj).toNat)
                        case atStart => exact ⟨0, 0, d0.a, q6n, by omega, rfl, rfl, HD0.out, HST.out, HY⟩
                        case round =>
                          obtain ⟨bi, ji, v, hbi, hji, rfl, rfl, hbv, hmn, HW⟩ := hrel
                          clear HY
                          have HMN := Lib.hid hmn
                          clear hmn
                          have hb1 : bi < m'.length := by have := HME.out; omega
                          have hsm : SrA w0 M (er 40 3 (.slice (some ⟨b5, o5, none⟩) ml c5) ml (dcs m') :: er 40 3 (.slice A6 out'.length c6) out'.length (dcs out') :: L) (some ⟨b5, o5, none⟩) (dcs m') := SrA.row 0 rfl
                          have hrb := hsm.at3 bi hb1
                          have hgb : m'[bi]! = m'[bi] := getElem!_pos m' bi hb1
                          rw [List.getElem?_eq_getElem hb1] at hbv
                          obtain ⟨x5, hx5⟩ : ∃ x5, x5 = m'[bi] := ⟨_, rfl⟩
                          rw [← hx5] at hrb hgb hbv
                          simp only [Option.map_some, Option.some.injEq] at hbv
                          subst hbv
                          have wbi : IntKind.i64.wrap (bi : Int) = (bi : Int) := by rw [IntKind.wrap_i64]; omega
                          have wji : IntKind.i64.wrap (ji : Int) = (ji : Int) := by rw [IntKind.wrap_i64]; omega
                          have bil : (bi : Int) < (ml : Int) := by omega
                          have HRB := Lib.hid hrb
                          have HGB := Lib.hid hgb
                          by_cases hjl : ji < ml
                          · have hj1 : ji < m'.length := by have := HME.out; omega
                            have hrj := hsm.at3 ji hj1
                            have hstep : Du.least (m'.drop ji) ji bi x5.a = if m'[ji].a < x5.a then Du.least (m'.drop (ji + 1)) (ji + 1) ji m'[ji].a else Du.least (m'.drop (ji + 1)) (ji + 1) bi x5.a := by
                              rw [List.drop_eq_getElem_cons hj1]
                              rfl
                            have hgj : (m'[ji]?).map Du.Due.a = some m'[ji].a := by rw [List.getElem?_eq_getElem hj1]; rfl
                            have hgb2 : (m'[bi]?).map Du.Due.a = some x5.a := by rw [List.getElem?_eq_getElem hb1, hx5]; rfl
                            obtain ⟨u, hu⟩ : ∃ u, u = m'[ji] := ⟨_, rfl⟩
                            rw [← hu] at hrj hstep hgj
                            have HRJ := Lib.hid hrj
                            have HSTEP := Lib.hid hstep
                            have HGJ := Lib.hid hgj
                            have HGB2 := Lib.hid hgb2
                            have HJL := Lib.hid hjl
                            have jil : (ji : Int) < (ml : Int) := by omega
                            clear hu hrj hstep hgj hgb2 hx5 hrb hgb hsm hb1 hj1 hjl
                            go_upto_region 21 with fail
                            refine Pt.wp_plan (fun w' => St w0 w' M (er 40 3 (.slice (some ⟨b5, o5, none⟩) ml c5) ml (dcs m') :: er 40 3 (.slice A6 out'.length c6) out'.length (dcs out') :: L)) (Pt.prs [0, 1, 2, 3, 5, 6, 7, 8] (Pt.rds [4, 9] (Pt.prs [10] .fin))) [] Try.mixed (by kernel_rfl) (fun _ _ d _ _ h => by cases d <;> exact h) HW.drew ?_
                            have HW2 := HW.drew
                            simp only [Pt.toL, Pt.rds, Pt.prs, Pt.at_, List.drop_succ_cons, List.drop_zero]
                            iterate 8 (refine Pt.pr_run (v := ?_) (by rfl) ?_ ?_; rotate_left; (focus (intro w'; go_simp; with_reducible rfl)); simp only [Act.put, List.setIfInBounds_toArray, List.set_cons_zero, List.set_cons_succ])
                            (refine Pt.rd_run (v := ?_) (by rfl) ?_ ?_; rotate_left; (focus (intro w' hS; have c := HRJ.out w' hS 2 _ rfl; go_simp; with_reducible rfl)); simp only [Act.put, List.setIfInBounds_toArray, List.set_cons_zero, List.set_cons_succ])
                            (refine Pt.rd_run (v := ?_) (by rfl) ?_ ?_; rotate_left; (focus (intro w' hS; have c := HRB.out w' hS 2 _ rfl; go_simp; with_reducible rfl)); simp only [Act.put, List.setIfInBounds_toArray, List.set_cons_zero, List.set_cons_succ])
                            clear HW
                            by_cases huv : u.a < x5.a
                            · have hl2 := HSTEP.out
                              rw [if_pos huv] at hl2
                              have HL2 := Lib.hid (HMN.out.trans hl2)
                              clear hl2
                              (refine Pt.pr_run (v := ?_) (by rfl) ?_ ?_; rotate_left; (focus (intro w'; go_simp; with_reducible rfl)); simp only [Act.put, List.setIfInBounds_toArray, List.set_cons_zero, List.set_cons_succ])
                              refine Pt.run_fin ?_
                              go_wp2
                              exact ⟨⟨ji, ji + 1, u.a, HJL.out, by have := HJL.out; omega, rfl, by go_num, HGJ.out, HL2.out, HW2⟩, by have := HJL.out; simp [intOf]; omega⟩
                            · have hl2 := HSTEP.out
                              rw [if_neg huv] at hl2
                              have HL2 := Lib.hid (HMN.out.trans hl2)
                              clear hl2
                              (refine Pt.pr_run (v := ?_) (by rfl) ?_ ?_; rotate_left; (focus (intro w'; go_simp; with_reducible rfl)); simp only [Act.put, List.setIfInBounds_toArray, List.set_cons_zero, List.set_cons_succ])
                              refine Pt.run_fin ?_
                              go_wp2
                              exact ⟨⟨bi, ji + 1, x5.a, by omega, by have := HJL.out; omega, rfl, by go_num, HGB2.out, HL2.out, HW2⟩, by have := HJL.out; simp [intOf]; omega⟩
                          · obtain rfl : ji = ml := by omega
                            have hmi : Du.minIdx m' = bi := by rw [HMN.out, HME.out, List.drop_length]; rfl
                            have hRS2 : R = (out' ++ [x5]) ++ (Du.sel (K - (s + 1)) (m'.eraseIdx bi) ++ Du.refP K ok (some y.t) (l.drop (i + 1))) := by
                              rw [HRS.out, HSEL.out, hmi, HGB.out]
                              simp
                            have hol : out'.length + 1 ≤ 64000000 := by
                              have := congrArg List.length hRS2
                              simp only [List.length_append, List.length_singleton] at this
                              omega
                            have HRS2 := Lib.hid hRS2
                            have hsplit : dcs m' = dcs (m'.take bi) ++ (dcs [x5] ++ dcs (m'.drop (bi + 1))) := by
                              rw [← dcs_append, ← dcs_append]
                              congr 1
                              rw [hx5, List.singleton_append, ← List.drop_eq_getElem_cons hb1, List.take_append_drop]
                            have hera : m'.eraseIdx bi = m'.take bi ++ m'.drop (bi + 1) := List.eraseIdx_eq_take_drop_succ m' bi
                            have htk : (m'.take bi).length = bi := by rw [List.length_take]; omega
                            have hdl : (m'.drop (bi + 1)).length = ji - (bi + 1) := by rw [List.length_drop, HME.out]
                            have HSPL := Lib.hid hsplit
                            have HERA := Lib.hid hera
                            have HTK := Lib.hid htk
                            have HDL := Lib.hid hdl
                            have rg := HRB.out _ HW
                            have RG := Lib.hid rg
                            have HW2 := HW.new [.int .u64 (x5.t : Int), .int .u64 (x5.s : Int), .int .i64 x5.a] 40
                            have ra := (HW2.blk 0 rfl).ra 0 3 [.int .u64 (x5.t : Int), .int .u64 (x5.s : Int), .int .i64 x5.a] rfl
                            have RA1 := Lib.hid ra
                            clear hmi hRS2 hsplit hera htk hdl rg ra hsm hrb hgb hx5 hb1 hjl
                            go_wp2_with first
                              | (refine wpList_load_mid (by rfl) 40 (.tmp 120) (by rfl) b5 (o5 + bi * 3) (by rfl) [.int .u64 (x5.t : Int), .int .u64 (x5.s : Int), .int .i64 x5.a] _ RG.out Try.underlying40 rfl (by exact Try.sizeDue) ?_)
                              | (at_builtin; refine wpList_append_any_st HW2.f2 (by rfl) (.tmp 117) (.tmp 122) 22 (by rfl) Try.infoDue (by rfl) (by decide) Try.underlying22 (by rfl) (some ⟨_, 0, none⟩) 1 1 [.int .u64 (x5.t : Int), .int .u64 (x5.s : Int), .int .i64 x5.a] (by rfl) (by rfl) (by rintro ⟨⟩) RA1.out (by simp [Value.oneCell']) (by omega) (by omega) ?_)
                            intro v7 w7 HV
                            have HV2 : St w0 w7 M (er 40 3 (.slice (some ⟨b5, o5, none⟩) ji c5) ji (dcs m') :: er 40 3 v7 (out' ++ [x5]).length (dcs (out' ++ [x5])) :: L) := by
                              rw [List.length_append, dcs_append]
                              exact HV.d1.f1
                            clear HW HW2 HV RG RA1
                            have b1 : (bi : Int) ≤ (ji : Int) := by omega
                            have b2 : (bi : Int) + 1 ≤ (ji : Int) := by omega
                            have b3 : (ji : Int) ≤ (c5 : Int) := by omega
                            have b4 : (bi : Int) ≤ (c5 : Int) := by omega
                            have b5' : (bi : Int) + 1 ≤ (c5 : Int) := by omega
                            have b6 : bi ≤ c5 := by omega
                            have b7 : bi + 1 ≤ c5 := by omega
                            have wb1 : IntKind.i64.wrap ((bi : Int) + 1) = (bi : Int) + 1 := by rw [IntKind.wrap_i64]; omega
                            have b0 : (0 : Int) ≤ (bi : Int) + 1 := by omega
                            by_cases hcc : c5 = bi + 1
                            · skip
                              have b8 : (bi : Int) ≤ (bi : Int) + 1 := by omega
                              have b9 : (ji : Int) ≤ (bi : Int) + 1 := by omega
                              have b10 : (bi : Int) + 1 ≤ (bi : Int) + 1 := by omega
                              go_upto_region 24 with fail
                              refine Pt.wp_plan (fun w' => St w0 w' M (er 40 3 (.slice (some ⟨b5, o5, none⟩) ji c5) ji (dcs m') :: er 40 3 v7 (out' ++ [x5]).length (dcs (out' ++ [x5])) :: L)) (Pt.prs [1, 2, 3, 5, 6, 7, 8] (.go 0 (.go 4 (.go 9 (Pt.prs [10] .fin))))) [] Try.mixed (by kernel_rfl) (fun _ _ d _ _ h => by cases d <;> exact h) HV2.drew ?_
                              have HV3 := HV2.drew
                              simp only [Pt.toL, Pt.rds, Pt.prs, Pt.at_, List.drop_succ_cons, List.drop_zero]
                              iterate 7 (refine Pt.pr_run (v := ?_) (by rfl) ?_ ?_; rotate_left; (focus (intro w'; go_simp; with_reducible rfl)); simp only [Act.put, List.setIfInBounds_toArray, List.set_cons_zero, List.set_cons_succ])
                              generalize hxx : World.drew _ = wz at *
                              clear hxx HV2
                              refine Pt.run_go ?_
                              have HX := HV3.lit00 40 3
                              go_wp2_with fail
                              refine Pt.same HX.d0 ?_
                              have rr := er_RA (HX.get 1 rfl)
                              rw [HSPL.out] at rr
                              refine Pt.run_go ?_
                              refine wpList_append_any_st HX (by rfl) (.tmp 124) (.tmp 127) 22 (by rfl) Try.infoDue (by rfl) (by decide) Try.underlying22 (by rfl) (some ⟨b5, o5, none⟩) bi _ (dcs (m'.take bi)) (by rfl) (by rw [dcs_length, HTK.out]) (by rintro ⟨⟩) (RA.leftD rr) (dcs_one _) (by omega) (by omega) ?_
                              intro v8 w8 HX2
                              refine wpList_nil ?_
                              refine Pt.same HX2.d0 ?_
                              simp only [Act.put, List.setIfInBounds_toArray, List.set_cons_zero, List.set_cons_succ]
                              have hdn : dcs (m'.drop (bi + 1)) = [] := List.eq_nil_of_length_eq_zero (by rw [dcs_length, HDL.out]; omega)
                              have rr2 : True := trivial
                              have rr3 : RA w8 (some ⟨b5, o5, none⟩) (dcs (m'.drop (bi + 1))) := fun hne => absurd hdn hne
                              refine Pt.run_go ?_
                              refine wpList_append_any_st HX2 (by rfl) (.tmp 128) (.tmp 132) 22 (by rfl) Try.infoDue (by rfl) (by decide) Try.underlying22 (by rfl) (some ⟨b5, o5, none⟩) (ji - (bi + 1)) _ (dcs (m'.drop (bi + 1))) (by rfl) (by rw [dcs_length, HDL.out]) (by rintro ⟨⟩) rr3 (dcs_one _) (by omega) (by omega) ?_
                              intro v9 w9 HX3
                              refine wpList_nil ?_
                              refine Pt.same HX3.d0 ?_
                              simp only [Act.put, List.setIfInBounds_toArray, List.set_cons_zero, List.set_cons_succ]
                              (refine Pt.pr_run (v := ?_) (by rfl) ?_ ?_; rotate_left; (focus (intro w'; go_simp; with_reducible rfl)); simp only [Act.put, List.setIfInBounds_toArray, List.set_cons_zero, List.set_cons_succ])
                              refine Pt.run_fin ?_
                              have HZ2 : St w0 w9 M (er 40 3 v9 (m'.eraseIdx bi).length (dcs (m'.eraseIdx bi)) :: er 40 3 v7 (out' ++ [x5]).length (dcs (out' ++ [x5])) :: L) := by
                                rw [HERA.out, List.length_append, HTK.out, HDL.out, dcs_append]
                                simpa using HX3.d1
                              have hel : (m'.eraseIdx bi).length ≤ 1000000 := by rw [HERA.out, List.length_append, HTK.out, HDL.out]; omega
                              clear HX HX2 HX3 rr rr2 rr3 HV3
                              go_wp2
                              exact ⟨⟨s + 1, out' ++ [x5], m'.eraseIdx bi, by have := HSK.out; omega, by go_num, HRS2.out, hel, HZ2⟩, by have := HSK.out; simp [intOf]; omega⟩
                            · skip
                              go_upto_region 24 with fail
                              refine Pt.wp_plan (fun w' => St w0 w' M (er 40 3 (.slice (some ⟨b5, o5, none⟩) ji c5) ji (dcs m') :: er 40 3 v7 (out' ++ [x5]).length (dcs (out' ++ [x5])) :: L)) (Pt.prs [1, 2, 3, 5, 6, 7, 8] (.go 0 (.go 4 (.go 9 (Pt.prs [10] .fin))))) [] Try.mixed (by kernel_rfl) (fun _ _ d _ _ h => by cases d <;> exact h) HV2.drew ?_
                              have HV3 := HV2.drew
                              simp only [Pt.toL, Pt.rds, Pt.prs, Pt.at_, List.drop_succ_cons, List.drop_zero]
                              iterate 7 (refine Pt.pr_run (v := ?_) (by rfl) ?_ ?_; rotate_left; (focus (intro w'; go_simp; with_reducible rfl)); simp only [Act.put, List.setIfInBounds_toArray, List.set_cons_zero, List.set_cons_succ])
                              generalize hxx : World.drew _ = wz at *
                              clear hxx HV2
                              refine Pt.run_go ?_
                              have HX := HV3.lit00 40 3
                              go_wp2_with fail
                              refine Pt.same HX.d0 ?_
                              have rr := er_RA (HX.get 1 rfl)
                              rw [HSPL.out] at rr
                              refine Pt.run_go ?_
                              refine wpList_append_any_st HX (by rfl) (.tmp 124) (.tmp 127) 22 (by rfl) Try.infoDue (by rfl) (by decide) Try.underlying22 (by rfl) (some ⟨b5, o5, none⟩) bi c5 (dcs (m'.take bi)) (by rfl) (by rw [dcs_length, HTK.out]) (by rintro ⟨⟩) (RA.leftD rr) (dcs_one _) (by omega) (by omega) ?_
                              intro v8 w8 HX2
                              refine wpList_nil ?_
                              refine Pt.same HX2.d0 ?_
                              simp only [Act.put, List.setIfInBounds_toArray, List.set_cons_zero, List.set_cons_succ]
                              have rr2 := er_RA (HX2.get 1 rfl)
                              rw [HSPL.out, ← List.append_assoc] at rr2
                              have rr3 := RA.rightD rr2
                              have e9 : o5 + (dcs (m'.take bi) ++ dcs [x5]).length = o5 + (bi + 1) * 3 := by rw [List.length_append, dcs_length, dcs_length, HTK.out, List.length_singleton]; omega
                              rw [e9] at rr3
                              refine Pt.run_go ?_
                              refine wpList_append_any_st HX2 (by rfl) (.tmp 128) (.tmp 132) 22 (by rfl) Try.infoDue (by rfl) (by decide) Try.underlying22 (by rfl) (some ⟨b5, o5 + (bi + 1) * 3, none⟩) (ji - (bi + 1)) (c5 - (bi + 1)) (dcs (m'.drop (bi + 1))) (by rfl) (by rw [dcs_length, HDL.out]) (by rintro ⟨⟩) rr3 (dcs_one _) (by omega) (by omega) ?_
                              intro v9 w9 HX3
                              refine wpList_nil ?_
                              refine Pt.same HX3.d0 ?_
                              simp only [Act.put, List.setIfInBounds_toArray, List.set_cons_zero, List.set_cons_succ]
                              (refine Pt.pr_run (v := ?_) (by rfl) ?_ ?_; rotate_left; (focus (intro w'; go_simp; with_reducible rfl)); simp only [Act.put, List.setIfInBounds_toArray, List.set_cons_zero, List.set_cons_succ])
                              refine Pt.run_fin ?_
                              have HZ2 : St w0 w9 M (er 40 3 v9 (m'.eraseIdx bi).length (dcs (m'.eraseIdx bi)) :: er 40 3 v7 (out' ++ [x5]).length (dcs (out' ++ [x5])) :: L) := by
                                rw [HERA.out, List.length_append, HTK.out, HDL.out, dcs_append]
                                simpa using HX3.d1
                              have hel : (m'.eraseIdx bi).length ≤ 1000000 := by rw [HERA.out, List.length_append, HTK.out, HDL.out]; omega
                              clear HX HX2 HX3 rr rr2 rr3 HV3
                              go_wp2
                              exact ⟨⟨s + 1, out' ++ [x5], m'.eraseIdx bi, by have := HSK.out; omega, by go_num, HRS2.out, hel, HZ2⟩, by have := HSK.out; simp [intOf]; omega⟩
                    · obtain rfl : s = K := by omega
                      have hRX : R = out' ++ Du.refP s ok (some y.t) (l.drop (i + 1)) := by
                        rw [HRS.out, Nat.sub_self]
                        rfl
                      have HRX := Lib.hid hRX
                      have HZ := HY.d0
                      clear hs hRX
                      have hnx : 0 < i + 1 → (some y.t) = (l[i + 1 - 1]?).map Du.Due.t := fun _ => by rw [Nat.add_sub_cancel, HGI.out]; rfl
                      have HNX := Lib.hid hnx
                      clear hnx
                      go_wp2
                      exact ⟨⟨i + 1, out', some y.t, by have := HLT.out; omega, by go_num, HRX.out, HNX.out, (fun h => by omega), HZ⟩, by have := HLT.out; simp [intOf]; omega⟩
            · obtain ⟨h, hh⟩ : ∃ h, h = i - 1 := ⟨_, rfl⟩
              have hh1 : h < l.length := by omega
              have hsh := hl.at3 h hh1
              have e1 : (i : Int) - 1 = (h : Int) := by omega
              have e2 : (0 : Int) < (i : Int) := by omega
              have hi0 : 0 < i := by omega
              have wh : IntKind.i64.wrap (h : Int) = (h : Int) := by rw [IntKind.wrap_i64]; omega
              have hln : (h : Int) < (n : Int) := by omega
              have hpv : p = some (l[h]'hh1).t := by rw [HP1.out hi0, ← hh, List.getElem?_eq_getElem hh1]; rfl
              subst hpv
              rw [hdd, Du.refP, ← hdd] at hR3
              obtain ⟨y, hy⟩ : ∃ y, y = l[i] := ⟨_, rfl⟩
              obtain ⟨x, hx⟩ : ∃ x, x = l[h] := ⟨_, rfl⟩
              rw [← hy] at hrg hR3 hgi
              rw [← hx] at hsh hR3
              have HRG := Lib.hid hrg
              have HSH := Lib.hid hsh
              have HR3 := Lib.hid hR3
              have HGI := Lib.hid hgi
              clear hy hx hrg hsh hR3 hgi hdd hi1 hlt HR2 HP1 HP0 h0 hh hh1
              go_upto_region 7 with fail
              refine Pt.wp_plan (fun w' => St w0 w' M (er 40 3 (.slice A2 out.length c2) out.length (dcs out) :: L)) (Pt.prs [0, 1, 2, 3, 4, 5, 6, 7, 9, 10, 11, 12] (Pt.rds [8, 13] (Pt.prs [14, 15] .fin))) [] Try.mixed (by kernel_rfl) (fun _ _ d _ _ h => by cases d <;> exact h) H7.drew ?_
              have H8 := H7.drew
              simp only [Pt.toL, Pt.rds, Pt.prs, Pt.at_, List.drop_succ_cons, List.drop_zero]
              iterate 12 (refine Pt.pr_run (v := ?_) (by rfl) ?_ ?_; rotate_left; (focus (intro w'; go_simp; with_reducible rfl)); simp only [Act.put, List.setIfInBounds_toArray, List.set_cons_zero, List.set_cons_succ])
              (refine Pt.rd_run (v := ?_) (by rfl) ?_ ?_; rotate_left; (focus (intro w' hS; have c := HSH.out w' hS.d0 0 _ rfl; rw [Nat.add_zero] at c; go_simp; with_reducible rfl)); simp only [Act.put, List.setIfInBounds_toArray, List.set_cons_zero, List.set_cons_succ])
              (refine Pt.rd_run (v := ?_) (by rfl) ?_ ?_; rotate_left; (focus (intro w' hS; have c := HRG.out w' hS.d0 0 _ rfl; rw [Nat.add_zero] at c; go_simp; with_reducible rfl)); simp only [Act.put, List.setIfInBounds_toArray, List.set_cons_zero, List.set_cons_succ])
              clear H7
              by_cases hxy : x.t = y.t
              · have q : ((x.t : Int) == (y.t : Int)) = true := by rw [hxy]; simp
                have hRX := HR3.out
                rw [if_pos (by rw [hxy]), hxy] at hRX
                have HRX := Lib.hid hRX
                obtain ⟨out', ho'⟩ : ∃ out', out' = out := ⟨_, rfl⟩
                subst ho'
                have HZ := H8
                clear hRX hxy
                iterate 2 (refine Pt.pr_run (v := ?_) (by rfl) ?_ ?_; rotate_left; (focus (intro w'; go_simp; with_reducible rfl)); simp only [Act.put, List.setIfInBounds_toArray, List.set_cons_zero, List.set_cons_succ])
                refine Pt.run_fin ?_
                have hnx : 0 < i + 1 → (some y.t) = (l[i + 1 - 1]?).map Du.Due.t := fun _ => by rw [Nat.add_sub_cancel, HGI.out]; rfl
                have HNX := Lib.hid hnx
                clear hnx H8
                go_wp2
                exact ⟨⟨i + 1, out', some y.t, by have := HLT.out; omega, by go_num, HRX.out, HNX.out, (fun h => by omega), HZ⟩, by have := HLT.out; simp [intOf]; omega⟩
              · have q : ((x.t : Int) == (y.t : Int)) = false := by simp; omega
                have hRX := HR3.out
                rw [if_neg (by simp; omega)] at hRX
                have HRN := Lib.hid hRX
                clear hRX hxy
                iterate 2 (refine Pt.pr_run (v := ?_) (by rfl) ?_ ?_; rotate_left; (focus (intro w'; go_simp; with_reducible rfl)); simp only [Act.put, List.setIfInBounds_toArray, List.set_cons_zero, List.set_cons_succ])
                refine Pt.run_fin ?_
                generalize hxx : World.drew _ = wy at *
                clear hxx
                have hG := HRN.out
                obtain ⟨G, hGe⟩ : ∃ G, G = (l.drop i).takeWhile fun x => x.t == y.t := ⟨_, rfl⟩
                rw [← hGe] at hG
                have HRN2 := Lib.hid hG
                have HGE := Lib.hid hGe
                have H9 := H8.lit00 40 3
                clear hG hGe
                go_wp2
                go_loopw [10, 11] (fun mv j wr2 => ∃ (j' : Nat) (X mine : List Due), i ≤ j' ∧ j' ≤ n ∧ j = .int .i64 j' ∧ G = X ++ (l.drop j').takeWhile (fun x => x.t == y.t) ∧ mine = X.filter ok ∧ mine.length ≤ j' ∧ St w0 wr2 M (er 40 3 mv mine.length (dcs mine) :: er 40 3 (.slice A2 out.length c2) out.length (dcs out) :: L)) (fun _ j _ => n - (intOf j).toNat)
                case atStart => exact ⟨i, [], [], Nat.le_refl _, by have := HLT.out; omega, rfl, HGE.out, rfl, by simp, H9⟩
                case round =>
                  obtain ⟨j, X, mine, hij, hj, rfl, hGX, hmX, hml, HM⟩ := hrel
                  clear H8 H9
                  have HGX := Lib.hid hGX
                  have HMX := Lib.hid hmX
                  clear hGX hmX
                  obtain ⟨A3, c3, rfl, hc3⟩ := HM.shape 0 rfl
                  by_cases hjn : j < n
                  · have hj1 : j < l.length := by have := HN.out; omega
                    have hsj := hl.at3 j hj1
                    have htw : (l.drop j).takeWhile (fun x => x.t == y.t) = if l[j].t == y.t then l[j] :: (l.drop (j + 1)).takeWhile (fun x => x.t == y.t) else [] := by
                      rw [List.drop_eq_getElem_cons hj1, List.takeWhile_cons]
                    obtain ⟨z, hz⟩ : ∃ z, z = l[j] := ⟨_, rfl⟩
                    rw [← hz] at hsj htw
                    have HSJ := Lib.hid hsj
                    have HTW := Lib.hid htw
                    have HJN := Lib.hid hjn
                    have r2 : (j : Int) < (n : Int) := by omega
                    have wj : IntKind.i64.wrap (j : Int) = (j : Int) := by rw [IntKind.wrap_i64]; omega
                    clear hz hsj htw hj1 hjn
                    go_upto_region 10 with fail
                    refine Pt.wp_plan (fun w' => St w0 w' M (er 40 3 (.slice A3 mine.length c3) mine.length (dcs mine) :: er 40 3 (.slice A2 out.length c2) out.length (dcs out) :: L)) (Pt.prs [0, 1, 2, 3, 4, 5, 6, 7, 8, 10, 11, 12, 13] (Pt.rds [9, 14] (Pt.prs [15, 16] .fin))) [] Try.mixed (by kernel_rfl) (fun _ _ d _ _ h => by cases d <;> exact h) HM.drew ?_
                    have HM2 := HM.drew
                    simp only [Pt.toL, Pt.rds, Pt.prs, Pt.at_, List.drop_succ_cons, List.drop_zero]
                    iterate 13 (refine Pt.pr_run (v := ?_) (by rfl) ?_ ?_; rotate_left; (focus (intro w'; go_simp; with_reducible rfl)); simp only [Act.put, List.setIfInBounds_toArray, List.set_cons_zero, List.set_cons_succ])
                    (refine Pt.rd_run (v := ?_) (by rfl) ?_ ?_; rotate_left; (focus (intro w' hS; have c := HSJ.out w' hS.d0.d0 0 _ rfl; rw [Nat.add_zero] at c; go_simp; with_reducible rfl)); simp only [Act.put, List.setIfInBounds_toArray, List.set_cons_zero, List.set_cons_succ])
                    (refine Pt.rd_run (v := ?_) (by rfl) ?_ ?_; rotate_left; (focus (intro w' hS; have c := HRG.out w' hS.d0.d0 0 _ rfl; rw [Nat.add_zero] at c; go_simp; with_reducible rfl)); simp only [Act.put, List.setIfInBounds_toArray, List.set_cons_zero, List.set_cons_succ])
                    generalize hxx : World.drew _ = wy2 at *
                    clear hxx HM
                    by_cases hzy : z.t = y.t
                    · have q : ((z.t : Int) == (y.t : Int)) = true := by rw [hzy]; simp
                      have htw2 : (l.drop j).takeWhile (fun x => x.t == y.t) = z :: (l.drop (j + 1)).takeWhile (fun x => x.t == y.t) := by rw [HTW.out, if_pos (by simp [hzy])]
                      have hGX2 : G = (X ++ [z]) ++ (l.drop (j + 1)).takeWhile (fun x => x.t == y.t) := by rw [HGX.out, htw2]; simp
                      have HGX2 := Lib.hid hGX2
                      clear hzy htw2 hGX2
                      iterate 2 (refine Pt.pr_run (v := ?_) (by rfl) ?_ ?_; rotate_left; (focus (intro w'; go_simp; with_reducible rfl)); simp only [Act.put, List.setIfInBounds_toArray, List.set_cons_zero, List.set_cons_succ])
                      refine Pt.run_fin ?_
                      have ca := HSJ.out wy2 HM2.d0.d0 2 _ rfl
                      by_cases hza : z.a ≤ now
                      · have hmm : mine ++ [z] = (X ++ [z]).filter ok := by rw [List.filter_append, ← HMX.out, List.filter_cons_of_pos ((HOK.out z).1 hza), List.filter_nil]
                        have HMM := Lib.hid hmm
                        have rg := HSJ.out wy2 HM2.d0.d0
                        have RG := Lib.hid rg
                        have HM3 := HM2.new [.int .u64 (z.t : Int), .int .u64 (z.s : Int), .int .i64 z.a] 40
                        have ra := (HM3.blk 0 rfl).ra 0 3 [.int .u64 (z.t : Int), .int .u64 (z.s : Int), .int .i64 z.a] rfl
                        have RA1 := Lib.hid ra
                        clear hmm rg ra
                        go_wp2_with first
                          | (refine wpList_load_mid (by rfl) 40 (.tmp 85) (by rfl) b (o + j * 3) (by rfl) [.int .u64 (z.t : Int), .int .u64 (z.s : Int), .int .i64 z.a] _ RG.out Try.underlying40 rfl (by exact Try.sizeDue) ?_)
                          | (at_builtin; refine wpList_append_any_st HM3.f1 (by rfl) (.tmp 82) (.tmp 87) 22 (by rfl) Try.infoDue (by rfl) (by decide) Try.underlying22 (by rfl) (some ⟨wy2.heap.size, 0, none⟩) 1 1 [.int .u64 (z.t : Int), .int .u64 (z.s : Int), .int .i64 z.a] (by rfl) (by rfl) (by rintro ⟨⟩) RA1.out (by simp [Value.oneCell']) (by omega) (by omega) ?_)
                        intro v5 w6 HM4
                        have HM5 : St w0 w6 M (er 40 3 v5 (mine ++ [z]).length (dcs (mine ++ [z])) :: er 40 3 (.slice A2 out.length c2) out.length (dcs out) :: L) := by
                          rw [List.length_append, dcs_append]
                          exact HM4.d1
                        clear HM2 HM3 HM4 RG RA1
                        go_wp2
                        exact ⟨⟨j + 1, X ++ [z], mine ++ [z], by omega, by have := HJN.out; omega, by go_num, HGX2.out, HMM.out, by rw [List.length_append, List.length_singleton]; omega, HM5⟩, by have := HJN.out; simp [intOf]; omega⟩
                      · have hmm : mine = (X ++ [z]).filter ok := by rw [List.filter_append, ← HMX.out, List.filter_cons_of_neg (by rw [(HOK.out z).2 (by omega)]; simp), List.filter_nil, List.append_nil]
                        have HMM := Lib.hid hmm
                        clear hmm
                        go_wp2
                        exact ⟨⟨j + 1, X ++ [z], mine, by omega, by have := HJN.out; omega, by go_num, HGX2.out, HMM.out, by omega, HM2⟩, by have := HJN.out; simp [intOf]; omega⟩
                    · have q : ((z.t : Int) == (y.t : Int)) = false := by simp; omega
                      have hRA : R = out ++ (Du.sel (K - 0) mine ++ Du.refP K ok (some y.t) (l.drop (i + 1))) := by
                        rw [HRN2.out, HGX.out, HTW.out, if_neg (by simp [hzy]), List.append_nil, ← HMX.out]
                        rfl
                      have HRA := Lib.hid hRA
                      clear hRA hzy
                      iterate 2 (refine Pt.pr_run (v := ?_) (by rfl) ?_ ?_; rotate_left; (focus (intro w'; go_simp; with_reducible rfl)); simp only [Act.put, List.setIfInBounds_toArray, List.set_cons_zero, List.set_cons_succ])
                      refine Pt.run_fin ?_
                      have HM := HM2
                      clear HM2
                      go_wp2
                      go_loopw [8, 10, 12] (fun ov mv kk wr3 => ∃ (s : Nat) (out' m' : List Due), s ≤ K ∧ kk = .int .i64 s ∧ R = out' ++ (Du.sel (K - s) m' ++ Du.refP K ok (some y.t) (l.drop (i + 1))) ∧ m'.length ≤ 1000000 ∧ St w0 wr3 M (er 40 3 mv m'.length (dcs m') :: er 40 3 ov out'.length (dcs out') :: L)) (fun _ _ kk _ => K - (intOf kk).toNat)
                      case atStart => exact ⟨0, out, mine, by omega, rfl, HRA.out, by omega, HM⟩
                      case round =>
                        obtain ⟨s, out', m', hsK, rfl, hRs, hml, HY⟩ := hrel
                        clear HM
                        have HRS := Lib.hid hRs
                        clear hRs
                        obtain ⟨A5, c5, rfl, hc5⟩ := HY.shape 0 rfl
                        obtain ⟨A6, c6, rfl, hc6⟩ := HY.shape 1 rfl
                        rcases Nat.lt_or_ge s K with hs | hs
                        · have q5 : (s : Int) < (K : Int) := by omega
                          obtain ⟨ml, hME⟩ : ∃ ml, ml = m'.length := ⟨_, rfl⟩
                          rw [← hME] at HY hml hc5 ⊢
                          by_cases hm' : m' = []
                          · have hRX : R = out' ++ Du.refP K ok (some y.t) (l.drop (i + 1)) := by
                              rw [HRS.out, hm']
                              obtain ⟨d, hd⟩ : ∃ d, K - s = d + 1 := ⟨K - s - 1, by omega⟩
                              rw [hd]
                              rfl
                            have HRX := Lib.hid hRX
                            have q6 : ¬ (0 : Int) < (ml : Int) := by rw [hME, hm']; simp
                            have q6n : ¬ 0 < ml := by rw [hME, hm']; simp
                            have HZ := HY.d0
                            clear hs hRX hm' hME
                            have hnx : 0 < i + 1 → (some y.t) = (l[i + 1 - 1]?).map Du.Due.t := fun _ => by rw [Nat.add_sub_cancel, HGI.out]; rfl
                            have HNX := Lib.hid hnx
                            clear hnx
                            go_wp2
                            exact ⟨⟨i + 1, out', some y.t, by have := HLT.out; omega, by go_num, HRX.out, HNX.out, (fun h => by omega), HZ⟩, by have := HLT.out; simp [intOf]; omega⟩
                          · obtain ⟨d0, r0, hmc⟩ := List.exists_cons_of_ne_nil hm'
                            have q6n : 0 < ml := by rw [hME, hmc]; simp
                            have q6 : (0 : Int) < (ml : Int) := by omega
                            have hsel : Du.sel (K - s) m' = m'[Du.minIdx m']! :: Du.sel (K - (s + 1)) (m'.eraseIdx (Du.minIdx m')) := by
                              obtain ⟨d, hd⟩ : ∃ d, K - s = d + 1 := ⟨K - s - 1, by omega⟩
                              rw [hd, show K - (s + 1) = d from by omega, hmc]
                              rfl
                            have hstart : Du.minIdx m' = Du.least (m'.drop 0) 0 0 d0.a := by rw [hmc]; simp [Du.minIdx, Du.least]
                            have hd0 : (m'[0]?).map Du.Due.a = some d0.a := by rw [hmc]; rfl
                            obtain ⟨b5, o5, rfl, -⟩ := RA.at3 (er_RA (HY.get 0 rfl)) 0 (by omega)
                            have HSEL := Lib.hid hsel
                            have HST := Lib.hid hstart
                            have HD0 := Lib.hid hd0
                            have HME := Lib.hid hME
                            have HSK := Lib.hid hs
                            clear hsel hstart hd0 hME hmc hm' hs
                            go_wp2
                            go_loopw [13, 14] (fun bb jj wr4 => ∃ (bi ji : Nat) (v : Int), bi < ml ∧ ji ≤ ml ∧ bb = .int .i64 bi ∧ jj = .int .i64 ji ∧ (m'[bi]?).map Du.Due.a = some v ∧ Du.minIdx m' = Du.least (m'.drop ji) ji bi v ∧ St w0 wr4 M (er 40 3 (.slice (some ⟨b5, o5, none⟩) ml c5) ml (dcs m') :: er 40 3 (.slice A6 out'.length c6) out'.length (dcs out') :: L)) (fun _ jj _ => ml - (intOf jj).toNat)
                            case atStart => exact ⟨0, 0, d0.a, q6n, by omega, rfl, rfl, HD0.out, HST.out, HY⟩
                            case round =>
                              obtain ⟨bi, ji, v, hbi, hji, rfl, rfl, hbv, hmn, HW⟩ := hrel
                              clear HY
                              have HMN := Lib.hid hmn
                              clear hmn
                              have hb1 : bi < m'.length := by have := HME.out; omega
                              have hsm : SrA w0 M (er 40 3 (.slice (some ⟨b5, o5, none⟩) ml c5) ml (dcs m') :: er 40 3 (.slice A6 out'.length c6) out'.length (dcs out') :: L) (some ⟨b5, o5, none⟩) (dcs m') := SrA.row 0 rfl
                              have hrb := hsm.at3 bi hb1
                              have hgb : m'[bi]! = m'[bi] := getElem!_pos m' bi hb1
                              rw [List.getElem?_eq_getElem hb1] at hbv
                              obtain ⟨x5, hx5⟩ : ∃ x5, x5 = m'[bi] := ⟨_, rfl⟩
                              rw [← hx5] at hrb hgb hbv
                              simp only [Option.map_some, Option.some.injEq] at hbv
                              subst hbv
                              have wbi : IntKind.i64.wrap (bi : Int) = (bi : Int) := by rw [IntKind.wrap_i64]; omega
                              have wji : IntKind.i64.wrap (ji : Int) = (ji : Int) := by rw [IntKind.wrap_i64]; omega
                              have bil : (bi : Int) < (ml : Int) := by omega
                              have HRB := Lib.hid hrb
                              have HGB := Lib.hid hgb
                              by_cases hjl : ji < ml
                              · have hj1 : ji < m'.length := by have := HME.out; omega
                                have hrj := hsm.at3 ji hj1
                                have hstep : Du.least (m'.drop ji) ji bi x5.a = if m'[ji].a < x5.a then Du.least (m'.drop (ji + 1)) (ji + 1) ji m'[ji].a else Du.least (m'.drop (ji + 1)) (ji + 1) bi x5.a := by
                                  rw [List.drop_eq_getElem_cons hj1]
                                  rfl
                                have hgj : (m'[ji]?).map Du.Due.a = some m'[ji].a := by rw [List.getElem?_eq_getElem hj1]; rfl
                                have hgb2 : (m'[bi]?).map Du.Due.a = some x5.a := by rw [List.getElem?_eq_getElem hb1, hx5]; rfl
                                obtain ⟨u, hu⟩ : ∃ u, u = m'[ji] := ⟨_, rfl⟩
                                rw [← hu] at hrj hstep hgj
                                have HRJ := Lib.hid hrj
                                have HSTEP := Lib.hid hstep
                                have HGJ := Lib.hid hgj
                                have HGB2 := Lib.hid hgb2
                                have HJL := Lib.hid hjl
                                have jil : (ji : Int) < (ml : Int) := by omega
                                clear hu hrj hstep hgj hgb2 hx5 hrb hgb hsm hb1 hj1 hjl
                                go_upto_region 21 with fail
                                refine Pt.wp_plan (fun w' => St w0 w' M (er 40 3 (.slice (some ⟨b5, o5, none⟩) ml c5) ml (dcs m') :: er 40 3 (.slice A6 out'.length c6) out'.length (dcs out') :: L)) (Pt.prs [0, 1, 2, 3, 5, 6, 7, 8] (Pt.rds [4, 9] (Pt.prs [10] .fin))) [] Try.mixed (by kernel_rfl) (fun _ _ d _ _ h => by cases d <;> exact h) HW.drew ?_
                                have HW2 := HW.drew
                                simp only [Pt.toL, Pt.rds, Pt.prs, Pt.at_, List.drop_succ_cons, List.drop_zero]
                                iterate 8 (refine Pt.pr_run (v := ?_) (by rfl) ?_ ?_; rotate_left; (focus (intro w'; go_simp; with_reducible rfl)); simp only [Act.put, List.setIfInBounds_toArray, List.set_cons_zero, List.set_cons_succ])
                                (refine Pt.rd_run (v := ?_) (by rfl) ?_ ?_; rotate_left; (focus (intro w' hS; have c := HRJ.out w' hS 2 _ rfl; go_simp; with_reducible rfl)); simp only [Act.put, List.setIfInBounds_toArray, List.set_cons_zero, List.set_cons_succ])
                                (refine Pt.rd_run (v := ?_) (by rfl) ?_ ?_; rotate_left; (focus (intro w' hS; have c := HRB.out w' hS 2 _ rfl; go_simp; with_reducible rfl)); simp only [Act.put, List.setIfInBounds_toArray, List.set_cons_zero, List.set_cons_succ])
                                clear HW
                                by_cases huv : u.a < x5.a
                                · have hl2 := HSTEP.out
                                  rw [if_pos huv] at hl2
                                  have HL2 := Lib.hid (HMN.out.trans hl2)
                                  clear hl2
                                  (refine Pt.pr_run (v := ?_) (by rfl) ?_ ?_; rotate_left; (focus (intro w'; go_simp; with_reducible rfl)); simp only [Act.put, List.setIfInBounds_toArray, List.set_cons_zero, List.set_cons_succ])
                                  refine Pt.run_fin ?_
                                  go_wp2
                                  exact ⟨⟨ji, ji + 1, u.a, HJL.out, by have := HJL.out; omega, rfl, by go_num, HGJ.out, HL2.out, HW2⟩, by have := HJL.out; simp [intOf]; omega⟩
                                · have hl2 := HSTEP.out
                                  rw [if_neg huv] at hl2
                                  have HL2 := Lib.hid (HMN.out.trans hl2)
                                  clear hl2
                                  (refine Pt.pr_run (v := ?_) (by rfl) ?_ ?_; rotate_left; (focus (intro w'; go_simp; with_reducible rfl)); simp only [Act.put, List.setIfInBounds_toArray, List.set_cons_zero, List.set_cons_succ])
                                  refine Pt.run_fin ?_
                                  go_wp2
                                  exact ⟨⟨bi, ji + 1, x5.a, by omega, by have := HJL.out; omega, rfl, by go_num, HGB2.out, HL2.out, HW2⟩, by have := HJL.out; simp [intOf]; omega⟩
                              · obtain rfl : ji = ml := by omega
                                have hmi : Du.minIdx m' = bi := by rw [HMN.out, HME.out, List.drop_length]; rfl
                                have hRS2 : R = (out' ++ [x5]) ++ (Du.sel (K - (s + 1)) (m'.eraseIdx bi) ++ Du.refP K ok (some y.t) (l.drop (i + 1))) := by
                                  rw [HRS.out, HSEL.out, hmi, HGB.out]
                                  simp
                                have hol : out'.length + 1 ≤ 64000000 := by
                                  have := congrArg List.length hRS2
                                  simp only [List.length_append, List.length_singleton] at this
                                  omega
                                have HRS2 := Lib.hid hRS2
                                have hsplit : dcs m' = dcs (m'.take bi) ++ (dcs [x5] ++ dcs (m'.drop (bi + 1))) := by
                                  rw [← dcs_append, ← dcs_append]
                                  congr 1
                                  rw [hx5, List.singleton_append, ← List.drop_eq_getElem_cons hb1, List.take_append_drop]
                                have hera : m'.eraseIdx bi = m'.take bi ++ m'.drop (bi + 1) := List.eraseIdx_eq_take_drop_succ m' bi
                                have htk : (m'.take bi).length = bi := by rw [List.length_take]; omega
                                have hdl : (m'.drop (bi + 1)).length = ji - (bi + 1) := by rw [List.length_drop, HME.out]
                                have HSPL := Lib.hid hsplit
                                have HERA := Lib.hid hera
                                have HTK := Lib.hid htk
                                have HDL := Lib.hid hdl
                                have rg := HRB.out _ HW
                                have RG := Lib.hid rg
                                have HW2 := HW.new [.int .u64 (x5.t : Int), .int .u64 (x5.s : Int), .int .i64 x5.a] 40
                                have ra := (HW2.blk 0 rfl).ra 0 3 [.int .u64 (x5.t : Int), .int .u64 (x5.s : Int), .int .i64 x5.a] rfl
                                have RA1 := Lib.hid ra
                                clear hmi hRS2 hsplit hera htk hdl rg ra hsm hrb hgb hx5 hb1 hjl
                                go_wp2_with first
                                  | (refine wpList_load_mid (by rfl) 40 (.tmp 120) (by rfl) b5 (o5 + bi * 3) (by rfl) [.int .u64 (x5.t : Int), .int .u64 (x5.s : Int), .int .i64 x5.a] _ RG.out Try.underlying40 rfl (by exact Try.sizeDue) ?_)
                                  | (at_builtin; refine wpList_append_any_st HW2.f2 (by rfl) (.tmp 117) (.tmp 122) 22 (by rfl) Try.infoDue (by rfl) (by decide) Try.underlying22 (by rfl) (some ⟨_, 0, none⟩) 1 1 [.int .u64 (x5.t : Int), .int .u64 (x5.s : Int), .int .i64 x5.a] (by rfl) (by rfl) (by rintro ⟨⟩) RA1.out (by simp [Value.oneCell']) (by omega) (by omega) ?_)
                                intro v7 w7 HV
                                have HV2 : St w0 w7 M (er 40 3 (.slice (some ⟨b5, o5, none⟩) ji c5) ji (dcs m') :: er 40 3 v7 (out' ++ [x5]).length (dcs (out' ++ [x5])) :: L) := by
                                  rw [List.length_append, dcs_append]
                                  exact HV.d1.f1
                                clear HW HW2 HV RG RA1
                                have b1 : (bi : Int) ≤ (ji : Int) := by omega
                                have b2 : (bi : Int) + 1 ≤ (ji : Int) := by omega
                                have b3 : (ji : Int) ≤ (c5 : Int) := by omega
                                have b4 : (bi : Int) ≤ (c5 : Int) := by omega
                                have b5' : (bi : Int) + 1 ≤ (c5 : Int) := by omega
                                have b6 : bi ≤ c5 := by omega
                                have b7 : bi + 1 ≤ c5 := by omega
                                have wb1 : IntKind.i64.wrap ((bi : Int) + 1) = (bi : Int) + 1 := by rw [IntKind.wrap_i64]; omega
                                have b0 : (0 : Int) ≤ (bi : Int) + 1 := by omega
                                by_cases hcc : c5 = bi + 1
                                · skip
                                  have b8 : (bi : Int) ≤ (bi : Int) + 1 := by omega
                                  have b9 : (ji : Int) ≤ (bi : Int) + 1 := by omega
                                  have b10 : (bi : Int) + 1 ≤ (bi : Int) + 1 := by omega
                                  go_upto_region 24 with fail
                                  refine Pt.wp_plan (fun w' => St w0 w' M (er 40 3 (.slice (some ⟨b5, o5, none⟩) ji c5) ji (dcs m') :: er 40 3 v7 (out' ++ [x5]).length (dcs (out' ++ [x5])) :: L)) (Pt.prs [1, 2, 3, 5, 6, 7, 8] (.go 0 (.go 4 (.go 9 (Pt.prs [10] .fin))))) [] Try.mixed (by kernel_rfl) (fun _ _ d _ _ h => by cases d <;> exact h) HV2.drew ?_
                                  have HV3 := HV2.drew
                                  simp only [Pt.toL, Pt.rds, Pt.prs, Pt.at_, List.drop_succ_cons, List.drop_zero]
                                  iterate 7 (refine Pt.pr_run (v := ?_) (by rfl) ?_ ?_; rotate_left; (focus (intro w'; go_simp; with_reducible rfl)); simp only [Act.put, List.setIfInBounds_toArray, List.set_cons_zero, List.set_cons_succ])
                                  generalize hxx : World.drew _ = wz at *
                                  clear hxx HV2
                                  refine Pt.run_go ?_
                                  have HX := HV3.lit00 40 3
                                  go_wp2_with fail
                                  refine Pt.same HX.d0 ?_
                                  have rr := er_RA (HX.get 1 rfl)
                                  rw [HSPL.out] at rr
                                  refine Pt.run_go ?_
                                  refine wpList_append_any_st HX (by rfl) (.tmp 124) (.tmp 127) 22 (by rfl) Try.infoDue (by rfl) (by decide) Try.underlying22 (by rfl) (some ⟨b5, o5, none⟩) bi _ (dcs (m'.take bi)) (by rfl) (by rw [dcs_length, HTK.out]) (by rintro ⟨⟩) (RA.leftD rr) (dcs_one _) (by omega) (by omega) ?_
                                  intro v8 w8 HX2
                                  refine wpList_nil ?_
                                  refine Pt.same HX2.d0 ?_
                                  simp only [Act.put, List.setIfInBounds_toArray, List.set_cons_zero, List.set_cons_succ]
                                  have hdn : dcs (m'.drop (bi + 1)) = [] := List.eq_nil_of_length_eq_zero (by rw [dcs_length, HDL.out]; omega)
                                  have rr2 : True := trivial
                                  have rr3 : RA w8 (some ⟨b5, o5, none⟩) (dcs (m'.drop (bi + 1))) := fun hne => absurd hdn hne
                                  refine Pt.run_go ?_
                                  refine wpList_append_any_st HX2 (by rfl) (.tmp 128) (.tmp 132) 22 (by rfl) Try.infoDue (by rfl) (by decide) Try.underlying22 (by rfl) (some ⟨b5, o5, none⟩) (ji - (bi + 1)) _ (dcs (m'.drop (bi + 1))) (by rfl) (by rw [dcs_length, HDL.out]) (by rintro ⟨⟩) rr3 (dcs_one _) (by omega) (by omega) ?_
                                  intro v9 w9 HX3
                                  refine wpList_nil ?_
                                  refine Pt.same HX3.d0 ?_
                                  simp only [Act.put, List.setIfInBounds_toArray, List.set_cons_zero, List.set_cons_succ]
                                  (refine Pt.pr_run (v := ?_) (by rfl) ?_ ?_; rotate_left; (focus (intro w'; go_simp; with_reducible rfl)); simp only [Act.put, List.setIfInBounds_toArray, List.set_cons_zero, List.set_cons_succ])
                                  refine Pt.run_fin ?_
                                  have HZ2 : St w0 w9 M (er 40 3 v9 (m'.eraseIdx bi).length (dcs (m'.eraseIdx bi)) :: er 40 3 v7 (out' ++ [x5]).length (dcs (out' ++ [x5])) :: L) := by
                                    rw [HERA.out, List.length_append, HTK.out, HDL.out, dcs_append]
                                    simpa using HX3.d1
                                  have hel : (m'.eraseIdx bi).length ≤ 1000000 := by rw [HERA.out, List.length_append, HTK.out, HDL.out]; omega
                                  clear HX HX2 HX3 rr rr2 rr3 HV3
                                  go_wp2
                                  exact ⟨⟨s + 1, out' ++ [x5], m'.eraseIdx bi, by have := HSK.out; omega, by go_num, HRS2.out, hel, HZ2⟩, by have := HSK.out; simp [intOf]; omega⟩
                                · skip
                                  go_upto_region 24 with fail
                                  refine Pt.wp_plan (fun w' => St w0 w' M (er 40 3 (.slice (some ⟨b5, o5, none⟩) ji c5) ji (dcs m') :: er 40 3 v7 (out' ++ [x5]).length (dcs (out' ++ [x5])) :: L)) (Pt.prs [1, 2, 3, 5, 6, 7, 8] (.go 0 (.go 4 (.go 9 (Pt.prs [10] .fin))))) [] Try.mixed (by kernel_rfl) (fun _ _ d _ _ h => by cases d <;> exact h) HV2.drew ?_
                                  have HV3 := HV2.drew
                                  simp only [Pt.toL, Pt.rds, Pt.prs, Pt.at_, List.drop_succ_cons, List.drop_zero]
                                  iterate 7 (refine Pt.pr_run (v := ?_) (by rfl) ?_ ?_; rotate_left; (focus (intro w'; go_simp; with_reducible rfl)); simp only [Act.put, List.setIfInBounds_toArray, List.set_cons_zero, List.set_cons_succ])
                                  generalize hxx : World.drew _ = wz at *
                                  clear hxx HV2
                                  refine Pt.run_go ?_
                                  have HX := HV3.lit00 40 3
                                  go_wp2_with fail
                                  refine Pt.same HX.d0 ?_
                                  have rr := er_RA (HX.get 1 rfl)
                                  rw [HSPL.out] at rr
                                  refine Pt.run_go ?_
                                  refine wpList_append_any_st HX (by rfl) (.tmp 124) (.tmp 127) 22 (by rfl) Try.infoDue (by rfl) (by decide) Try.underlying22 (by rfl) (some ⟨b5, o5, none⟩) bi c5 (dcs (m'.take bi)) (by rfl) (by rw [dcs_length, HTK.out]) (by rintro ⟨⟩) (RA.leftD rr) (dcs_one _) (by omega) (by omega) ?_
                                  intro v8 w8 HX2
                                  refine wpList_nil ?_
                                  refine Pt.same HX2.d0 ?_
                                  simp only [Act.put, List.setIfInBounds_toArray, List.set_cons_zero, List.set_cons_succ]
                                  have rr2 := er_RA (HX2.get 1 rfl)
                                  rw [HSPL.out, ← List.append_assoc] at rr2
                                  have rr3 := RA.rightD rr2
                                  have e9 : o5 + (dcs (m'.take bi) ++ dcs [x5]).length = o5 + (bi + 1) * 3 := by rw [List.length_append, dcs_length, dcs_length, HTK.out, List.length_singleton]; omega
                                  rw [e9] at rr3
                                  refine Pt.run_go ?_
                                  refine wpList_append_any_st HX2 (by rfl) (.tmp 128) (.tmp 132) 22 (by rfl) Try.infoDue (by rfl) (by decide) Try.underlying22 (by rfl) (some ⟨b5, o5 + (bi + 1) * 3, none⟩) (ji - (bi + 1)) (c5 - (bi + 1)) (dcs (m'.drop (bi + 1))) (by rfl) (by rw [dcs_length, HDL.out]) (by rintro ⟨⟩) rr3 (dcs_one _) (by omega) (by omega) ?_
                                  intro v9 w9 HX3
                                  refine wpList_nil ?_
                                  refine Pt.same HX3.d0 ?_
                                  simp only [Act.put, List.setIfInBounds_toArray, List.set_cons_zero, List.set_cons_succ]
                                  (refine Pt.pr_run (v := ?_) (by rfl) ?_ ?_; rotate_left; (focus (intro w'; go_simp; with_reducible rfl)); simp only [Act.put, List.setIfInBounds_toArray, List.set_cons_zero, List.set_cons_succ])
                                  refine Pt.run_fin ?_
                                  have HZ2 : St w0 w9 M (er 40 3 v9 (m'.eraseIdx bi).length (dcs (m'.eraseIdx bi)) :: er 40 3 v7 (out' ++ [x5]).length (dcs (out' ++ [x5])) :: L) := by
                                    rw [HERA.out, List.length_append, HTK.out, HDL.out, dcs_append]
                                    simpa using HX3.d1
                                  have hel : (m'.eraseIdx bi).length ≤ 1000000 := by rw [HERA.out, List.length_append, HTK.out, HDL.out]; omega
                                  clear HX HX2 HX3 rr rr2 rr3 HV3
                                  go_wp2
                                  exact ⟨⟨s + 1, out' ++ [x5], m'.eraseIdx bi, by have := HSK.out; omega, by go_num, HRS2.out, hel, HZ2⟩, by have := HSK.out; simp [intOf]; omega⟩
                        · obtain rfl : s = K := by omega
                          have hRX : R = out' ++ Du.refP s ok (some y.t) (l.drop (i + 1)) := by
                            rw [HRS.out, Nat.sub_self]
                            rfl
                          have HRX := Lib.hid hRX
                          have HZ := HY.d0
                          clear hs hRX
                          have hnx : 0 < i + 1 → (some y.t) = (l[i + 1 - 1]?).map Du.Due.t := fun _ => by rw [Nat.add_sub_cancel, HGI.out]; rfl
                          have HNX := Lib.hid hnx
                          clear hnx
                          go_wp2
                          exact ⟨⟨i + 1, out', some y.t, by have := HLT.out; omega, by go_num, HRX.out, HNX.out, (fun h => by omega), HZ⟩, by have := HLT.out; simp [intOf]; omega⟩
                  · obtain rfl : j = n := by omega
                    have htw : (l.drop j).takeWhile (fun x => x.t == y.t) = [] := by rw [HN.out, List.drop_length]; rfl
                    have hRA : R = out ++ (Du.sel (K - 0) mine ++ Du.refP K ok (some y.t) (l.drop (i + 1))) := by
                      rw [HRN2.out, HGX.out, htw, List.append_nil, ← HMX.out]
                      rfl
                    have HRA := Lib.hid hRA
                    clear hRA htw hjn
                    go_upto_region 10 with fail
                    refine Pt.wp_plan (fun w' => St w0 w' M (er 40 3 (.slice A3 mine.length c3) mine.length (dcs mine) :: er 40 3 (.slice A2 out.length c2) out.length (dcs out) :: L)) (Pt.prs [0, 1, 2, 3, 4, 5, 6, 7, 8, 10, 11, 12, 13] (Pt.rds [9, 14] (Pt.prs [15, 16] .fin))) [] Try.mixed (by kernel_rfl) (fun _ _ d _ _ h => by cases d <;> exact h) HM.drew ?_
                    have HM2 := HM.drew
                    simp only [Pt.toL, Pt.rds, Pt.prs, Pt.at_, List.drop_succ_cons, List.drop_zero]
                    iterate 5 (refine Pt.pr_run (v := ?_) (by rfl) ?_ ?_; rotate_left; (focus (intro w'; go_simp; with_reducible rfl)); simp only [Act.put, List.setIfInBounds_toArray, List.set_cons_zero, List.set_cons_succ])
                    iterate 8 (refine Pt.pr_skip (by rfl) ?_; simp only [Act.put, List.setIfInBounds_toArray, List.set_cons_zero, List.set_cons_succ])
                    iterate 2 (refine Pt.rd_skip (by rfl) ?_; simp only [Act.put, List.setIfInBounds_toArray, List.set_cons_zero, List.set_cons_succ])
                    (refine Pt.pr_skip (by rfl) ?_; simp only [Act.put, List.setIfInBounds_toArray, List.set_cons_zero, List.set_cons_succ])
                    (refine Pt.pr_run (v := ?_) (by rfl) ?_ ?_; rotate_left; (focus (intro w'; go_simp; with_reducible rfl)); simp only [Act.put, List.setIfInBounds_toArray, List.set_cons_zero, List.set_cons_succ])
                    refine Pt.run_fin ?_
                    clear HM
                    have HM := HM2
                    clear HM2
                    go_wp2
                    go_loopw [8, 10, 12] (fun ov mv kk wr3 => ∃ (s : Nat) (out' m' : List Due), s ≤ K ∧ kk = .int .i64 s ∧ R = out' ++ (Du.sel (K - s) m' ++ Du.refP K ok (some y.t) (l.drop (i + 1))) ∧ m'.length ≤ 1000000 ∧ St w0 wr3 M (er 40 3 mv m'.length (dcs m') :: er 40 3 ov out'.length (dcs out') :: L)) (fun _ _ kk _ => K - (intOf kk).toNat)
                    case atStart => exact ⟨0, out, mine, by omega, rfl, HRA.out, by omega, HM⟩
                    case round =>
                      obtain ⟨s, out', m', hsK, rfl, hRs, hml, HY⟩ := hrel
                      clear HM
                      have HRS := Lib.hid hRs
                      clear hRs
                      obtain ⟨A5, c5, rfl, hc5⟩ := HY.shape 0 rfl
                      obtain ⟨A6, c6, rfl, hc6⟩ := HY.shape 1 rfl
                      rcases Nat.lt_or_ge s K with hs | hs
                      · have q5 : (s : Int) < (K : Int) := by omega
                        obtain ⟨ml, hME⟩ : ∃ ml, ml = m'.length := ⟨_, rfl⟩
                        rw [← hME] at HY hml hc5 ⊢
                        by_cases hm' : m' = []
                        · have hRX : R = out' ++ Du.refP K ok (some y.t) (l.drop (i + 1)) := by
                            rw [HRS.out, hm']
                            obtain ⟨d, hd⟩ : ∃ d, K - s = d + 1 := ⟨K - s - 1, by omega⟩
                            rw [hd]
                            rfl
                          have HRX := Lib.hid hRX
                          have q6 : ¬ (0 : Int) < (ml : Int) := by rw [hME, hm']; simp
                          have q6n : ¬ 0 < ml := by rw [hME, hm']; simp
                          have HZ := HY.d0
                          clear hs hRX hm' hME
                          have hnx : 0 < i + 1 → (some y.t) = (l[i + 1 - 1]?).map Du.Due.t := fun _ => by rw [Nat.add_sub_cancel, HGI.out]; rfl
                          have HNX := Lib.hid hnx
                          clear hnx
                          go_wp2
                          exact ⟨⟨i + 1, out', some y.t, by have := HLT.out; omega, by go_num, HRX.out, HNX.out, (fun h => by omega), HZ⟩, by have := HLT.out; simp [intOf]; omega⟩
                        · obtain ⟨d0, r0, hmc⟩ := List.exists_cons_of_ne_nil hm'
                          have q6n : 0 < ml := by rw [hME, hmc]; simp
                          have q6 : (0 : Int) < (ml : Int) := by omega
                          have hsel : Du.sel (K - s) m' = m'[Du.minIdx m']! :: Du.sel (K - (s + 1)) (m'.eraseIdx (Du.minIdx m')) := by
                            obtain ⟨d, hd⟩ : ∃ d, K - s = d + 1 := ⟨K - s - 1, by omega⟩
                            rw [hd, show K - (s + 1) = d from by omega, hmc]
                            rfl
                          have hstart : Du.minIdx m' = Du.least (m'.drop 0) 0 0 d0.a := by rw [hmc]; simp [Du.minIdx, Du.least]
                          have hd0 : (m'[0]?).map Du.Due.a = some d0.a := by rw [hmc]; rfl
                          obtain ⟨b5, o5, rfl, -⟩ := RA.at3 (er_RA (HY.get 0 rfl)) 0 (by omega)
                          have HSEL := Lib.hid hsel
                          have HST := Lib.hid hstart
                          have HD0 := Lib.hid hd0
                          have HME := Lib.hid hME
                          have HSK := Lib.hid hs
                          clear hsel hstart hd0 hME hmc hm' hs
                          go_wp2
                          go_loopw [13, 14] (fun bb jj wr4 => ∃ (bi ji : Nat) (v : Int), bi < ml ∧ ji ≤ ml ∧ bb = .int .i64 bi ∧ jj = .int .i64 ji ∧ (m'[bi]?).map Du.Due.a = some v ∧ Du.minIdx m' = Du.least (m'.drop ji) ji bi v ∧ St w0 wr4 M (er 40 3 (.slice (some ⟨b5, o5, none⟩) ml c5) ml (dcs m') :: er 40 3 (.slice A6 out'.length c6) out'.length (dcs out') :: L)) (fun _ jj _ => ml - (intOf jj).toNat)
                          case atStart => exact ⟨0, 0, d0.a, q6n, by omega, rfl, rfl, HD0.out, HST.out, HY⟩
                          case round =>
                            obtain ⟨bi, ji, v, hbi, hji, rfl, rfl, hbv, hmn, HW⟩ := hrel
                            clear HY
                            have HMN := Lib.hid hmn
                            clear hmn
                            have hb1 : bi < m'.length := by have := HME.out; omega
                            have hsm : SrA w0 M (er 40 3 (.slice (some ⟨b5, o5, none⟩) ml c5) ml (dcs m') :: er 40 3 (.slice A6 out'.length c6) out'.length (dcs out') :: L) (some ⟨b5, o5, none⟩) (dcs m') := SrA.row 0 rfl
                            have hrb := hsm.at3 bi hb1
                            have hgb : m'[bi]! = m'[bi] := getElem!_pos m' bi hb1
                            rw [List.getElem?_eq_getElem hb1] at hbv
                            obtain ⟨x5, hx5⟩ : ∃ x5, x5 = m'[bi] := ⟨_, rfl⟩
                            rw [← hx5] at hrb hgb hbv
                            simp only [Option.map_some, Option.some.injEq] at hbv
                            subst hbv
                            have wbi : IntKind.i64.wrap (bi : Int) = (bi : Int) := by rw [IntKind.wrap_i64]; omega
                            have wji : IntKind.i64.wrap (ji : Int) = (ji : Int) := by rw [IntKind.wrap_i64]; omega
                            have bil : (bi : Int) < (ml : Int) := by omega
                            have HRB := Lib.hid hrb
                            have HGB := Lib.hid hgb
                            by_cases hjl : ji < ml
                            · have hj1 : ji < m'.length := by have := HME.out; omega
                              have hrj := hsm.at3 ji hj1
                              have hstep : Du.least (m'.drop ji) ji bi x5.a = if m'[ji].a < x5.a then Du.least (m'.drop (ji + 1)) (ji + 1) ji m'[ji].a else Du.least (m'.drop (ji + 1)) (ji + 1) bi x5.a := by
                                rw [List.drop_eq_getElem_cons hj1]
                                rfl
                              have hgj : (m'[ji]?).map Du.Due.a = some m'[ji].a := by rw [List.getElem?_eq_getElem hj1]; rfl
                              have hgb2 : (m'[bi]?).map Du.Due.a = some x5.a := by rw [List.getElem?_eq_getElem hb1, hx5]; rfl
                              obtain ⟨u, hu⟩ : ∃ u, u = m'[ji] := ⟨_, rfl⟩
                              rw [← hu] at hrj hstep hgj
                              have HRJ := Lib.hid hrj
                              have HSTEP := Lib.hid hstep
                              have HGJ := Lib.hid hgj
                              have HGB2 := Lib.hid hgb2
                              have HJL := Lib.hid hjl
                              have jil : (ji : Int) < (ml : Int) := by omega
                              clear hu hrj hstep hgj hgb2 hx5 hrb hgb hsm hb1 hj1 hjl
                              go_upto_region 21 with fail
                              refine Pt.wp_plan (fun w' => St w0 w' M (er 40 3 (.slice (some ⟨b5, o5, none⟩) ml c5) ml (dcs m') :: er 40 3 (.slice A6 out'.length c6) out'.length (dcs out') :: L)) (Pt.prs [0, 1, 2, 3, 5, 6, 7, 8] (Pt.rds [4, 9] (Pt.prs [10] .fin))) [] Try.mixed (by kernel_rfl) (fun _ _ d _ _ h => by cases d <;> exact h) HW.drew ?_
                              have HW2 := HW.drew
                              simp only [Pt.toL, Pt.rds, Pt.prs, Pt.at_, List.drop_succ_cons, List.drop_zero]
                              iterate 8 (refine Pt.pr_run (v := ?_) (by rfl) ?_ ?_; rotate_left; (focus (intro w'; go_simp; with_reducible rfl)); simp only [Act.put, List.setIfInBounds_toArray, List.set_cons_zero, List.set_cons_succ])
                              (refine Pt.rd_run (v := ?_) (by rfl) ?_ ?_; rotate_left; (focus (intro w' hS; have c := HRJ.out w' hS 2 _ rfl; go_simp; with_reducible rfl)); simp only [Act.put, List.setIfInBounds_toArray, List.set_cons_zero, List.set_cons_succ])
                              (refine Pt.rd_run (v := ?_) (by rfl) ?_ ?_; rotate_left; (focus (intro w' hS; have c := HRB.out w' hS 2 _ rfl; go_simp; with_reducible rfl)); simp only [Act.put, List.setIfInBounds_toArray, List.set_cons_zero, List.set_cons_succ])
                              clear HW
                              by_cases huv : u.a < x5.a
                              · have hl2 := HSTEP.out
                                rw [if_pos huv] at hl2
                                have HL2 := Lib.hid (HMN.out.trans hl2)
                                clear hl2
                                (refine Pt.pr_run (v := ?_) (by rfl) ?_ ?_; rotate_left; (focus (intro w'; go_simp; with_reducible rfl)); simp only [Act.put, List.setIfInBounds_toArray, List.set_cons_zero, List.set_cons_succ])
                                refine Pt.run_fin ?_
                                go_wp2
                                exact ⟨⟨ji, ji + 1, u.a, HJL.out, by have := HJL.out; omega, rfl, by go_num, HGJ.out, HL2.out, HW2⟩, by have := HJL.out; simp [intOf]; omega⟩
                              · have hl2 := HSTEP.out
                                rw [if_neg huv] at hl2
                                have HL2 := Lib.hid (HMN.out.trans hl2)
                                clear hl2
                                (refine Pt.pr_run (v := ?_) (by rfl) ?_ ?_; rotate_left; (focus (intro w'; go_simp; with_reducible rfl)); simp only [Act.put, List.setIfInBounds_toArray, List.set_cons_zero, List.set_cons_succ])
                                refine Pt.run_fin ?_
                                go_wp2
                                exact ⟨⟨bi, ji + 1, x5.a, by omega, by have := HJL.out; omega, rfl, by go_num, HGB2.out, HL2.out, HW2⟩, by have := HJL.out; simp [intOf]; omega⟩
                            · obtain rfl : ji = ml := by omega
                              have hmi : Du.minIdx m' = bi := by rw [HMN.out, HME.out, List.drop_length]; rfl
                              have hRS2 : R = (out' ++ [x5]) ++ (Du.sel (K - (s + 1)) (m'.eraseIdx bi) ++ Du.refP K ok (some y.t) (l.drop (i + 1))) := by
                                rw [HRS.out, HSEL.out, hmi, HGB.out]
                                simp
                              have hol : out'.length + 1 ≤ 64000000 := by
                                have := congrArg List.length hRS2
                                simp only [List.length_append, List.length_singleton] at this
                                omega
                              have HRS2 := Lib.hid hRS2
                              have hsplit : dcs m' = dcs (m'.take bi) ++ (dcs [x5] ++ dcs (m'.drop (bi + 1))) := by
                                rw [← dcs_append, ← dcs_append]
                                congr 1
                                rw [hx5, List.singleton_append, ← List.drop_eq_getElem_cons hb1, List.take_append_drop]
                              have hera : m'.eraseIdx bi = m'.take bi ++ m'.drop (bi + 1) := List.eraseIdx_eq_take_drop_succ m' bi
                              have htk : (m'.take bi).length = bi := by rw [List.length_take]; omega
                              have hdl : (m'.drop (bi + 1)).length = ji - (bi + 1) := by rw [List.length_drop, HME.out]
                              have HSPL := Lib.hid hsplit
                              have HERA := Lib.hid hera
                              have HTK := Lib.hid htk
                              have HDL := Lib.hid hdl
                              have rg := HRB.out _ HW
                              have RG := Lib.hid rg
                              have HW2 := HW.new [.int .u64 (x5.t : Int), .int .u64 (x5.s : Int), .int .i64 x5.a] 40
                              have ra := (HW2.blk 0 rfl).ra 0 3 [.int .u64 (x5.t : Int), .int .u64 (x5.s : Int), .int .i64 x5.a] rfl
                              have RA1 := Lib.hid ra
                              clear hmi hRS2 hsplit hera htk hdl rg ra hsm hrb hgb hx5 hb1 hjl
                              go_wp2_with first
                                | (refine wpList_load_mid (by rfl) 40 (.tmp 120) (by rfl) b5 (o5 + bi * 3) (by rfl) [.int .u64 (x5.t : Int), .int .u64 (x5.s : Int), .int .i64 x5.a] _ RG.out Try.underlying40 rfl (by exact Try.sizeDue) ?_)
                                | (at_builtin; refine wpList_append_any_st HW2.f2 (by rfl) (.tmp 117) (.tmp 122) 22 (by rfl) Try.infoDue (by rfl) (by decide) Try.underlying22 (by rfl) (some ⟨_, 0, none⟩) 1 1 [.int .u64 (x5.t : Int), .int .u64 (x5.s : Int), .int .i64 x5.a] (by rfl) (by rfl) (by rintro ⟨⟩) RA1.out (by simp [Value.oneCell']) (by omega) (by omega) ?_)
                              intro v7 w7 HV
                              have HV2 : St w0 w7 M (er 40 3 (.slice (some ⟨b5, o5, none⟩) ji c5) ji (dcs m') :: er 40 3 v7 (out' ++ [x5]).length (dcs (out' ++ [x5])) :: L) := by
                                rw [List.length_append, dcs_append]
                                exact HV.d1.f1
                              clear HW HW2 HV RG RA1
                              have b1 : (bi : Int) ≤ (ji : Int) := by omega
                              have b2 : (bi : Int) + 1 ≤ (ji : Int) := by omega
                              have b3 : (ji : Int) ≤ (c5 : Int) := by omega
                              have b4 : (bi : Int) ≤ (c5 : Int) := by omega
                              have b5' : (bi : Int) + 1 ≤ (c5 : Int) := by omega
                              have b6 : bi ≤ c5 := by omega
                              have b7 : bi + 1 ≤ c5 := by omega
                              have wb1 : IntKind.i64.wrap ((bi : Int) + 1) = (bi : Int) + 1 := by rw [IntKind.wrap_i64]; omega
                              have b0 : (0 : Int) ≤ (bi : Int) + 1 := by omega
                              by_cases hcc : c5 = bi + 1
                              · skip
                                have b8 : (bi : Int) ≤ (bi : Int) + 1 := by omega
                                have b9 : (ji : Int) ≤ (bi : Int) + 1 := by omega
                                have b10 : (bi : Int) + 1 ≤ (bi : Int) + 1 := by omega
                                go_upto_region 24 with fail
                                refine Pt.wp_plan (fun w' => St w0 w' M (er 40 3 (.slice (some ⟨b5, o5, none⟩) ji c5) ji (dcs m') :: er 40 3 v7 (out' ++ [x5]).length (dcs (out' ++ [x5])) :: L)) (Pt.prs [1, 2, 3, 5, 6, 7, 8] (.go 0 (.go 4 (.go 9 (Pt.prs [10] .fin))))) [] Try.mixed (by kernel_rfl) (fun _ _ d _ _ h => by cases d <;> exact h) HV2.drew ?_
                                have HV3 := HV2.drew
                                simp only [Pt.toL, Pt.rds, Pt.prs, Pt.at_, List.drop_succ_cons, List.drop_zero]
                                iterate 7 (refine Pt.pr_run (v := ?_) (by rfl) ?_ ?_; rotate_left; (focus (intro w'; go_simp; with_reducible rfl)); simp only [Act.put, List.setIfInBounds_toArray, List.set_cons_zero, List.set_cons_succ])
                                generalize hxx : World.drew _ = wz at *
                                clear hxx HV2
                                refine Pt.run_go ?_
                                have HX := HV3.lit00 40 3
                                go_wp2_with fail
                                refine Pt.same HX.d0 ?_
                                have rr := er_RA (HX.get 1 rfl)
                                rw [HSPL.out] at rr
                                refine Pt.run_go ?_
                                refine wpList_append_any_st HX (by rfl) (.tmp 124) (.tmp 127) 22 (by rfl) Try.infoDue (by rfl) (by decide) Try.underlying22 (by rfl) (some ⟨b5, o5, none⟩) bi _ (dcs (m'.take bi)) (by rfl) (by rw [dcs_length, HTK.out]) (by rintro ⟨⟩) (RA.leftD rr) (dcs_one _) (by omega) (by omega) ?_
                                intro v8 w8 HX2
                                refine wpList_nil ?_
                                refine Pt.same HX2.d0 ?_
                                simp only [Act.put, List.setIfInBounds_toArray, List.set_cons_zero, List.set_cons_succ]
                                have hdn : dcs (m'.drop (bi + 1)) = [] := List.eq_nil_of_length_eq_zero (by rw [dcs_length, HDL.out]; omega)
                                have rr2 : True := trivial
                                have rr3 : RA w8 (some ⟨b5, o5, none⟩) (dcs (m'.drop (bi + 1))) := fun hne => absurd hdn hne
                                refine Pt.run_go ?_
                                refine wpList_append_any_st HX2 (by rfl) (.tmp 128) (.tmp 132) 22 (by rfl) Try.infoDue (by rfl) (by decide) Try.underlying22 (by rfl) (some ⟨b5, o5, none⟩) (ji - (bi + 1)) _ (dcs (m'.drop (bi + 1))) (by rfl) (by rw [dcs_length, HDL.out]) (by rintro ⟨⟩) rr3 (dcs_one _) (by omega) (by omega) ?_
                                intro v9 w9 HX3
                                refine wpList_nil ?_
                                refine Pt.same HX3.d0 ?_
                                simp only [Act.put, List.setIfInBounds_toArray, List.set_cons_zero, List.set_cons_succ]
                                (refine Pt.pr_run (v := ?_) (by rfl) ?_ ?_; rotate_left; (focus (intro w'; go_simp; with_reducible rfl)); simp only [Act.put, List.setIfInBounds_toArray, List.set_cons_zero, List.set_cons_succ])
                                refine Pt.run_fin ?_
                                have HZ2 : St w0 w9 M (er 40 3 v9 (m'.eraseIdx bi).length (dcs (m'.eraseIdx bi)) :: er 40 3 v7 (out' ++ [x5]).length (dcs (out' ++ [x5])) :: L) := by
                                  rw [HERA.out, List.length_append, HTK.out, HDL.out, dcs_append]
                                  simpa using HX3.d1
                                have hel : (m'.eraseIdx bi).length ≤ 1000000 := by rw [HERA.out, List.length_append, HTK.out, HDL.out]; omega
                                clear HX HX2 HX3 rr rr2 rr3 HV3
                                go_wp2
                                exact ⟨⟨s + 1, out' ++ [x5], m'.eraseIdx bi, by have := HSK.out; omega, by go_num, HRS2.out, hel, HZ2⟩, by have := HSK.out; simp [intOf]; omega⟩
                              · skip
                                go_upto_region 24 with fail
                                refine Pt.wp_plan (fun w' => St w0 w' M (er 40 3 (.slice (some ⟨b5, o5, none⟩) ji c5) ji (dcs m') :: er 40 3 v7 (out' ++ [x5]).length (dcs (out' ++ [x5])) :: L)) (Pt.prs [1, 2, 3, 5, 6, 7, 8] (.go 0 (.go 4 (.go 9 (Pt.prs [10] .fin))))) [] Try.mixed (by kernel_rfl) (fun _ _ d _ _ h => by cases d <;> exact h) HV2.drew ?_
                                have HV3 := HV2.drew
                                simp only [Pt.toL, Pt.rds, Pt.prs, Pt.at_, List.drop_succ_cons, List.drop_zero]
                                iterate 7 (refine Pt.pr_run (v := ?_) (by rfl) ?_ ?_; rotate_left; (focus (intro w'; go_simp; with_reducible rfl)); simp only [Act.put, List.setIfInBounds_toArray, List.set_cons_zero, List.set_cons_succ])
                                generalize hxx : World.drew _ = wz at *
                                clear hxx HV2
                                refine Pt.run_go ?_
                                have HX := HV3.lit00 40 3
                                go_wp2_with fail
                                refine Pt.same HX.d0 ?_
                                have rr := er_RA (HX.get 1 rfl)
                                rw [HSPL.out] at rr
                                refine Pt.run_go ?_
                                refine wpList_append_any_st HX (by rfl) (.tmp 124) (.tmp 127) 22 (by rfl) Try.infoDue (by rfl) (by decide) Try.underlying22 (by rfl) (some ⟨b5, o5, none⟩) bi c5 (dcs (m'.take bi)) (by rfl) (by rw [dcs_length, HTK.out]) (by rintro ⟨⟩) (RA.leftD rr) (dcs_one _) (by omega) (by omega) ?_
                                intro v8 w8 HX2
                                refine wpList_nil ?_
                                refine Pt.same HX2.d0 ?_
                                simp only [Act.put, List.setIfInBounds_toArray, List.set_cons_zero, List.set_cons_succ]
                                have rr2 := er_RA (HX2.get 1 rfl)
                                rw [HSPL.out, ← List.append_assoc] at rr2
                                have rr3 := RA.rightD rr2
                                have e9 : o5 + (dcs (m'.take bi) ++ dcs [x5]).length = o5 + (bi + 1) * 3 := by rw [List.length_append, dcs_length, dcs_length, HTK.out, List.length_singleton]; omega
                                rw [e9] at rr3
                                refine Pt.run_go ?_
                                refine wpList_append_any_st HX2 (by rfl) (.tmp 128) (.tmp 132) 22 (by rfl) Try.infoDue (by rfl) (by decide) Try.underlying22 (by rfl) (some ⟨b5, o5 + (bi + 1) * 3, none⟩) (ji - (bi + 1)) (c5 - (bi + 1)) (dcs (m'.drop (bi + 1))) (by rfl) (by rw [dcs_length, HDL.out]) (by rintro ⟨⟩) rr3 (dcs_one _) (by omega) (by omega) ?_
                                intro v9 w9 HX3
                                refine wpList_nil ?_
                                refine Pt.same HX3.d0 ?_
                                simp only [Act.put, List.setIfInBounds_toArray, List.set_cons_zero, List.set_cons_succ]
                                (refine Pt.pr_run (v := ?_) (by rfl) ?_ ?_; rotate_left; (focus (intro w'; go_simp; with_reducible rfl)); simp only [Act.put, List.setIfInBounds_toArray, List.set_cons_zero, List.set_cons_succ])
                                refine Pt.run_fin ?_
                                have HZ2 : St w0 w9 M (er 40 3 v9 (m'.eraseIdx bi).length (dcs (m'.eraseIdx bi)) :: er 40 3 v7 (out' ++ [x5]).length (dcs (out' ++ [x5])) :: L) := by
                                  rw [HERA.out, List.length_append, HTK.out, HDL.out, dcs_append]
                                  simpa using HX3.d1
                                have hel : (m'.eraseIdx bi).length ≤ 1000000 := by rw [HERA.out, List.length_append, HTK.out, HDL.out]; omega
                                clear HX HX2 HX3 rr rr2 rr3 HV3
                                go_wp2
                                exact ⟨⟨s + 1, out' ++ [x5], m'.eraseIdx bi, by have := HSK.out; omega, by go_num, HRS2.out, hel, HZ2⟩, by have := HSK.out; simp [intOf]; omega⟩
                      · obtain rfl : s = K := by omega
                        have hRX : R = out' ++ Du.refP s ok (some y.t) (l.drop (i + 1)) := by
                          rw [HRS.out, Nat.sub_self]
                          rfl
                        have HRX := Lib.hid hRX
                        have HZ := HY.d0
                        clear hs hRX
                        have hnx : 0 < i + 1 → (some y.t) = (l[i + 1 - 1]?).map Du.Due.t := fun _ => by rw [Nat.add_sub_cancel, HGI.out]; rfl
                        have HNX := Lib.hid hnx
                        clear hnx
                        go_wp2
                        exact ⟨⟨i + 1, out', some y.t, by have := HLT.out; omega, by go_num, HRX.out, HNX.out, (fun h => by omega), HZ⟩, by have := HLT.out; simp [intOf]; omega⟩
          · obtain rfl : i = n := by omega
            have hR3 : R = out := by rw [HR2.out, HN.out, List.drop_length]; simp [Du.refP]
            subst hR3
            have HHK := HK
            clear hlt
            go_wp2
            go_ret2
            exact .inl ⟨_, R, HMAY.out, HT.out, by have := HHK.out; omega, by have := HHK.out; omega, HRE.out, rfl, H7⟩
      · have hcase : k < 1 ∨ (¬ k < 1 ∧ 64 < k) := by omega
        have HKN := Lib.hid hk
        clear hk
        rcases hcase with h1 | ⟨h1, h2⟩
        all_goals
          go_wp2
          go_ret2
          exact .inr ⟨fun h => HKN.out h.2.2, rfl, H2⟩
    · rw [decide_eq_false ht] at htc
      have HT := Lib.hid ht
      clear ht
      go_wp2_with fail
      refine htc.mono ?_
      rintro e w2 ⟨rfl, rfl⟩
      go_wp2
      go_ret2
      exact .inr ⟨fun h => HT.out h.2.1, rfl, H2⟩
end
end Go.Proofs.Ytgnlkcdpklgikaa
