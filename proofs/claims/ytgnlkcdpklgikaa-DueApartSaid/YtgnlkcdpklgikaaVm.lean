/- due.Pick. -/
import Derived.Test.YtgnlkcdpklgikaaVl
set_option linter.unusedVariables false
set_option linter.unusedSimpArgs false
namespace Go.Proofs.Ytgnlkcdpklgikaa
open Go.RowKit Wd Go.Sort
open Du (Due)
theorem strict {l m : List Due} (hm : m.Pairwise Du.ahead) (hp : l.Perm m) (hs : l.Pairwise fun p q => ¬ Du.lt q p) : l.Pairwise Du.lt := by
  have hn : m.Nodup := by
    show m.Pairwise (· ≠ ·)
    refine hm.imp fun {a b} h he => ?_
    subst he
    exact Du.ahead.irrefl a h
  have hl : l.Nodup := hp.nodup_iff.2 hn
  refine (hs.and hl).imp fun {a b} h => ?_
  rcases Du.lt_tri a b with h1 | h1 | h1
  · exact h1
  · exact absurd h1 h.2
  · exact absurd h1 h.1
/-- What due.Pick gives. -/
def RetPick (w0 : World) (M : Mem) (L : List Ent) (l : List Due) (now k : Int) (e : Ending) (w' : World) : Prop :=
  (∃ v R, Du.May l ∧ Du.time now ∧ 1 ≤ k ∧ k ≤ 64 ∧ R = Du.refP k.toNat (fun x => !decide (now < x.a)) none l ∧ e = .returned (.tuple #[v, .int .i64 0]) ∧ St w0 w' M (er 40 3 v R.length (dcs R) :: L)) ∨
    (¬ (Du.May l ∧ Du.time now ∧ 1 ≤ k ∧ k ≤ 64) ∧ e = .returned (.tuple #[.slice none 0 0, .int .i64 1]) ∧ St w0 w' M L)
section
variable {w0 w : World} {M : Mem} {L : List Ent}
set_option maxRecDepth 100000 in
set_option maxHeartbeats 4000000 in
theorem pick_any (H : St w0 w M L) {A : Option Addr} {c n : Nat} {l : List Due} (hn : n = l.length) (hn2 : n ≤ 1000000) (hA : A = none → c = 0) (hl : SrA w0 M L A (dcs l)) (now k : Int) :
    Calls Try.prog 8 #[.slice A n c, .int .i64 now, .int .i64 k] w (RetPick w0 M L l now k) := by
  have H1 := H.new [.int .i64 now] 2
  have hck := check_any (c := c) H1 hn hn2 (hl.cons _)
  have HCK := Lib.hid hck
  have hcl := fun w' (H : St w0 w' M (eb w.heap.size 2 [.int .i64 now] :: L)) => clone_any (c := c) H hn hn2 hA (hl.cons _)
  have HCLN := Lib.hid hcl
  have HN := Lib.hid hn
  clear hck hcl hn H
  go_enter Try.func8, Try.ntmps8
  go_wp2_with fail
  refine HCK.out.mono ?_
  rintro e w1 ⟨⟨hmay, rfl⟩ | ⟨hmay, rfl⟩, H2⟩
  · have HMAY := Lib.hid hmay
    have c0 := H2.cell 0 rfl 0
    simp only [List.getElem?_cons_zero] at c0
    clear hmay
    have htc := time_any now w1
    by_cases ht : Du.time now
    · rw [decide_eq_true ht] at htc
      have HT := Lib.hid ht
      clear ht
      go_wp2_with fail
      refine htc.mono ?_
      rintro e w2 ⟨rfl, rfl⟩
      by_cases hk : 1 ≤ k ∧ k ≤ 64
      · obtain ⟨K, rfl⟩ : ∃ K : Nat, k = (K : Int) := ⟨k.toNat, by omega⟩
        have hK : 1 ≤ K ∧ K ≤ 64 := by omega
        have q1 : ¬ (K : Int) < 1 := by omega
        have q2 : ¬ (64 : Int) < (K : Int) := by omega
        have q1n : ¬ K < 1 := by omega
        have q1m : ¬ K = 0 := by omega
        have HK := Lib.hid hK
        clear hk
        go_wp2_with fail
        refine (HCLN.out _ H2).mono ?_
        rintro e w3 ⟨v1, rfl, H3⟩
        obtain ⟨A1, c1, rfl, hc1⟩ := H3.shape 0 rfl
        have hdel := delete_any 21 #[.pointer (some ⟨w.heap.size, 0, none⟩)] (enters_of Try.func21 (by kernel_rfl) rfl) (fun p => decide (now < p.a)) H3 HN.out hn2 (fun p w es H => pick1_any H (by simp) p)
        have HDEL := Lib.hid hdel
        clear hdel
        go_wp2_with fail
        refine HDEL.out.mono ?_
        rintro e w4 ⟨m, rfl, hm, H4⟩
        have hfl : (l.filter fun x => !decide (now < x.a)).length ≤ n := by rw [HN.out]; exact List.length_filter_le _ _
        have hsort := sort_row H4 hm (by omega)
        have HSORT := Lib.hid hsort
        have HM := Lib.hid hm
        clear hsort hm hfl
        go_wp2_with fail
        refine HSORT.out.mono ?_
        rintro e w5 ⟨rfl, srt, hp, hs, H5⟩
        have hst := strict ((HMAY.out.1.pair).filter _) hp hs
        have hR := Du.picks K (fun x => !decide (now < x.a)) l.length l srt (Nat.le_refl _) HMAY.out.1.pair hp hst
        have hN : m = srt.length := by rw [HM.out]; exact hp.length_eq.symm
        have hm2 : m ≤ 1000000 := by
          have := List.length_filter_le (fun x : Due => !decide (now < x.a)) l
          have := HM.out
          have := HN.out
          omega
        obtain ⟨R, hRe⟩ : ∃ R, R = Du.refP K (fun x => !decide (now < x.a)) none l := ⟨_, rfl⟩
        rw [← hRe] at hR
        have HR := Lib.hid hR
        have HRE := Lib.hid hRe
        have HNN := Lib.hid hN
        have H6 := H5.addNil 40 3
        clear hst hR hRe hN hp hs HDEL HSORT H2 H3 H4 H5 HCLN HCK
        go_wp2
        go_loopw [8, 9, 36] (fun o x i wr => ∃ (k c : Nat) (out : List Due) (p : Option Nat), k ≤ m ∧ c ≤ k ∧ i = .int .i64 k ∧ x = .int .i64 c ∧ R = out ++ Du.firsts K p c (srt.drop k) ∧ out.length ≤ k ∧ (0 < k → p = (srt[k - 1]?).map Du.Due.t) ∧ (k = 0 → p = none) ∧ St w0 wr M (er 40 3 o out.length (dcs out) :: er 40 3 (.slice A1 m c1) m (dcs srt) :: eb w.heap.size 2 [.int .i64 now] :: L)) (fun _ _ i _ => m - (intOf i).toNat)
        case atStart => exact ⟨0, 0, [], none, by omega, by omega, rfl, rfl, HR.out.symm, by simp, by omega, fun _ => rfl, H6⟩
        case round =>
          obtain ⟨k, cn, out, p, hk, hcn, rfl, rfl, hR2, hol, hp1, hp0, H7⟩ := hrel
          clear H6
          have HR2 := Lib.hid hR2
          have HP1 := Lib.hid hp1
          have HP0 := Lib.hid hp0
          clear hR2 hp1 hp0
          obtain ⟨A2, c2, rfl, hc2⟩ := H7.shape 0 rfl
          by_cases hlt : k < m
          · have hk1 : k < srt.length := by have := HNN.out; omega
            have hs1 : SrA w0 M (er 40 3 (.slice A2 out.length c2) out.length (dcs out) :: er 40 3 (.slice A1 m c1) m (dcs srt) :: eb w.heap.size 2 [.int .i64 now] :: L) A1 (dcs srt) := SrA.row 1 rfl
            obtain ⟨b, o, rfl, hrg⟩ := RA.at3 (hs1.now H7) k hk1
            have H8 := H7.new (dc srt[k]) 40
            have hs2 := hs1.cons (eb wr.heap.size 40 (dc srt[k]))
            have hdd : srt.drop k = srt[k] :: srt.drop (k + 1) := List.drop_eq_getElem_cons hk1
            have hgk : srt[k]? = some srt[k] := List.getElem?_eq_getElem hk1
            have r1 : (k : Int) < (m : Int) := by omega
            have HLT := Lib.hid hlt
            have wcn : IntKind.i64.wrap ((cn : Int) + 1) = (cn : Int) + 1 := by rw [IntKind.wrap_i64]; omega
            by_cases h0 : k = 0
            · subst h0
              obtain rfl := HP0.out rfl
              have hR3 : R = out ++ Du.firsts K none cn (srt[0] :: srt.drop (0 + 1)) := by rw [← hdd]; exact HR2.out
              rw [Du.firsts_other (by simp)] at hR3
              obtain ⟨y, hy⟩ : ∃ y, y = srt[0] := ⟨_, rfl⟩
              rw [← hy] at hrg H8 hR3 hgk
              have hcn0 : cn = 0 := by omega
              subst hcn0
              have HRG := Lib.hid hrg
              have HR3 := Lib.hid hR3
              have HGK := Lib.hid hgk
              unfold dc at H8
              clear hy hrg hk1 hlt hR3 hgk hdd hs1 hs2 HR2 HP1 HP0 hcn
              go_wp2_with (refine wpList_load_mid (by rfl) 40 (.tmp 39) (by rfl) b (o + 0 * 3) (by rfl) [.int .u64 (y.t : Int), .int .u64 (y.s : Int), .int .i64 y.a] _ HRG.out Try.underlying40 rfl (by exact Try.sizeDue) ?_)
              refine Pt.wp_plan (fun w' => St w0 w' M (eb wr.heap.size 40 [.int .u64 (y.t : Int), .int .u64 (y.s : Int), .int .i64 y.a] :: er 40 3 (.slice A2 out.length c2) out.length (dcs out) :: er 40 3 (.slice (some ⟨b, o, none⟩) m c1) m (dcs srt) :: eb w.heap.size 2 [.int .i64 now] :: L)) (Pt.prs [0, 1, 2, 3, 4, 5, 6, 7, 9] (Pt.rds [8, 10] (Pt.prs [11, 12] .fin))) [] Try.mixed (by kernel_rfl) (fun _ _ d _ _ h => by cases d <;> exact h) H8.drew ?_
              have H9 := H8.drew
              simp only [Pt.toL, Pt.rds, Pt.prs, Pt.at_, List.drop_succ_cons, List.drop_zero]
              iterate 3 (refine Pt.pr_run (v := ?_) (by rfl) ?_ ?_; rotate_left; (focus (intro w'; go_simp; with_reducible rfl)); simp only [Act.put, List.setIfInBounds_toArray, List.set_cons_zero, List.set_cons_succ])
              iterate 5 (refine Pt.pr_skip (by rfl) ?_; simp only [Act.put, List.setIfInBounds_toArray, List.set_cons_zero, List.set_cons_succ])
              (refine Pt.pr_skip (by rfl) ?_; simp only [Act.put, List.setIfInBounds_toArray, List.set_cons_zero, List.set_cons_succ])
              iterate 2 (refine Pt.rd_skip (by rfl) ?_; simp only [Act.put, List.setIfInBounds_toArray, List.set_cons_zero, List.set_cons_succ])
              (refine Pt.pr_skip (by rfl) ?_; simp only [Act.put, List.setIfInBounds_toArray, List.set_cons_zero, List.set_cons_succ])
              (refine Pt.pr_run (v := ?_) (by rfl) ?_ ?_; rotate_left; (focus (intro w'; go_simp; with_reducible rfl)); simp only [Act.put, List.setIfInBounds_toArray, List.set_cons_zero, List.set_cons_succ])
              refine Pt.run_fin ?_
              clear H7 H8
              generalize hxx : World.drew _ = wy at *
              have hnx : 0 < 0 + 1 → (some y.t) = (srt[0 + 1 - 1]?).map Du.Due.t := fun _ => by rw [Nat.add_sub_cancel, HGK.out]; rfl
              have HNX := Lib.hid hnx
              clear hnx hxx
              by_cases hcK : 0 + 1 ≤ K
              · have hR5 := HR3.out
                rw [if_pos hcK] at hR5
                have HR5 := Lib.hid hR5
                have rg := (H9.blk 0 rfl).range 0 3 _ rfl
                have RG := Lib.hid rg
                have H10 := H9.new [.int .u64 (y.t : Int), .int .u64 (y.s : Int), .int .i64 y.a] 40
                have ra := (H10.blk 0 rfl).ra 0 3 [.int .u64 (y.t : Int), .int .u64 (y.s : Int), .int .i64 y.a] rfl
                have RA1 := Lib.hid ra
                have kc : ((0 + 1 : Nat) : Int) ≤ (K : Int) := by omega
                have kc2 : ((0 : Nat) : Int) + 1 ≤ (K : Int) := by omega
                have kc3 : (0 + 1 : Nat) ≤ K := hcK
                have hob : out.length ≤ 1000000 := by omega
                clear hR5 rg ra hcK
                go_wp2_with first
                  | (refine wpList_load_mid (by rfl) 40 (.tmp 11) (by rfl) wr.heap.size 0 (by rfl) [.int .u64 (y.t : Int), .int .u64 (y.s : Int), .int .i64 y.a] _ RG.out Try.underlying40 rfl (by exact Try.sizeDue) ?_)
                  | (at_builtin; refine wpList_append_any_st H10.f2 (by rfl) (.tmp 59) (.tmp 61) 22 (by rfl) Try.infoDue (by rfl) (by decide) Try.underlying22 (by rfl) (some ⟨wy.heap.size, 0, none⟩) 1 1 [.int .u64 (y.t : Int), .int .u64 (y.s : Int), .int .i64 y.a] (by rfl) (by rfl) (by rintro ⟨⟩) RA1.out (by simp [Value.oneCell']) (by omega) (by omega) ?_)
                intro v5 w6 H11
                have H12 : St w0 w6 M (er 40 3 v5 (out ++ [y]).length (dcs (out ++ [y])) :: er 40 3 (.slice (some ⟨b, o, none⟩) m c1) m (dcs srt) :: eb w.heap.size 2 [.int .i64 now] :: L) := by
                  rw [List.length_append, dcs_append]
                  exact H11.d1.d1
                clear H9 H10 H11 RG RA1
                go_wp2
                exact ⟨⟨0 + 1, 0 + 1, out ++ [y], some y.t, by have := HLT.out; omega, by omega, by go_num, by go_num, by rw [HR5.out]; simp, by rw [List.length_append, List.length_singleton]; omega, HNX.out, (fun h => by omega), H12⟩, by have := HLT.out; simp [intOf]; omega⟩
              · exact absurd (by have := HK.out; omega) hcK
            · obtain ⟨i, hi⟩ : ∃ i, i = k - 1 := ⟨_, rfl⟩
              have hi1 : i < srt.length := by omega
              have hs3 := hs2.at3 i hi1
              have e1 : (k : Int) - 1 = (i : Int) := by omega
              have e2 : (0 : Int) < (k : Int) := by omega
              have hk0 : 0 < k := by omega
              have wi : IntKind.i64.wrap (i : Int) = (i : Int) := by rw [IntKind.wrap_i64]; omega
              have ilt : (i : Int) < (m : Int) := by omega
              have hpv : p = some (srt[i]'hi1).t := by rw [HP1.out hk0, ← hi, List.getElem?_eq_getElem hi1]; rfl
              subst hpv
              have hR3 : R = out ++ Du.firsts K (some (srt[i]'hi1).t) cn (srt[k] :: srt.drop (k + 1)) := by rw [← hdd]; exact HR2.out
              obtain ⟨y, hy⟩ : ∃ y, y = srt[k] := ⟨_, rfl⟩
              obtain ⟨z, hz⟩ : ∃ z, z = srt[i] := ⟨_, rfl⟩
              rw [← hy] at hrg H8 hR3 hgk
              rw [← hz] at hs3 hR3
              rw [← hy] at hs3
              have HRG := Lib.hid hrg
              have HS3 := Lib.hid hs3
              have HR3 := Lib.hid hR3
              have HGK := Lib.hid hgk
              unfold dc at H8 HS3
              clear hy hz hrg hk1 hlt hR3 hgk hdd hs1 hs2 hs3 HR2 HP1 HP0 h0 hi hi1
              go_wp2_with (refine wpList_load_mid (by rfl) 40 (.tmp 39) (by rfl) b (o + k * 3) (by rfl) [.int .u64 (y.t : Int), .int .u64 (y.s : Int), .int .i64 y.a] _ HRG.out Try.underlying40 rfl (by exact Try.sizeDue) ?_)
              refine Pt.wp_plan (fun w' => St w0 w' M (eb wr.heap.size 40 [.int .u64 (y.t : Int), .int .u64 (y.s : Int), .int .i64 y.a] :: er 40 3 (.slice A2 out.length c2) out.length (dcs out) :: er 40 3 (.slice (some ⟨b, o, none⟩) m c1) m (dcs srt) :: eb w.heap.size 2 [.int .i64 now] :: L)) (Pt.prs [0, 1, 2, 3, 4, 5, 6, 7, 9] (Pt.rds [8, 10] (Pt.prs [11, 12] .fin))) [] Try.mixed (by kernel_rfl) (fun _ _ d _ _ h => by cases d <;> exact h) H8.drew ?_
              have H9 := H8.drew
              simp only [Pt.toL, Pt.rds, Pt.prs, Pt.at_, List.drop_succ_cons, List.drop_zero]
              iterate 9 (refine Pt.pr_run (v := ?_) (by rfl) ?_ ?_; rotate_left; (focus (intro w'; go_simp; with_reducible rfl)); simp only [Act.put, List.setIfInBounds_toArray, List.set_cons_zero, List.set_cons_succ])
              (refine Pt.rd_run (v := ?_) (by rfl) ?_ ?_; rotate_left; (focus (intro w' hS; have c := HS3.out w' hS 0 _ rfl; rw [Nat.add_zero] at c; go_simp; with_reducible rfl)); simp only [Act.put, List.setIfInBounds_toArray, List.set_cons_zero, List.set_cons_succ])
              (refine Pt.rd_run (v := ?_) (by rfl) ?_ ?_; rotate_left; (focus (intro w' hS; have c := hS.cell 0 rfl 0; go_simp; with_reducible rfl)); simp only [Act.put, List.setIfInBounds_toArray, List.set_cons_zero, List.set_cons_succ])
              clear H7 H8
              by_cases hyz : z.t = y.t
              · have q : ((z.t : Int) != (y.t : Int)) = false := by rw [hyz]; simp
                have hR4 := HR3.out
                rw [Du.firsts_same hyz.symm, hyz] at hR4
                have HR3 := Lib.hid hR4
                clear hR4 hyz
                iterate 2 (refine Pt.pr_run (v := ?_) (by rfl) ?_ ?_; rotate_left; (focus (intro w'; go_simp; with_reducible rfl)); simp only [Act.put, List.setIfInBounds_toArray, List.set_cons_zero, List.set_cons_succ])
                refine Pt.run_fin ?_
                generalize hxx : World.drew _ = wy at *
                have hnx : 0 < k + 1 → (some y.t) = (srt[k + 1 - 1]?).map Du.Due.t := fun _ => by rw [Nat.add_sub_cancel, HGK.out]; rfl
                have HNX := Lib.hid hnx
                clear hnx hxx
                by_cases hcK : cn + 1 ≤ K
                · have hR5 := HR3.out
                  rw [if_pos hcK] at hR5
                  have HR5 := Lib.hid hR5
                  have rg := (H9.blk 0 rfl).range 0 3 _ rfl
                  have RG := Lib.hid rg
                  have H10 := H9.new [.int .u64 (y.t : Int), .int .u64 (y.s : Int), .int .i64 y.a] 40
                  have ra := (H10.blk 0 rfl).ra 0 3 [.int .u64 (y.t : Int), .int .u64 (y.s : Int), .int .i64 y.a] rfl
                  have RA1 := Lib.hid ra
                  have kc : ((cn + 1 : Nat) : Int) ≤ (K : Int) := by omega
                  have kc2 : ((cn : Nat) : Int) + 1 ≤ (K : Int) := by omega
                  have kc3 : (cn + 1 : Nat) ≤ K := hcK
                  have hob : out.length ≤ 1000000 := by omega
                  clear hR5 rg ra hcK
                  go_wp2_with first
                    | (refine wpList_load_mid (by rfl) 40 (.tmp 11) (by rfl) wr.heap.size 0 (by rfl) [.int .u64 (y.t : Int), .int .u64 (y.s : Int), .int .i64 y.a] _ RG.out Try.underlying40 rfl (by exact Try.sizeDue) ?_)
                    | (at_builtin; refine wpList_append_any_st H10.f2 (by rfl) (.tmp 59) (.tmp 61) 22 (by rfl) Try.infoDue (by rfl) (by decide) Try.underlying22 (by rfl) (some ⟨wy.heap.size, 0, none⟩) 1 1 [.int .u64 (y.t : Int), .int .u64 (y.s : Int), .int .i64 y.a] (by rfl) (by rfl) (by rintro ⟨⟩) RA1.out (by simp [Value.oneCell']) (by omega) (by omega) ?_)
                  intro v5 w6 H11
                  have H12 : St w0 w6 M (er 40 3 v5 (out ++ [y]).length (dcs (out ++ [y])) :: er 40 3 (.slice (some ⟨b, o, none⟩) m c1) m (dcs srt) :: eb w.heap.size 2 [.int .i64 now] :: L) := by
                    rw [List.length_append, dcs_append]
                    exact H11.d1.d1
                  clear H9 H10 H11 RG RA1
                  go_wp2
                  exact ⟨⟨k + 1, cn + 1, out ++ [y], some y.t, by have := HLT.out; omega, by omega, by go_num, by go_num, by rw [HR5.out]; simp, by rw [List.length_append, List.length_singleton]; omega, HNX.out, (fun h => by omega), H12⟩, by have := HLT.out; simp [intOf]; omega⟩
                · have hR5 := HR3.out
                  rw [if_neg hcK] at hR5
                  have HR5 := Lib.hid hR5
                  have kc : ¬ ((cn + 1 : Nat) : Int) ≤ (K : Int) := by omega
                  have kc2 : ¬ ((cn : Nat) : Int) + 1 ≤ (K : Int) := by omega
                  have kc3 : ¬ (cn + 1 : Nat) ≤ K := hcK
                  clear hR5 hcK
                  go_wp2
                  exact ⟨⟨k + 1, cn + 1, out, some y.t, by have := HLT.out; omega, by omega, by go_num, by go_num, HR5.out, by omega, HNX.out, (fun h => by omega), H9.d0⟩, by have := HLT.out; simp [intOf]; omega⟩
              · have q : ((z.t : Int) != (y.t : Int)) = true := by simp; omega
                have hR4 := HR3.out
                rw [Du.firsts_other (by simp; omega)] at hR4
                have HR3 := Lib.hid hR4
                clear hR4 hyz
                iterate 2 (refine Pt.pr_run (v := ?_) (by rfl) ?_ ?_; rotate_left; (focus (intro w'; go_simp; with_reducible rfl)); simp only [Act.put, List.setIfInBounds_toArray, List.set_cons_zero, List.set_cons_succ])
                refine Pt.run_fin ?_
                generalize hxx : World.drew _ = wy at *
                have hnx : 0 < k + 1 → (some y.t) = (srt[k + 1 - 1]?).map Du.Due.t := fun _ => by rw [Nat.add_sub_cancel, HGK.out]; rfl
                have HNX := Lib.hid hnx
                clear hnx hxx
                by_cases hcK : 0 + 1 ≤ K
                · have hR5 := HR3.out
                  rw [if_pos hcK] at hR5
                  have HR5 := Lib.hid hR5
                  have rg := (H9.blk 0 rfl).range 0 3 _ rfl
                  have RG := Lib.hid rg
                  have H10 := H9.new [.int .u64 (y.t : Int), .int .u64 (y.s : Int), .int .i64 y.a] 40
                  have ra := (H10.blk 0 rfl).ra 0 3 [.int .u64 (y.t : Int), .int .u64 (y.s : Int), .int .i64 y.a] rfl
                  have RA1 := Lib.hid ra
                  have kc : ((0 + 1 : Nat) : Int) ≤ (K : Int) := by omega
                  have kc2 : ((0 : Nat) : Int) + 1 ≤ (K : Int) := by omega
                  have kc3 : (0 + 1 : Nat) ≤ K := hcK
                  have hob : out.length ≤ 1000000 := by omega
                  clear hR5 rg ra hcK
                  go_wp2_with first
                    | (refine wpList_load_mid (by rfl) 40 (.tmp 11) (by rfl) wr.heap.size 0 (by rfl) [.int .u64 (y.t : Int), .int .u64 (y.s : Int), .int .i64 y.a] _ RG.out Try.underlying40 rfl (by exact Try.sizeDue) ?_)
                    | (at_builtin; refine wpList_append_any_st H10.f2 (by rfl) (.tmp 59) (.tmp 61) 22 (by rfl) Try.infoDue (by rfl) (by decide) Try.underlying22 (by rfl) (some ⟨wy.heap.size, 0, none⟩) 1 1 [.int .u64 (y.t : Int), .int .u64 (y.s : Int), .int .i64 y.a] (by rfl) (by rfl) (by rintro ⟨⟩) RA1.out (by simp [Value.oneCell']) (by omega) (by omega) ?_)
                  intro v5 w6 H11
                  have H12 : St w0 w6 M (er 40 3 v5 (out ++ [y]).length (dcs (out ++ [y])) :: er 40 3 (.slice (some ⟨b, o, none⟩) m c1) m (dcs srt) :: eb w.heap.size 2 [.int .i64 now] :: L) := by
                    rw [List.length_append, dcs_append]
                    exact H11.d1.d1
                  clear H9 H10 H11 RG RA1
                  go_wp2
                  exact ⟨⟨k + 1, 0 + 1, out ++ [y], some y.t, by have := HLT.out; omega, by omega, by go_num, by go_num, by rw [HR5.out]; simp, by rw [List.length_append, List.length_singleton]; omega, HNX.out, (fun h => by omega), H12⟩, by have := HLT.out; simp [intOf]; omega⟩
                · exact absurd (by have := HK.out; omega) hcK
          · obtain rfl : k = m := by omega
            have hR3 : R = out := by rw [HR2.out, HNN.out, List.drop_length]; simp [Du.firsts]
            subst hR3
            have HHK := HK
            clear hlt
            go_wp2
            go_ret2
            exact .inl ⟨_, R, HMAY.out, HT.out, by have := HHK.out; omega, by have := HHK.out; omega, HRE.out, rfl, H7.d1.d1⟩
      · have hcase : k < 1 ∨ (¬ k < 1 ∧ 64 < k) := by omega
        have HKN := Lib.hid hk
        clear hk
        rcases hcase with h1 | ⟨h1, h2⟩
        all_goals
          go_wp2
          go_ret2
          exact .inr ⟨fun h => HKN.out h.2.2, rfl, H2.d0⟩
    · rw [decide_eq_false ht] at htc
      have HT := Lib.hid ht
      clear ht
      go_wp2_with fail
      refine htc.mono ?_
      rintro e w2 ⟨rfl, rfl⟩
      go_wp2
      go_ret2
      exact .inr ⟨fun h => HT.out h.2.1, rfl, H2.d0⟩
  · have HMAY := Lib.hid hmay
    clear hmay
    go_wp2
    go_ret2
    exact .inr ⟨fun h => HMAY.out h.1, rfl, H2.d0⟩
end
end Go.Proofs.Ytgnlkcdpklgikaa
