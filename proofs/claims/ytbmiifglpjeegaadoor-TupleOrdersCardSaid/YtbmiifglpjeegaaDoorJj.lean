/- The contract of tuple.take at a number; of take at all. -/
import Derived.Test.YtbmiifglpjeegaaDoorJi
import Derived.Test.YtbmiifglpjeegaaDoorU3
import Derived.Deep.DeepCutAuto
set_option linter.unusedVariables false
set_option linter.unusedSimpArgs false
namespace Go.Proofs.YtbmiifglpjeegaaDoor
open Go.RowKit Wd
set_option maxRecDepth 100000 in
theorem Tu.val_run (x : Nat) (c : UInt8) (h : x * 256 + c.toNat < 18446744073709551616) : ∃ m : Nat, IntKind.u64.wrap ((x : Int) * 256) = (m : Int) ∧ IntKind.u64.wrap (c.toNat : Int) = (c.toNat : Int) ∧ bits .or .u64 (m : Int) (c.toNat : Int) = ((x * 256 + c.toNat : Nat) : Int) := by
  have hc := c.toNat_lt
  have hx : x * 256 < 18446744073709551616 := by omega
  have w1 : IntKind.u64.wrap ((x : Int) * 256) = ((x * 256 : Nat) : Int) := by
    have e : ((x * 256 : Nat) : Int) % 18446744073709551616 = ((x * 256 : Nat) : Int) := Int.emod_eq_of_lt (Int.natCast_nonneg _) (Int.ofNat_lt.2 hx)
    rw [IntKind.wrap_u64]
    exact e
  have w2 : IntKind.u64.wrap (c.toNat : Int) = (c.toNat : Int) := by
    rw [IntKind.wrap_u64]
    exact Int.emod_eq_of_lt (by omega) (by omega)
  refine ⟨x * 256, w1, w2, ?_⟩
  have hc2 : c.toNat < 18446744073709551616 := by omega
  rw [u64_or_nat _ _ hx hc2]
  have h1 := Nat.two_pow_add_eq_or_of_lt (i := 8) (b := c.toNat) (by omega) x
  have h2 : 2 ^ 8 * x = x * 256 := by omega
  rw [h2] at h1
  rw [← h1]
theorem Tu.val_take (l : List UInt8) (k : Nat) (h : k < l.length) : Tu.val (l.take (k + 1)) = Tu.val (l.take k) * 256 + l[k].toNat := by
  rw [List.take_succ_eq_append_getElem h, Tu.val_snoc]
section
variable {w0 w : World} {M : Mem} {L : List Ent}
set_option maxRecDepth 100000 in
set_option maxHeartbeats 1000000 in
theorem take_bad (H : St w0 w M L) (c : UInt8) (s : List UInt8) (hs : s.length ≤ 1000000) (hc : c ≠ 32) (hb : c.toNat < 16 ∨ 24 < c.toNat ∨ (16 ≤ c.toNat ∧ c.toNat ≤ 24 ∧ s.length < c.toNat - 16) ∨ (16 < c.toNat ∧ c.toNat ≤ 24 ∧ c.toNat - 16 ≤ s.length ∧ ∃ r, s = 0 :: r)) :
    Calls Tryd.prog 21 #[.string (str (c :: s))] w fun e w' => e = .returned (.tuple #[pv ⟨[], 0, false⟩, .string (str []), .bool false]) ∧ St w0 w' M L := by
  obtain ⟨S, hS⟩ : ∃ S, S = c :: s := ⟨_, rfl⟩
  have hSl : S.length = s.length + 1 := by rw [hS]; rfl
  have i0 := fun w => str_index (P := Tryd.prog) (k := .i64) (i := 0) Tryd.underlying9 S 0 (by omega) rfl w
  have i1 := fun w => str_from (P := Tryd.prog) (k := .i64) (i := 1) Tryd.underlying9 S 1 (by omega) rfl w
  have e0 : S[0]'(by omega) = c := by simp [hS]
  have e1 : S.drop 1 = s := by rw [hS]; rfl
  rw [e1] at i1
  simp only [e0] at i0
  rw [← hS]
  have HN := H.new z42 42
  have p1 : ((c.toNat : Int) == 32) = false := by
    simp only [beq_eq_false_iff_ne]
    intro h
    exact hc (UInt8.toNat_inj.1 (by show c.toNat = 32; omega))
  obtain ⟨x, hx⟩ : ∃ x : Int, x = (c.toNat : Int) - 16 := ⟨_, rfl⟩
  have ex : (c.toNat : Int) - 16 = x := hx.symm
  have hcl := c.toNat_lt
  have hx1 : -16 ≤ x := by omega
  have hx2 : x ≤ 239 := by omega
  have hcase : x < 0 ∨ (¬ x < 0 ∧ 8 < x) ∨ (¬ x < 0 ∧ ¬ 8 < x ∧ (s.length : Int) < x) ∨ (¬ x < 0 ∧ ¬ 8 < x ∧ ¬ (s.length : Int) < x ∧ 0 < x ∧ ∃ r, s = 0 :: r) := by
    rcases hb with h | h | ⟨h1, h2, h3⟩ | ⟨h1, h2, h3, h4⟩
    · exact .inl (by omega)
    · exact .inr (.inl (by omega))
    · exact .inr (.inr (.inl (by omega)))
    · exact .inr (.inr (.inr ⟨by omega, by omega, by omega, by omega, h4⟩))
  clear hS hSl e0 e1 hc hb hx
  go_enter Tryd.func21, Tryd.ntmps21
  go_wp2
  refine Pt.wp_plan (fun _ => True) (Pt.prs [0, 1, 2, 3, 4, 5] .fin) [] Tryd.mixed (by kernel_rfl) (fun _ _ d _ _ h => by cases d <;> exact h) trivial ?_
  simp only [Pt.toL, Pt.rds, Pt.prs, Pt.at_, List.drop_succ_cons, List.drop_zero]
  iterate 6 (refine Pt.pr_run (v := ?_) (by rfl) ?_ ?_; rotate_left; (focus (intro w'; go_simp; with_reducible rfl)); simp only [Act.put, List.setIfInBounds_toArray, List.set_cons_zero, List.set_cons_succ])
  refine Pt.run_fin ?_
  have H2 := HN.drew
  simp only [z42] at H2
  generalize hxx : World.drew _ = x1 at *
  generalize hgg : w.heap.size = G at *
  clear hxx hgg HN H i0 i1
  have c0 := H2.cell 0 rfl 0
  have c1 := H2.cell 0 rfl 1
  have c2 := H2.cell 0 rfl 2
  have f0 := H2.frozen 0 rfl 0
  have f1 := H2.frozen 0 rfl 1
  have f2 := H2.frozen 0 rfl 2
  have H3 := ((H2.set 0 (.string ⟨#[]⟩)).set 1 (.int .u64 0)).set 2 (.bool false)
  rcases hcase with q1 | ⟨q1, q2⟩ | ⟨q1, q2, q3⟩ | ⟨q1, q2, q3, q4, r, hr⟩
  · go_wp2
    refine ret_row_tmp2 H3 rfl rfl Tryd.underlying42 rfl Tryd.sizePart rfl ?_
    exact ⟨rfl, H3.d0⟩
  · go_wp2
    refine ret_row_tmp2 H3 rfl rfl Tryd.underlying42 rfl Tryd.sizePart rfl ?_
    exact ⟨rfl, H3.d0⟩
  · go_wp2
    refine ret_row_tmp2 H3 rfl rfl Tryd.underlying42 rfl Tryd.sizePart rfl ?_
    exact ⟨rfl, H3.d0⟩
  · have i0 := fun w => str_index (P := Tryd.prog) (k := .i64) (i := 0) Tryd.underlying9 s 0 (by rw [hr]; simp) rfl w
    have e0 : s[0]'(by rw [hr]; simp) = 0 := by simp [hr]
    simp only [e0] at i0
    rw [show ((0 : UInt8).toNat : Int) = 0 from rfl] at i0
    clear e0 hr
    go_wp2
    refine ret_row_tmp2 H3 rfl rfl Tryd.underlying42 rfl Tryd.sizePart rfl ?_
    exact ⟨rfl, H3.d0⟩
set_option maxRecDepth 100000 in
set_option maxHeartbeats 1000000 in
theorem take_good (H : St w0 w M L) (c : UInt8) (s : List UInt8) (hs : s.length ≤ 1000000) (N : Nat) (hc : c.toNat = 16 + N) (hN : N ≤ 8) (hNs : N ≤ s.length) (hz : N = 0 ∨ ∃ b r, s = b :: r ∧ b ≠ 0) :
    Calls Tryd.prog 21 #[.string (str (c :: s))] w fun e w' => e = .returned (.tuple #[pv ⟨[], Tu.val (s.take N), false⟩, .string (str (s.drop N)), .bool true]) ∧ St w0 w' M L := by
  obtain ⟨S, hS⟩ : ∃ S, S = c :: s := ⟨_, rfl⟩
  have hSl : S.length = s.length + 1 := by rw [hS]; rfl
  have i0 := fun w => str_index (P := Tryd.prog) (k := .i64) (i := 0) Tryd.underlying9 S 0 (by omega) rfl w
  have i1 := fun w => str_from (P := Tryd.prog) (k := .i64) (i := 1) Tryd.underlying9 S 1 (by omega) rfl w
  have e0 : S[0]'(by omega) = c := by simp [hS]
  have e1 : S.drop 1 = s := by rw [hS]; rfl
  rw [e1] at i1
  simp only [e0] at i0
  rw [← hS]
  have HN := H.new z42 42
  have p1 : ((c.toNat : Int) == 32) = false := by
    simp only [beq_eq_false_iff_ne]
    omega
  have ex : (c.toNat : Int) - 16 = (N : Int) := by omega
  have q1 : ¬ (N : Int) < 0 := by omega
  have q2 : ¬ 8 < (N : Int) := by omega
  have q3 : ¬ (s.length : Int) < (N : Int) := by omega
  have q3n : ¬ s.length < N := by omega
  have hcl := c.toNat_lt
  have hNb : (N : Int) ≤ 8 := by omega
  have sl := fun w => str_from (P := Tryd.prog) (k := .i64) (i := (N : Int)) Tryd.underlying9 s N hNs rfl w
  obtain ⟨V, hV⟩ : ∃ V, V = Tu.val (s.take N) := ⟨_, rfl⟩
  obtain ⟨D, hD⟩ : ∃ D, D = s.drop N := ⟨_, rfl⟩
  rw [← hD] at sl
  rw [← hV, ← hD]
  have HV := Lib.hid hV
  have HC := Lib.hid hc
  clear hS hSl e0 e1 hc hV hD
  have hz2 : ¬ 0 < (N : Int) ∨ (0 < (N : Int) ∧ ∃ b r, s = b :: r ∧ b ≠ 0) := by
    rcases Nat.eq_zero_or_pos N with h | h
    · exact .inl (by omega)
    · rcases hz with h2 | h2
      · omega
      · exact .inr ⟨by omega, h2⟩
  have HZ := Lib.hid hz2
  clear hz hz2
  go_enter Tryd.func21, Tryd.ntmps21
  go_wp2
  refine Pt.wp_plan (fun _ => True) (Pt.prs [0, 1, 2, 3, 4, 5] .fin) [] Tryd.mixed (by kernel_rfl) (fun _ _ d _ _ h => by cases d <;> exact h) trivial ?_
  simp only [Pt.toL, Pt.rds, Pt.prs, Pt.at_, List.drop_succ_cons, List.drop_zero]
  iterate 6 (refine Pt.pr_run (v := ?_) (by rfl) ?_ ?_; rotate_left; (focus (intro w'; go_simp; with_reducible rfl)); simp only [Act.put, List.setIfInBounds_toArray, List.set_cons_zero, List.set_cons_succ])
  refine Pt.run_fin ?_
  have H2 := HN.drew
  simp only [z42] at H2
  generalize hxx : World.drew _ = x1 at *
  generalize hgg : w.heap.size = G at *
  clear hxx hgg HN H i0 i1
  have HSL := Lib.hid sl
  clear sl
  have hz2 := HZ.out
  rcases hz2 with q4 | ⟨q4, b, r, hr, hb⟩
  all_goals first
    | (have i0 := fun w => str_index (P := Tryd.prog) (k := .i64) (i := 0) Tryd.underlying9 s 0 (by rw [hr]; simp) rfl w
       have e0 : s[0]'(by rw [hr]; simp) = b := by simp [hr]
       simp only [e0] at i0
       have p2 : ((b.toNat : Int) == 0) = false := by
         simp only [beq_eq_false_iff_ne]
         intro h
         exact hb (UInt8.toNat_inj.1 (by show b.toNat = 0; omega))
       clear e0 hr hb)
    | skip
  all_goals
    go_upto_region 18 with fail
    go_wp2
    go_loopw [78] (fun i wr => ∃ k : Nat, k ≤ N ∧ i = .int .i64 k ∧ St w0 wr M (eb G 42 [.string ⟨#[]⟩, .int .u64 (Tu.val (s.take k) : Int), .bool false] :: L)) (fun i _ => N - (intOf i).toNat)
    case atStart => exact ⟨0, by omega, rfl, H2⟩
    case round =>
      obtain ⟨k, hk, rfl, H3⟩ := hrel
      clear H2
      by_cases hlt : k < N
      · have hks : k < s.length := by omega
        have hr := Tu.val_take s k hks
        have hlim := Tu.val_lt8 (l := s.take (k + 1)) (by rw [List.length_take]; omega)
        rw [hr] at hlim
        have ik := fun w => str_index (P := Tryd.prog) (k := .i64) (i := (k : Int)) Tryd.underlying9 s k hks rfl w
        obtain ⟨Y, hY⟩ : ∃ Y, Y = Tu.val (s.take k) := ⟨_, rfl⟩
        obtain ⟨v, hv⟩ : ∃ v, v = s[k] := ⟨_, rfl⟩
        rw [← hY, ← hv] at hr hlim
        simp only [← hv] at ik
        rw [← hY] at H3
        obtain ⟨m, e1, e3, e2⟩ := Tu.val_run Y v hlim
        obtain ⟨T, hT⟩ : ∃ T, T = Y * 256 + v.toNat := ⟨_, rfl⟩
        rw [← hT] at hr e2
        have HR := Lib.hid hr
        have HLT := Lib.hid hlt
        have q5 : (k : Int) < (N : Int) := by omega
        clear hr hY hv hT hlt hlim hks
        go_wp2
        refine Pt.wp_plan (fun w' => St w0 w' M (eb G 42 [.string ⟨#[]⟩, .int .u64 (Y : Int), .bool false] :: L)) (Pt.prs [0, 3, 4, 5] (Pt.rds [1] (Pt.prs [2] (Pt.rds [6] (Pt.prs [7, 8] (.st 9 .fin)))))) [9] Tryd.mixed (by kernel_rfl) (fun _ _ d _ _ h => by cases d <;> exact h) H3.drew ?_
        have H4 := H3.drew
        simp only [Pt.toL, Pt.rds, Pt.prs, Pt.at_, List.drop_succ_cons, List.drop_zero]
        iterate 4 (refine Pt.pr_run (v := ?_) (by rfl) ?_ ?_; rotate_left; (focus (intro w'; go_simp; with_reducible rfl)); simp only [Act.put, List.setIfInBounds_toArray, List.set_cons_zero, List.set_cons_succ])
        (refine Pt.rd_run (v := ?_) (by rfl) ?_ ?_; rotate_left; (focus (intro w' hS; have c1 := hS.cell 0 rfl 1; go_simp; with_reducible rfl)); simp only [Act.put, List.setIfInBounds_toArray, List.set_cons_zero, List.set_cons_succ])
        (refine Pt.pr_run (v := ?_) (by rfl) ?_ ?_; rotate_left; (focus (intro w'; go_simp; with_reducible rfl)); simp only [Act.put, List.setIfInBounds_toArray, List.set_cons_zero, List.set_cons_succ])
        (refine Pt.rd_run (v := ?_) (by rfl) ?_ ?_; rotate_left; (focus (intro w' hS; obtain s0 := hS; go_simp; with_reducible rfl)); simp only [Act.put, List.setIfInBounds_toArray, List.set_cons_zero, List.set_cons_succ])
        iterate 2 (refine Pt.pr_run (v := ?_) (by rfl) ?_ ?_; rotate_left; (focus (intro w'; go_simp; with_reducible rfl)); simp only [Act.put, List.setIfInBounds_toArray, List.set_cons_zero, List.set_cons_succ])
        generalize hxx : wr.drew = wy at *
        clear hxx H3
        have f1 := H4.frozen 0 rfl 1
        have c1 := H4.cell 0 rfl 1
        have H5 := H4.set 1 (.int .u64 (T : Int))
        clear e1 e2 e3 ik
        have t1 : (storeVar 40 ⟨G, 1, none⟩ (.int .u64 (T : Int))).run Tryd.prog wy = .ok () (wy.setCell ⟨G, 1, none⟩ (.int .u64 (T : Int))) := by go_simp
        refine Pt.run_st ?_
        refine wpList_store_run (by rfl) 40 (.tmp 89) (.tmp 88) (by rfl) ⟨G, 1, none⟩ (.int .u64 (T : Int)) (by rfl) (by rfl) _ t1 ?_
        refine wpList_nil ?_
        clear t1
        simp only [Pl.Then]
        simp only [Act.put, List.setIfInBounds_toArray, List.set_cons_zero, List.set_cons_succ]
        refine Pt.run_fin ?_
        go_wp2
        refine ⟨⟨k + 1, by have := HLT.out; omega, by go_num, by rw [HR.out]; exact H5⟩, by have := HLT.out; simp [intOf]; omega⟩
      · obtain rfl : k = N := by omega
        have hV := HV.out
        rw [← hV] at H3
        have sl := HSL.out
        clear hlt hV
        go_wp2
        refine Pt.wp_plan (fun w' => St w0 w' M (eb G 42 [.string ⟨#[]⟩, .int .u64 (V : Int), .bool false] :: L)) (Pt.prs [1, 2, 3] (Pt.rds [0] (.st 4 (Pt.prs [5, 6] .fin)))) [4] Tryd.mixed (by kernel_rfl) (fun _ _ d _ _ h => by cases d <;> exact h) H3.drew ?_
        have H4 := H3.drew
        simp only [Pt.toL, Pt.rds, Pt.prs, Pt.at_, List.drop_succ_cons, List.drop_zero]
        iterate 3 (refine Pt.pr_run (v := ?_) (by rfl) ?_ ?_; rotate_left; (focus (intro w'; go_simp; with_reducible rfl)); simp only [Act.put, List.setIfInBounds_toArray, List.set_cons_zero, List.set_cons_succ])
        (refine Pt.rd_load (by rfl) 42 (.tmp 2) (by rfl) G 0 (by rfl) [.string ⟨#[]⟩, .int .u64 (V : Int), .bool false] _ (fun _ h => (h.blk 0 rfl).range 0 3 _ rfl) Tryd.underlying42 rfl (by exact Tryd.sizePart) ?_; simp only [Act.put, List.setIfInBounds_toArray, List.set_cons_zero, List.set_cons_succ])
        generalize hxx : wr.drew = wy at *
        clear hxx H3
        have f0 := H4.frozen 0 rfl 0
        have f1 := H4.frozen 0 rfl 1
        have f2 := H4.frozen 0 rfl 2
        have c0 := H4.cell 0 rfl 0
        have c1 := H4.cell 0 rfl 1
        have c2 := H4.cell 0 rfl 2
        have H5 := ((H4.set 0 (.string ⟨#[]⟩)).set 1 (.int .u64 (V : Int))).set 2 (.bool false)
        refine Pt.run_st ?_
        go_wp2_with fail
        try simp only [Pl.Then, Act.put]
        iterate 2 (refine Pt.pr_run (v := ?_) (by rfl) ?_ ?_; rotate_left; (focus (intro w'; go_simp; with_reducible rfl)); simp only [Act.put, List.setIfInBounds_toArray, List.set_cons_zero, List.set_cons_succ])
        refine Pt.run_fin ?_
        go_wp2
        refine ret_row_tmp2 H5 rfl rfl Tryd.underlying42 rfl Tryd.sizePart rfl ?_
        exact ⟨rfl, H5.d0⟩
/-- TAKE. -/
theorem take_any (H : St w0 w M L) (c : UInt8) (s : List UInt8) (hs : s.length ≤ 1000000) :
    Calls Tryd.prog 21 #[.string (str (c :: s))] w (RetTake w0 M L (Tu.take (c :: s))) := by
  by_cases hc : c = 32
  · subst hc
    exact take_text H s hs
  · by_cases hg : 16 ≤ c.toNat ∧ c.toNat ≤ 24 ∧ c.toNat - 16 ≤ s.length ∧ ¬ s.take (min (c.toNat - 16) 1) = [0]
    · have ht : Tu.take (c :: s) = some (⟨[], Tu.val (s.take (c.toNat - 16)), false⟩, s.drop (c.toNat - 16)) := by rw [Tu.take, if_neg hc, if_pos hg]
      rw [ht]
      obtain ⟨h1, h2, h3, h4⟩ := hg
      refine (take_good H c s hs (c.toNat - 16) (by omega) (by omega) h3 ?_).mono fun e w' h => .inl ⟨_, _, rfl, h.1, h.2⟩
      rcases Nat.eq_zero_or_pos (c.toNat - 16) with h5 | h5
      · exact .inl h5
      · right
        rw [Nat.min_eq_right h5] at h4
        cases s with
        | nil => simp at h3; omega
        | cons b r => exact ⟨b, r, rfl, fun hb => h4 (by subst hb; rfl)⟩
    · have ht : Tu.take (c :: s) = none := by rw [Tu.take, if_neg hc, if_neg hg]
      rw [ht]
      refine (take_bad H c s hs hc ?_).mono fun e w' h => .inr ⟨rfl, h.1, h.2⟩
      rcases Nat.lt_or_ge c.toNat 16 with h1 | h1
      · exact .inl h1
      · rcases Nat.lt_or_ge 24 c.toNat with h2 | h2
        · exact .inr (.inl h2)
        · rcases Nat.lt_or_ge s.length (c.toNat - 16) with h3 | h3
          · exact .inr (.inr (.inl ⟨h1, h2, h3⟩))
          · have h4 : s.take (min (c.toNat - 16) 1) = [0] := by
              rcases Classical.em (s.take (min (c.toNat - 16) 1) = [0]) with h | h
              · exact h
              · exact absurd ⟨h1, h2, h3, h⟩ hg
            refine .inr (.inr (.inr ⟨?_, h2, h3, ?_⟩))
            · rcases Nat.eq_or_lt_of_le h1 with h5 | h5
              · rw [← h5] at h4; simp at h4
              · exact h5
            · cases s with
              | nil => simp at h4
              | cons b r =>
                have := congrArg List.head? h4
                have hm : min (c.toNat - 16) 1 ≠ 0 := by intro h0; rw [h0] at h4; simp at h4
                obtain ⟨m, hm2⟩ := Nat.exists_eq_succ_of_ne_zero hm
                rw [hm2, List.take_succ_cons] at h4
                injection h4 with h5 h6
                exact ⟨r, by rw [h5]⟩
end
end Go.Proofs.YtbmiifglpjeegaaDoor
