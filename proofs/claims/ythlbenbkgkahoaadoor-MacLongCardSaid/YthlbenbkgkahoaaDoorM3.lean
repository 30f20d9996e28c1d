/- MacLong walked. -/
import Derived.Test.YthlbenbkgkahoaaDoorMw
import Derived.Test.YthlbenbkgkahoaaDoorMr
import Derived.Test.YthlbenbkgkahoaaDoorEa
set_option linter.unusedVariables false
set_option linter.unusedSimpArgs false
namespace Go.Proofs.YthlbenbkgkahoaaDoor
open Go.RowKit Wd
set_option maxRecDepth 100000 in
set_option maxHeartbeats 1000000 in
theorem macLong_any {w : World} (ht : Tabs w) {A B : Option Addr} {c d : Nat} {k b : List UInt8} (hA : A = none → c = 0) (hk : RB w A k) (hc : k.length ≤ c) (hB : B = none → d = 0) (hb : RB w B b) (n0 : UInt8) :
    Calls Tryd.prog 5 #[.slice A k.length c, .slice B b.length d, .int .u8 (n0.toNat : Int)] w fun e w' => e = .returned (.bool true) ∧ Below w.heap.size w w' := by
  have H := St.start w
  have haw := fun (w1 : World) (L : List Ent) (H1 : St w w1 (w.heap[·]?) L) => awake_any ht H1
  have HAW := Lib.hid haw
  clear haw
  obtain ⟨n, hn⟩ : ∃ n, n = n0.toNat := ⟨_, rfl⟩
  have hn2 : n < 256 := by have := n0.toNat_lt; omega
  rw [← hn]
  clear hn
  by_cases hbig : 2000 < k.length ∨ 2000 < b.length
  · have hx : (2000 : Int) < (k.length : Int) ∨ (¬ (2000 : Int) < (k.length : Int) ∧ (2000 : Int) < (b.length : Int)) := by omega
    clear hbig
    rcases hx with hx | ⟨hx, hx2⟩
    all_goals
      go_enter Tryd.func5, Tryd.ntmps5
      go_wp2_with fail
      refine (HAW.out _ _ H).mono ?_
      rintro e w' ⟨rfl, H1⟩
      go_wp2
      go_ret
      exact ⟨rfl, H1.below⟩
  · have q1 : ¬ (2000 : Int) < (k.length : Int) := by omega
    have q2 : ¬ (2000 : Int) < (b.length : Int) := by omega
    have k2 : k.length ≤ 2000 := by omega
    have b2 : b.length ≤ 2000 := by omega
    clear hbig
    have sk : Sr w (w.heap[·]?) [] A k := Sr.of_in (In.oldRB H hk)
    have sb : Sr w (w.heap[·]?) [] B b := Sr.of_in (In.oldRB H hb)
    obtain ⟨D, hD⟩ : ∃ D, D = Mac.mac k b := ⟨_, rfl⟩
    have hdl : D.length = 32 := by rw [hD, Mac.mac_len]
    have hof := fun (w1 : World) (L : List Ent) (H1 : St w w1 (w.heap[·]?) L) (s : Sr w (w.heap[·]?) L A k) (s2 : Sr w (w.heap[·]?) L B b) => mac_any ht H1 hA hc s (by omega) hB s2 (by omega)
    rw [← hD] at hof
    have heq := fun w => Tryd.eq32 w D hdl
    have HD := Lib.hid hD
    have HOF := Lib.hid hof
    have HEQ := Lib.hid heq
    clear hD hdl hof heq
    by_cases h64 : 64 < k.length
    · have q3 : (64 : Int) < (k.length : Int) := by omega
      obtain ⟨E, hE⟩ : ∃ E, E = Sha.sha k := ⟨_, rfl⟩
      have hel : E.length = 32 := by rw [hE, sha_len]
      have hel2 : (bv E).length = 32 := by rw [bv_length, hel]
      have hro := rof_any H hA sk (by omega)
      rw [← hE] at hro
      have hDE : Mac.mac E b = D := by rw [HD.out, hE, Mac.mac_digest h64]
      have HRO := Lib.hid hro
      have HDE := Lib.hid hDE
      have HEL := Lib.hid hel
      clear hE hel hro hDE h64
      go_enter Tryd.func5, Tryd.ntmps5
      go_wp2_with fail
      refine HRO.out.mono ?_
      rintro e w1 ⟨rfl, H1⟩
      have H2 := H1.new (bv (List.replicate 32 0)) 24
      obtain ⟨w2, hst, H3⟩ := run_store_st (P := Tryd.prog) H2 (cs := bv E) (by rw [hel2, bv_length, List.length_replicate]) (bv_one _)
      rw [← obj32] at hst
      clear H2 HRO
      go_wp2
      generalize w1.heap.size = g1 at *
      clear hst
      refine Pt.wp_plan (fun w' => St w w' (w.heap[·]?) [eb g1 24 (bv E)]) (Pt.prs [0, 1, 3, 4] (.go 2 (.go 5 (Pt.prs [6, 7] (.go 8 (Pt.prs [9, 10] .fin)))))) [] Tryd.mixed (by kernel_rfl) (fun _ _ d _ _ h => by cases d <;> exact h) H3.drew ?_
      have H4 := H3.drew
      simp only [Pt.toL, Pt.rds, Pt.prs, Pt.at_, List.drop_succ_cons, List.drop_zero]
      iterate 4 (refine Pt.pr_run (v := ?_) (by rfl) ?_ ?_; rotate_left; (focus (intro w'; go_simp; with_reducible rfl)); simp only [Act.put, List.setIfInBounds_toArray, List.set_cons_zero, List.set_cons_succ])
      refine Pt.run_go ?_
      go_wp2_with fail
      refine (HOF.out _ _ H4 (sk.cons _) (sb.cons _)).mono ?_
      rintro e w4 ⟨rfl, H5⟩
      go_wp2_with fail
      refine Pt.same H5 ?_
      have h2 := mac_any ht H5 (A := some ⟨g1, 0, none⟩) (c := 32) (k := E) (by rintro ⟨⟩) (by rw [HEL.out]; exact Nat.le_refl _) (Sr.blk 0 rfl (by rw [List.drop_zero, List.take_of_length_le (by rw [bv_length]; exact Nat.le_refl _)])) (by rw [HEL.out]; decide) hB (sb.cons _) (by omega)
      rw [HDE.out, HEL.out] at h2
      have HO2 := Lib.hid h2
      clear h2
      refine Pt.run_go ?_
      go_wp2_with fail
      refine HO2.out.mono ?_
      rintro e w5 ⟨rfl, H6⟩
      go_wp2_with fail
      refine Pt.same H6 ?_
      have heq := HEQ.out
      iterate 2 (refine Pt.pr_run (v := ?_) (by rfl) ?_ ?_; rotate_left; (focus (intro w'; go_simp; with_reducible rfl)); simp only [Act.put, List.setIfInBounds_toArray, List.set_cons_zero, List.set_cons_succ])
      clear heq
      refine Pt.run_go ?_
      go_wp2_with fail
      refine (HAW.out _ _ H6).mono ?_
      rintro e w6 ⟨rfl, H7⟩
      go_wp2_with fail
      refine Pt.same H7 ?_
      iterate 2 (refine Pt.pr_run (v := ?_) (by rfl) ?_ ?_; rotate_left; (focus (intro w'; go_simp; with_reducible rfl)); simp only [Act.put, List.setIfInBounds_toArray, List.set_cons_zero, List.set_cons_succ])
      refine Pt.run_fin ?_
      go_wp2
      go_ret
      exact ⟨rfl, H7.below⟩
    · have q3 : ¬ (64 : Int) < (k.length : Int) := by omega
      have k64 : k.length ≤ 64 := by omega
      clear h64
      have H1 := H.lit0 5
      have r1 := (sk.cons (er 5 1 (.slice (some ⟨w.heap.size, 0, none⟩) 0 0) 0 [])).now H1
      go_enter Tryd.func5, Tryd.ntmps5
      go_wp2_with (at_builtin; refine wpList_append_st H1 (by rfl) (.tmp 33) (.tmp 34) 22 (by rfl) Tryd.info5 Tryd.underlying22 (by rfl) A k.length c k (by rfl) rfl hA r1 (by omega) ?_)
      intro v1 w1 H2
      try simp only [Nat.zero_add, List.nil_append] at H2
      clear H1 r1
      go_wp2
      go_loopw [8, 2] (fun v x wr => ∃ (z m : Nat), k.length + z ≤ 64 ∧ m < 256 ∧ x = .int .u8 m ∧ St w wr (w.heap[·]?) [er 5 1 v (k.length + z) (bv (k ++ List.replicate z 0))]) (fun _ x _ => (intOf x).toNat)
      case atStart => exact ⟨0, n, by omega, hn2, rfl, by rw [List.replicate_zero, List.append_nil]; exact H2⟩
      case round =>
        obtain ⟨z, m, hz, hm, rfl, H3⟩ := hrel
        clear H2
        obtain ⟨A1, c1, rfl, hc1, hA1⟩ := H3.shape' 0 rfl
        obtain ⟨T, hT⟩ : ∃ T, T = k ++ List.replicate z (0 : UInt8) := ⟨_, rfl⟩
        have hTl : T.length = k.length + z := by rw [hT, List.length_append, List.length_replicate]
        rw [← hT, ← hTl] at H3
        rw [← hTl] at hz hc1 ⊢
        by_cases hgo : T.length < 64 ∧ 0 < m
        · obtain ⟨hlt, hm0⟩ := hgo
          obtain ⟨m1, rfl⟩ : ∃ m1, m = m1 + 1 := ⟨m - 1, by omega⟩
          have e1 : (((m1 + 1 : Nat)) : Int) - 1 = (m1 : Int) := by omega
          have e2 : ((m1 : Int)) % 256 = (m1 : Int) := by omega
          have p1 : (T.length : Int) < 64 := by omega
          have p2 : (0 : Int) < ((m1 + 1 : Nat) : Int) := by omega
          have HT := Lib.hid (show T = k ++ List.replicate z 0 ∧ T.length = k.length + z ∧ T.length < 64 ∧ m1 + 1 < 256 from ⟨hT, hTl, hlt, hm⟩)
          obtain ⟨M1, hM1⟩ : ∃ M1, M1 = m1 + 1 := ⟨_, rfl⟩
          rw [← hM1] at e1 p2 ⊢
          have HM1 := Lib.hid hM1
          have HE := Lib.hid (And.intro e1 e2)
          clear hT hTl hlt hm hm0 hz hM1 e1 e2
          have H4 := H3.lit (bv [0]) 5 (by show 1 ≤ maxLen; decide)
          go_wp2_with (at_builtin; refine wpList_append_st H4.f1 (by rfl) (.tmp 43) (.tmp 44) 22 (by rfl) Tryd.info5 Tryd.underlying22 (by rfl) (some ⟨wr.heap.size, 0, none⟩) 1 1 [0] (by rfl) rfl (by rintro ⟨⟩) (er_RB (H4.get 0 rfl)) (by omega) ?_)
          intro v5 w5 H5
          have H6 := H5.d1
          obtain ⟨k1, k2, k3, k4⟩ := HT.out
          rw [← bv_append, show T ++ [0] = k ++ List.replicate (z + 1) 0 from by rw [k1, List.append_assoc, ← List.replicate_succ'], show T.length + 1 = k.length + (z + 1) from by omega] at H6
          have hz2 : k.length + (z + 1) ≤ 64 := by omega
          clear H3 H4 H5 k1 k2
          obtain ⟨e1, e2⟩ := HE.out
          go_wp2
          exact ⟨⟨z + 1, m1, hz2, by omega, by first | rfl | (congr 1; omega), H6⟩, by have := HM1.out; simp [intOf]; omega⟩
        · have hx : ¬ (T.length : Int) < 64 ∨ ((T.length : Int) < 64 ∧ ¬ (0 : Int) < (m : Int)) := by omega
          have hDT : Mac.mac T b = D := by rw [HD.out, hT, Mac.mac_zeros k b z (by omega)]
          have h1 := fun (w1 : World) (H1 : St w w1 (w.heap[·]?) [er 5 1 (.slice A1 T.length c1) T.length (bv T)]) => mac_any ht H1 hA1 (by omega) (Sr.row 0 rfl) (by omega) hB (sb.cons _) (by omega)
          rw [hDT] at h1
          have HO2 := Lib.hid h1
          have HDT := Lib.hid hDT
          clear h1 hDT hT hTl hgo
          rcases hx with hx | ⟨hx, hx2⟩
          all_goals
            go_wp2_with fail
            refine (HOF.out _ _ H3 (sk.cons _) (sb.cons _)).mono ?_
            rintro e w4 ⟨rfl, H5⟩
            go_wp2_with fail
            refine (HO2.out _ H5).mono ?_
            rintro e w5 ⟨rfl, H6⟩
            have heq := HEQ.out
            go_wp2_with fail
            refine (HAW.out _ _ H6).mono ?_
            rintro e w6 ⟨rfl, H7⟩
            go_wp2
            go_ret
            exact ⟨rfl, H7.below⟩
end Go.Proofs.YthlbenbkgkahoaaDoor
