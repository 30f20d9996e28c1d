/- The contract of mac.Of. -/
import Derived.Test.YtcdljlaoedaliaaDoorHu
import Derived.Test.YtcdljlaoedaliaaDoorMa
import Derived.Test.YtcdljlaoedaliaaDoorWk
import Derived.Test.YtcdljlaoedaliaaDoorPt
import Derived.Deep.DeepCutAuto
set_option linter.unusedVariables false
set_option linter.unusedSimpArgs false
namespace Go.Proofs.YtcdljlaoedaliaaDoor
open Go.RowKit Wd
theorem obj32 (t : TypeId) : (Obj.cells #[.int .u8 0, .int .u8 0, .int .u8 0, .int .u8 0, .int .u8 0, .int .u8 0, .int .u8 0, .int .u8 0, .int .u8 0, .int .u8 0, .int .u8 0, .int .u8 0, .int .u8 0, .int .u8 0, .int .u8 0, .int .u8 0, .int .u8 0, .int .u8 0, .int .u8 0, .int .u8 0, .int .u8 0, .int .u8 0, .int .u8 0, .int .u8 0, .int .u8 0, .int .u8 0, .int .u8 0, .int .u8 0, .int .u8 0, .int .u8 0, .int .u8 0, .int .u8 0] t (0, 0)) = .cells (bv (List.replicate 32 0)).toArray t (0, 0) := rfl
theorem Tryd.zeroK : (Tryd.prog.info? 77).map (fun i => (i.zero, i.size)) = some (some (.agg (Array.replicate 64 (.int .u8 0))), 64) := by kernel_rfl
theorem cells64 : (Value.agg (Array.replicate 64 (.int .u8 0))).cells.toList = bv (List.replicate 64 0) := rfl
theorem Tryd.size5 : (Tryd.prog.info? 5).map (·.size) = some 1 := by kernel_rfl
section
variable {w0 w : World} {M : Mem} {L : List Ent}
set_option maxRecDepth 100000 in
set_option maxHeartbeats 2000000 in
theorem mac_any (ht : Tabs w0) (H : St w0 w M L) {A : Option Addr} {c : Nat} {k : List UInt8} (hA : A = none → c = 0) (hc : k.length ≤ c) (hk : Sr w0 M L A k) (hn : k.length < 140737488355000)
    {B : Option Addr} {d : Nat} {b : List UInt8} (hB : B = none → d = 0) (hb : Sr w0 M L B b) (hbn : b.length < 140737488355000) :
    Calls Tryd.prog 57 #[.slice A k.length c, .slice B b.length d] w fun e w' => e = .returned (.agg (bv (Mac.mac k b)).toArray) ∧ St w0 w' M L := by
  obtain ⟨D, hD⟩ : ∃ D, D = Mac.mac k b := ⟨_, rfl⟩
  rw [← hD]
  have HD := Lib.hid hD
  clear hD
  go_enter Tryd.func57, Tryd.ntmps57
  go_upto_region 1 with fail
  have H1 := H.new (bv (List.replicate 32 0)) 40
  rw [obj32]
  generalize hw1 : w.alloc (.cells (bv (List.replicate 32 0)).toArray 40) = w1 at *
  generalize hob : w.heap.size = ob at *
  obtain ⟨zs, hzs⟩ : ∃ zs, zs = bv (List.replicate 32 0) := ⟨_, rfl⟩
  rw [← hzs] at H1
  have hzl : zs.length = 32 := by rw [hzs, bv_length, List.length_replicate]
  have HZS := Lib.hid hzl
  clear hw1 hob hzs hzl
  go_upto_if 13 with fail
  go_cut [0] (fun v wx => ∃ (A' : Option Addr) (c' : Nat) (M' : Mem), v = .slice A' (Mac.short k).length c' ∧ (A' = none → c' = 0) ∧ (Mac.short k).length ≤ c' ∧ M.le M' ∧ Sr w0 M' L A' (Mac.short k) ∧ St w0 wx M' (eb ob 40 zs :: L))
  case first =>
    by_cases h64 : 64 < k.length
    · have q1 : (64 : Int) < (k.length : Int) := by omega
      obtain ⟨E, hE⟩ : ∃ E, E = Sha.sha k := ⟨_, rfl⟩
      have hso := of_any ht H1 hA hc (hk.cons _) (by omega)
      rw [← hE] at hso
      have hel : E.length = 32 := by rw [hE, sha_len]
      have hel2 : (bv E).length = 32 := by rw [bv_length, hel]
      have HSO := Lib.hid hso
      have HE := Lib.hid hE
      have HEL := Lib.hid hel
      have H64 := Lib.hid h64
      clear hso hE hel h64
      go_wp2_with fail
      refine HSO.out.mono ?_
      rintro e w2 ⟨rfl, H2⟩
      have H3 := H2.new (bv (List.replicate 32 0)) 40
      obtain ⟨w3, hst, H4⟩ := run_store_st (P := Tryd.prog) H3 (cs := bv E) (by rw [hel2, bv_length, List.length_replicate]) (bv_one _)
      rw [← obj32] at hst
      clear H2 H3
      go_wp2_with fail
      go_meet
      obtain ⟨M', hM', H5, hbk⟩ := H4.keepBlk
      refine ⟨some ⟨w2.heap.size, 0, none⟩, 32, M', ?_, (by rintro ⟨⟩), ?_, hM', ?_, H5⟩
      · rw [Mac.short_long H64.out, sha_len]
      · rw [Mac.short_long H64.out, sha_len]; exact Nat.le_refl _
      · rw [Mac.short_long H64.out, ← HE.out]
        exact Sr.of_in (hbk.imp fun W hW => hW.RB (by rw [List.drop_zero, List.take_of_length_le (by rw [bv_length]; exact Nat.le_refl _)]))
    · have q1 : ¬ (64 : Int) < (k.length : Int) := by omega
      have HS := Lib.hid (Mac.short_short h64)
      clear h64
      go_wp2_with fail
      go_meet
      refine ⟨A, c, M, by rw [HS.out], hA, by rw [HS.out]; exact hc, Mem.le.refl _, by rw [HS.out]; exact hk, H1⟩
  case rest =>
    obtain ⟨A', c', M', rfl, hA', hc', hM', hs', H2⟩ := hcut
    clear H1
    obtain ⟨K, hK⟩ : ∃ K, K = Mac.short k := ⟨_, rfl⟩
    have hKl : K.length ≤ 64 := by rw [hK]; exact Mac.short_le k
    rw [← hK] at hc' hs' ⊢
    have HK := Lib.hid hK
    clear hK
    go_upto_region 4 with fail
    refine wp_region_lit ?_
    refine wpList_alloc_st H2 (by rfl) 77 (by rfl) Tryd.zeroK ?_
    intro g6 w3 H3
    refine wpList_alloc_st H3 (by rfl) 77 (by rfl) Tryd.zeroK ?_
    intro g7 w4 H4
    refine wpList_nil ?_
    rw [cells64] at H4
    obtain ⟨Z, hZ⟩ : ∃ Z : List UInt8, Z = List.replicate 64 0 := ⟨_, rfl⟩
    rw [← hZ] at H4
    have hZl : Z.length = 64 := by rw [hZ, List.length_replicate]
    have HZ := Lib.hid hZ
    have HZL := Lib.hid hZl
    clear hZ hZl
    simp only [Act.put, List.setIfInBounds_toArray, List.set_cons_zero, List.set_cons_succ]
    go_wp2_with (refine wpList_copy_st (op := ⟨some 19, _, _, _, _, _⟩) H4.f1 (by rfl) (.tmp 17) (.tmp 18) 42 42 (by rfl) 5 Tryd.underlying42 Tryd.size5 0 64 64 A' K.length c' (by rfl) (by rfl) K rfl (hs'.now H4.d0.d0.d0) (by rw [bv_length, HZL.out, Nat.zero_add]; exact Nat.min_le_right _ _) ?_)
    intro w5 H5
    rw [HK.out, HZ.out, Mac.ins_pad, ← HZ.out] at H5
    go_wp2_with (refine wpList_copy_st (op := ⟨some 22, _, _, _, _, _⟩) H5.f1 (by rfl) (.tmp 20) (.tmp 21) 42 42 (by rfl) 5 Tryd.underlying42 Tryd.size5 0 64 64 A' K.length c' (by rfl) (by rfl) K rfl (hs'.now H5.d0.d0.d0) (by rw [bv_length, HZL.out, Nat.zero_add]; exact Nat.min_le_right _ _) ?_)
    intro w6 H6
    rw [HK.out, HZ.out, Mac.ins_pad] at H6
    have hne : g7 ≠ g6 := H6.ne_ 0 1 rfl rfl (by decide)
    obtain ⟨p, hp⟩ : ∃ p, p = Mac.pad k := ⟨_, rfl⟩
    have hpl : p.length = 64 := by rw [hp, Mac.pad_len]
    rw [← hp] at H6
    have HP := Lib.hid hp
    have HPL := Lib.hid hpl
    clear hp H5 H4 H3 H2 hKl hc' hA' hs'
    go_wp2
    go_loopw [23] (fun i wr => ∃ j : Nat, j ≤ 64 ∧ i = .int .i64 j ∧ St w0 wr M' (eb g7 77 (bv (Mac.half 92 p j)) :: eb g6 77 (bv (Mac.half 54 p j)) :: eb ob 40 zs :: L)) (fun i _ => 64 - (intOf i).toNat)
    case atStart => exact ⟨0, by omega, rfl, by rw [Mac.half_zero, Mac.half_zero]; exact H6⟩
    case round =>
      obtain ⟨j, hj, rfl, H7⟩ := hrel
      clear H6
      by_cases hlt : j < 64
      · obtain ⟨x, hx⟩ : ∃ x, x = p[j]'(by omega) := ⟨_, rfl⟩
        have s7 := Mac.half_set 92 p j (by omega)
        have s6 := Mac.half_set 54 p j (by omega)
        have c6 : wr.cell? ⟨g6, j, none⟩ = some (.int .u8 (x.toNat : Int)) := by rw [H7.cell 1 rfl j, bv_get, Mac.half_get 54 p j (by omega), hx]; rfl
        rw [← hx] at s6 s7
        have e6 := Mac.xor54 x
        have e7 := Mac.xor92 x
        obtain ⟨y, hy⟩ : ∃ y, y = x ^^^ 54 := ⟨_, rfl⟩
        obtain ⟨z, hz⟩ : ∃ z, z = x ^^^ 92 := ⟨_, rfl⟩
        rw [← hy] at e6 s6
        rw [← hz] at e7 s7
        have f6 := H7.frozen 1 rfl j
        have H8 := H7.f1.set j (.int .u8 (y.toNat : Int))
        rw [bv_set, s6] at H8
        have c7 : (wr.setCell ⟨g6, j, none⟩ (.int .u8 (y.toNat : Int))).cell? ⟨g7, j, none⟩ = some (.int .u8 (x.toNat : Int)) := by rw [H8.cell 1 rfl j, bv_get, Mac.half_get 92 p j (by omega), hx]; rfl
        have f7 := H8.frozen 1 rfl j
        have H9 := H8.f1.set j (.int .u8 (z.toNat : Int))
        rw [bv_set, s7] at H9
        have HLT := Lib.hid hlt
        have hjl : (j : Int) < 64 := by omega
        clear hx hy hz s6 s7 hpl H7 H8 hj hlt
        go_wp2
        exact ⟨⟨j + 1, by have := HLT.out; omega, by go_num, H9⟩, by have := HLT.out; simp [intOf]; omega⟩
      · obtain rfl : j = 64 := by omega
        rw [Mac.half_end _ _ _ (by omega), Mac.half_end _ _ _ (by omega)] at H7
        obtain ⟨I, hI⟩ : ∃ I, I = Mac.xr 54 p := ⟨_, rfl⟩
        obtain ⟨O, hO⟩ : ∃ O, O = Mac.xr 92 p := ⟨_, rfl⟩
        have hIl : I.length = 64 := by rw [hI, Mac.xr_len, hpl]
        have hOl : O.length = 64 := by rw [hO, Mac.xr_len, hpl]
        rw [← hI, ← hO] at H7
        have HI := Lib.hid hI
        have HO := Lib.hid hO
        have HIL := Lib.hid hIl
        have HOL := Lib.hid hOl
        clear hI hO hIl hOl hpl hj hlt
        go_wp2_with fail
        refine (hs_new ht H7).mono ?_
        rintro e w7 ⟨g, rfl, H8⟩
        have hw := hs_write ht H8 (A := some ⟨g6, 0, none⟩) (c := 64) (l := I) (by rintro ⟨⟩) ((H8.rest.blk 1 rfl).RB (by rw [List.drop_zero, List.take_of_length_le (by rw [bv_length]; exact Nat.le_refl _)])) (by rw [HIL.out]; decide)
        rw [HIL.out, List.nil_append] at hw
        have HW := Lib.hid hw
        clear hw H7
        go_wp2_with fail
        refine HW.out.mono ?_
        rintro e w8 ⟨rfl, H9⟩
        have hw := hs_write ht H9 hB ((hb.le hM').now H9.rest.d0.d0.d0) (by rw [HIL.out]; omega)
        have HW2 := Lib.hid hw
        clear hw H8 HW
        go_wp2_with fail
        refine HW2.out.mono ?_
        rintro e w9 ⟨rfl, H10⟩
        obtain ⟨T, hT⟩ : ∃ T, T = I ++ b := ⟨_, rfl⟩
        have hTl : T.length = 64 + b.length := by rw [hT, List.length_append, HIL.out]
        rw [← hT] at H10
        obtain ⟨E, hE⟩ : ∃ E, E = Sha.sha T := ⟨_, rfl⟩
        have hsm := hs_sum ht H10 (by omega)
        rw [← hE] at hsm
        have hel : E.length = 32 := by rw [hE, sha_len]
        have hel2 : (bv E).length = 32 := by rw [bv_length, hel]
        have HSM := Lib.hid hsm
        have HT := Lib.hid hT
        have HE := Lib.hid hE
        have HEL := Lib.hid hel
        clear hsm hT hTl hE hel HW2 H9
        go_wp2_with fail
        refine HSM.out.mono ?_
        rintro e w10 ⟨rfl, H11⟩
        have H12 := H11.rest.new (bv (List.replicate 32 0)) 40
        obtain ⟨w11, hst, H13⟩ := run_store_st (P := Tryd.prog) H12 (cs := bv E) (by rw [hel2, bv_length, List.length_replicate]) (bv_one _)
        rw [← obj32] at hst
        clear H12 H11 H10 HSM
        go_wp2
        generalize w10.heap.size = g10 at *
        clear hst
        refine Pt.wp_plan (fun w' => True) (Pt.prs [0, 1] (.go 2 (.go 3 (.st 4 .fin)))) [4] Tryd.mixed (by kernel_rfl) (fun _ _ d _ _ h => by cases d <;> exact h) trivial ?_
        simp only [Pt.toL, Pt.rds, Pt.prs, Pt.at_, List.drop_succ_cons, List.drop_zero]
        iterate 2 (refine Pt.pr_run (v := ?_) (by rfl) ?_ ?_; rotate_left; (focus (intro w'; go_simp; with_reducible rfl)); simp only [Act.put, List.setIfInBounds_toArray, List.set_cons_zero, List.set_cons_succ])
        refine Pt.run_go ?_
        have H14 := H13.drew
        refine wpList_append_full_st H14 (by rfl) (.tmp 46) (.tmp 47) 42 (by rfl) Tryd.info5 Tryd.underlying42 (some ⟨g7, 0, none⟩) 64 64 O (by rfl) HOL.out.symm (by rintro ⟨⟩) ((H14.blk 1 rfl).RB (by rw [List.drop_zero, List.take_of_length_le (by rw [bv_length]; exact Nat.le_refl _)])) ⟨g10, 0, none⟩ 32 32 E (by rfl) HEL.out.symm ((H14.blk 0 rfl).RB (by rw [List.drop_zero, List.take_of_length_le (by rw [bv_length]; exact Nat.le_refl _)])) (by omega) (by omega) (by omega) ?_
        intro v' w12 H15
        refine wpList_nil ?_
        refine Pt.same trivial ?_
        simp only [Act.put, List.setIfInBounds_toArray, List.set_cons_zero, List.set_cons_succ]
        obtain ⟨A1, c1, rfl, hc1, hA1⟩ := H15.shape' 0 rfl
        obtain ⟨U, hU⟩ : ∃ U, U = O ++ E := ⟨_, rfl⟩
        have hUl : U.length = 96 := by rw [hU, List.length_append, HOL.out, HEL.out]
        rw [← hU, show 64 + 32 = U.length from hUl.symm] at H15
        have h2 := of_any ht H15 hA1 (by rw [hUl]; exact hc1) (Sr.row 0 rfl) (by omega)
        rw [hUl, hU, show Sha.sha (O ++ E) = D from by rw [HD.out, HO.out, HE.out, HT.out, HI.out, HP.out]; rfl] at h2
        have hdl : (bv D).length = 32 := by rw [bv_length, HD.out, Mac.mac_len]
        have HF := Lib.hid h2
        clear h2 hU hUl
        refine Pt.run_go ?_
        go_wp2_with fail
        refine HF.out.mono ?_
        rintro e w13 ⟨rfl, H16⟩
        go_wp2_with fail
        refine Pt.same trivial ?_
        obtain ⟨w14, hst, H17⟩ := run_store_st (P := Tryd.prog) H16.f4 (cs := bv D) (by rw [hdl, HZS.out]) (bv_one _)
        refine Pt.run_st ?_
        go_wp2_with fail
        simp only [Pl.Then, Act.put]
        refine Pt.run_fin ?_
        go_wp2
        refine ret_row H17 (by rfl) (by rfl) Tryd.underlying40 (by rfl) (by rw [hdl]; exact Tryd.size24) rfl ?_
        exact ⟨rfl, ((H17.sub (by repeat (first | exact List.Sublist.refl _ | apply List.Sublist.cons))).weak H hM')⟩
end
end Go.Proofs.YtcdljlaoedaliaaDoor
