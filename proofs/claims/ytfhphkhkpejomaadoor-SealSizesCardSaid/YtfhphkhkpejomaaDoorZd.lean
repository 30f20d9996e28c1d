/- The contract of the reference's turned. -/
import Derived.Test.YtfhphkhkpejomaaDoorZc
import Derived.Test.YtfhphkhkpejomaaDoorMe
import Derived.Deep.DeepCutAuto
set_option linter.unusedVariables false
set_option linter.unusedSimpArgs false
namespace Go.Proofs.YtfhphkhkpejomaaDoor
open Go.RowKit Wd
section
variable {w0 w : World} {M : Mem} {L : List Ent}
set_option maxRecDepth 100000 in
set_option maxHeartbeats 2000000 in
theorem turned_any (H : St w0 w M L) {A : Option Addr} {c : Nat} {k : List UInt8} (hA : A = none → c = 0) (hc : k.length ≤ c) (hk : Sr w0 M L A k) (hn : k.length < 1000000)
    {B : Option Addr} {d : Nat} {non : List UInt8} (hB : B = none → d = 0) (hbd : non.length ≤ d) (hnon : Sr w0 M L B non) (hnn : non.length < 1000000)
    {C : Option Addr} {f : Nat} {b : List UInt8} (hC : C = none → f = 0) (hbf : b.length ≤ f) (hb : Sr w0 M L C b) (hbn : b.length ≤ 10000) :
    Calls Tryd.prog 18 #[.slice A k.length c, .slice B non.length d, .slice C b.length f] w fun e w' => ∃ v, e = .returned v ∧ St w0 w' M (er 5 1 v b.length (bv (Seal.turned k non b)) :: L) := by
  obtain ⟨T, hT⟩ : ∃ T, T = Seal.turned k non b := ⟨_, rfl⟩
  rw [← hT]
  have HT := Lib.hid hT
  clear hT
  go_enter Tryd.func18, Tryd.ntmps18
  go_wp2_with fail
  refine (rderive_any H hA hc hk hn (lb := Seal.streamL) (by decide) 32 (by decide)).mono ?_
  rintro e w1 ⟨A1, c1, M1, rfl, hlc, hA1, hM1, hin1, H1⟩
  obtain ⟨K, hK⟩ : ∃ K, K = Mac.derive k Seal.streamL 32 := ⟨_, rfl⟩
  have hKl : K.length = 32 := by rw [hK, Mac.derive_len]
  rw [← hK] at hin1 hlc ⊢
  rw [hKl] at hlc ⊢
  have HK := Lib.hid hK
  have HIN := Lib.hid (And.intro hKl (And.intro hin1 hA1))
  clear hK hKl hin1 hA1
  have H2 := H1.lit0 5
  go_upto_region 3 with fail
  refine wp_region_lit ?_
  refine wpList_build_none (by rfl) 40 (by rfl) Tryd.builtO ?_
  simp only [Act.put, List.setIfInBounds_toArray, List.set_cons_zero, List.set_cons_succ]
  refine wpList_alloc_st H2 (by rfl) 40 (by rfl) Tryd.zero24 ?_
  intro g9 w3 H3
  rw [show (Value.agg (Array.replicate 32 (.int .u8 0))).cells.toList = bv (List.replicate 32 0) from rfl] at H3
  simp only [Act.put, List.setIfInBounds_toArray, List.set_cons_zero, List.set_cons_succ]
  refine wpList_store_st H3 (by rfl) 40 (.tmp 9) (.tmp 15) (by rfl) 0 (bv (List.replicate 32 0)) (by rfl) (by rfl) (by exact Nat.le_refl 32) (by exact Tryd.size24) (bv_one _) ?_
  intro w4 H4
  rw [ins_all _ _ rfl] at H4
  obtain ⟨Z, hZ⟩ : ∃ Z : List UInt8, Z = List.replicate 32 0 := ⟨_, rfl⟩
  rw [← hZ] at H4 ⊢
  have hZl : Z.length = 32 := by rw [hZ, List.length_replicate]
  refine wpList_nil ?_
  simp only [Act.put]
  obtain ⟨n, hn0⟩ : ∃ n, n = b.length := ⟨_, rfl⟩
  rw [← hn0] at hbn hbf ⊢
  have HN := Lib.hid hn0
  clear hZ hn0 H2 H3
  go_wp2
  go_loopw [8, 10] (fun v i wr => ∃ (p : Nat) (D : List UInt8), p ≤ n ∧ D.length = 32 ∧ (p % 32 ≠ 0 → D = Seal.blk K non (p / 32)) ∧ i = .int .i64 p ∧ St w0 wr M1 (er 5 1 v p (bv ((Seal.turn K non b).take p)) :: eb g9 40 (bv D) :: L)) (fun _ i _ => n - (intOf i).toNat)
  case atStart => exact ⟨0, Z, by omega, hZl, fun h => absurd rfl h, rfl, H4.f1⟩
  case round =>
    obtain ⟨p, D, hp, hDl, hDb, rfl, H5⟩ := hrel
    clear H4
    obtain ⟨A5, c5, rfl, hc5, hA5⟩ := H5.shape' 0 rfl
    have hn0 := HN.out
    by_cases hlt : p < n
    · have hltI : (p : Int) < (n : Int) := by omega
      obtain ⟨m, hm⟩ : ∃ m, m = p / 32 := ⟨_, rfl⟩
      obtain ⟨r, hr⟩ : ∃ r, r = p % 32 := ⟨_, rfl⟩
      rw [← hm] at hDb
      have p1 : (p : Int).tmod 32 = (r : Int) := by rw [Int.tmod_eq_emod_of_nonneg (by omega)]; omega
      have p2 : (p : Int) % 32 = (r : Int) := by omega
      have p3 : (p : Int).tdiv 32 = (m : Int) := by rw [Int.tdiv_eq_ediv_of_nonneg (by omega)]; omega
      have p4 : (p : Int) / 32 = (m : Int) := by omega
      have p5 : (p : Int) < 20000 := by omega
      have r0 : (0 : Int) ≤ (r : Int) := by omega
      have r1 : (r : Int) < 32 := by omega
      have HC := Lib.hid (show p < n ∧ m = p / 32 ∧ r = p % 32 ∧ n = b.length ∧ m ≤ 400 from ⟨hlt, hm, hr, hn0, by omega⟩)
      have HDbI := Lib.hid hDb
      clear hm hr hn0 hDb hlt hp
      go_upto_if 24 with fail
      go_cut [10] (fun v wx => v = .int .i64 p ∧ St w0 wx M1 (er 5 1 (.slice A5 p c5) p (bv ((Seal.turn K non b).take p)) :: eb g9 40 (bv (Seal.blk K non m)) :: L))
      case first =>
        by_cases hr0 : r = 0
        · obtain ⟨x0, x1, x2, x3, hctr, e0, e1, e2, e3⟩ := ctr_facts m (by omega)
          have f0 : (m : Int).tdiv 16777216 = (x0.toNat : Int) := by rw [Int.tdiv_eq_ediv_of_nonneg (by omega)]; exact e0
          have f1 : (m : Int).tdiv 65536 = (x1.toNat : Int) := by rw [Int.tdiv_eq_ediv_of_nonneg (by omega)]; exact e1
          have f2 : (m : Int).tdiv 256 = (x2.toNat : Int) := by rw [Int.tdiv_eq_ediv_of_nonneg (by omega)]; exact e2
          have y0 := x0.toNat_lt
          have y1 := x1.toNat_lt
          have y2 := x2.toNat_lt
          have m0 : (0 : Int) ≤ (m : Int) := by omega
          have m1 : (m : Int) ≤ 400 := by omega
          have hr0I : ((r : Int) == 0) = true := by simp; omega
          have HCT := Lib.hid hctr
          clear hr0 hctr
          have H6 := H5.lit0 5
          have rn := (((hnon.le hM1).cons _).cons _).cons _ |>.now H6
          go_wp2_with (at_builtin; refine wpList_append_st H6 (by rfl) (.tmp 28) (.tmp 29) 22 (by rfl) Tryd.info5 Tryd.underlying22 (by rfl) B non.length d non (by rfl) rfl hB rn (by omega) ?_)
          intro v6 w6 H7
          try simp only [Nat.zero_add, List.nil_append] at H7
          have H8 := H7.lit (bv [x0, x1, x2, x3]) 5 (by show 4 ≤ maxLen; decide)
          clear rn H6
          go_wp2_with (at_builtin; refine wpList_append_st H8.f1 (by rfl) (.tmp 30) (.tmp 42) 22 (by rfl) Tryd.info5 Tryd.underlying22 (by rfl) (some ⟨w6.heap.size, 0, none⟩) 4 4 [x0, x1, x2, x3] (by rfl) rfl (by rintro ⟨⟩) (er_RB (H8.get 0 rfl)) (by omega) ?_)
          intro v8 w8 H9
          rw [← bv_append] at H9
          obtain ⟨A6, c6, rfl, hc6, hA6⟩ := H9.shape' 0 rfl
          have hul : (non ++ [x0, x1, x2, x3]).length = non.length + 4 := by simp
          rw [← hul] at H9
          obtain ⟨hKl, hin1, hA1⟩ := HIN.out
          have hmc := rmac_any H9 (A := A1) (c := c1) (k := K) hA1 (Sr.of_in hin1) (by omega) (by omega) hA6 (Sr.row 0 rfl) (by omega)
          rw [hul, hKl] at hmc
          obtain ⟨E, hE⟩ : ∃ E, E = Mac.mac K (non ++ [x0, x1, x2, x3]) := ⟨_, rfl⟩
          rw [← hE] at hmc
          have hel : (bv E).length = 32 := by rw [bv_length, hE, Mac.mac_len]
          have HE := Lib.hid hE
          have HM := Lib.hid hmc
          clear hE hmc H7 H8 hKl hin1 hA1 hul
          go_wp2_with fail
          refine HM.out.mono ?_
          rintro e w9 ⟨rfl, H10⟩
          obtain ⟨w10, hst, H11⟩ := run_store_st (P := Tryd.prog) H10.d0.d0.f1 (cs := bv E) (by rw [hel, bv_length, hDl]) (bv_one _)
          clear H9 H10 HM
          go_wp2_with fail
          go_meet
          refine ⟨rfl, ?_⟩
          rw [show Seal.blk K non m = E from by rw [HE.out]; unfold Seal.blk; rw [HCT.out]]
          exact H11.f1
        · have hr0I : ((r : Int) == 0) = false := by simp; omega
          have hDb2 : D = Seal.blk K non m := HDbI.out (by have := HC.out.2.2.1; omega)
          rw [hDb2] at H5
          clear hr0 hDb2
          go_wp2_with fail
          go_meet
          exact ⟨rfl, H5⟩
      case rest =>
        obtain ⟨rfl, H6⟩ := hcut
        clear H5 HDbI hDl D
        obtain ⟨hlt, hm, hr, hn0, _⟩ := HC.out
        obtain ⟨D, hD⟩ : ∃ D, D = Seal.blk K non m := ⟨_, rfl⟩
        have hDl : D.length = 32 := by rw [hD, Seal.blk_len]
        rw [← hD] at H6
        obtain ⟨bc, oc, rfl, hcb⟩ := ((((hb.le hM1).cons _).cons _).now H6.drew).at p (by omega)
        have htb := Seal.tb_at K non b D m r hD (by omega) (by omega)
        have hN32 : 32 * m + r = p := by omega
        simp only [hN32] at htb
        have htk := Seal.turn_take K non b p (by omega)
        obtain ⟨x, hx⟩ : ∃ x, x = b[p]'(by omega) := ⟨_, rfl⟩
        obtain ⟨y, hy⟩ : ∃ y, y = D[r]'(by omega) := ⟨_, rfl⟩
        have hbp : b[p]? = some x := by rw [hx]; exact List.getElem?_eq_getElem (by omega)
        have hDr : D[r]? = some y := by rw [hy]; exact List.getElem?_eq_getElem (by omega)
        rw [← hx, ← hy] at htb
        obtain ⟨z, hz⟩ : ∃ z, z = x ^^^ y := ⟨_, rfl⟩
        have exy := B8.xor_ x y
        rw [← hz] at exy htb
        rw [htb] at htk
        have hsb := (hb.le hM1)
        have hcd : ∀ W E, St w0 W M1 (E :: eb g9 40 (bv D) :: L) → W.cell? ⟨bc, oc + p, none⟩ = some (.int .u8 (x.toNat : Int)) ∧ W.cell? ⟨g9, r, none⟩ = some (.int .u8 (y.toNat : Int)) := fun W E hW => by
          refine ⟨?_, by rw [hW.cell 1 rfl r, bv_get, hDr]; rfl⟩
          have h1 := ((hsb.cons _).cons _).now hW
          obtain ⟨b', o', he, hc'⟩ := h1.at p (by omega)
          injection he with he
          injection he with e1 e2
          subst e1 e2
          rw [hc', hx]
        have HCD := Lib.hid hcd
        have HTK := Lib.hid htk
        have hDlt : (p : Int) < (f : Int) := by omega
        have HDB := Lib.hid (And.intro hD hDl)
        have hS0 := H6.drew
        clear hcb htb hN32 htk hx hy hbp hDr hz hcd hD hDl hm hr hlt hn0 hsb
        go_wp2
        refine Pt.wp_plan (fun w' => w'.cell? ⟨bc, oc + p, none⟩ = some (.int .u8 (x.toNat : Int)) ∧ w'.cell? ⟨g9, r, none⟩ = some (.int .u8 (y.toNat : Int))) (Pt.prs [0, 1, 2, 3, 5, 6, 7] (Pt.rds [4, 8] (Pt.prs [9] (.go 10 (.go 11 (Pt.prs [12] .fin)))))) [] Tryd.mixed (by kernel_rfl) (fun _ _ d _ _ h => by cases d <;> exact h) (HCD.out _ _ hS0) ?_
        generalize wc.drew = wd at *
        simp only [Pt.toL, Pt.rds, Pt.prs, Pt.at_, List.drop_succ_cons, List.drop_zero]
        iterate 7 (refine Pt.pr_run (v := ?_) (by rfl) ?_ ?_; rotate_left; (focus (intro w'; go_simp; with_reducible rfl)); simp only [Act.put, List.setIfInBounds_toArray, List.set_cons_zero, List.set_cons_succ])
        iterate 2 (refine Pt.rd_run (v := ?_) (by rfl) ?_ ?_; rotate_left; (focus (intro w' hS; obtain ⟨s0, s1⟩ := hS; go_simp; with_reducible rfl)); simp only [Act.put, List.setIfInBounds_toArray, List.set_cons_zero, List.set_cons_succ])
        (refine Pt.pr_run (v := ?_) (by rfl) ?_ ?_; rotate_left; (focus (intro w'; go_simp; with_reducible rfl)); simp only [Act.put, List.setIfInBounds_toArray, List.set_cons_zero, List.set_cons_succ])
        have H7 := hS0.lit (bv [z]) 5 (by show 1 ≤ maxLen; decide)
        refine Pt.run_go ?_
        go_wp2_with fail
        refine Pt.same (HCD.out _ _ H7.d0) ?_
        refine Pt.run_go ?_
        refine wpList_append_st H7.f1 (by rfl) (.tmp 45) (.tmp 55) 22 (by rfl) Tryd.info5 Tryd.underlying22 (by rfl) (some ⟨wd.heap.size, 0, none⟩) 1 1 [z] (by rfl) rfl (by rintro ⟨⟩) (er_RB (H7.get 0 rfl)) (by omega) ?_
        intro v8 w8 H8
        have H8 := H8.d1
        rw [← bv_append, ← HTK.out] at H8
        refine wpList_nil ?_
        refine Pt.same (HCD.out _ _ H8) ?_
        simp only [Act.put, List.setIfInBounds_toArray, List.set_cons_zero, List.set_cons_succ]
        (refine Pt.pr_run (v := ?_) (by rfl) ?_ ?_; rotate_left; (focus (intro w'; go_simp; with_reducible rfl)); simp only [Act.put, List.setIfInBounds_toArray, List.set_cons_zero, List.set_cons_succ])
        refine Pt.run_fin ?_
        clear H7 hS0 H6
        go_wp2
        obtain ⟨k1, k2, k3, k4, k5⟩ := HC.out
        obtain ⟨d1, d2⟩ := HDB.out
        exact ⟨⟨p + 1, D, by omega, d2, fun h => by rw [d1, k2]; congr 1; omega, by go_num, H8⟩, by simp [intOf]; omega⟩
    · obtain rfl : p = n := by omega
      have hge : ¬ (p : Int) < (p : Int) := by omega
      rw [List.take_of_length_le (by rw [Seal.turn_len]; omega), show Seal.turn K non b = T from by rw [HT.out, HK.out]; rfl] at H5
      clear hp hlt hge hDb
      go_wp2
      go_ret
      rw [hn0] at H5
      exact ⟨_, by rw [← hn0]; rfl, H5.d1.weak H hM1⟩
end
end Go.Proofs.YtfhphkhkpejomaaDoor
