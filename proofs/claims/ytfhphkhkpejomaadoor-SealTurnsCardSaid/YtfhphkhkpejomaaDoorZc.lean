/- The contract of seal's stream. -/
import Derived.Test.YtfhphkhkpejomaaDoorZa
import Derived.Test.YtfhphkhkpejomaaDoorZb
import Derived.Test.YtfhphkhkpejomaaDoorB8
import Derived.Test.YtfhphkhkpejomaaDoorPt
set_option linter.unusedVariables false
set_option linter.unusedSimpArgs false
namespace Go.Proofs.YtfhphkhkpejomaaDoor
open Go.RowKit Wd
/-- The counter's bytes, as the walk reckons them. -/
theorem ctr_facts (m : Nat) (hm : m ≤ 10000) : ∃ x0 x1 x2 x3 : UInt8, Seal.ctr m = [x0, x1, x2, x3] ∧ (m : Int) / 16777216 = (x0.toNat : Int) ∧ (m : Int) / 65536 = (x1.toNat : Int) ∧ (m : Int) / 256 = (x2.toNat : Int) ∧ (m : Int) % 256 = (x3.toNat : Int) := by
  refine ⟨_, _, _, _, rfl, ?_, ?_, ?_, ?_⟩ <;> rw [UInt8.toNat_ofNat'] <;> omega
section
variable {w0 w : World} {M : Mem} {L : List Ent}
set_option maxRecDepth 100000 in
set_option maxHeartbeats 2000000 in
theorem stream_any (ht : Tabs w0) (H : St w0 w M L) {A : Option Addr} {c : Nat} {k : List UInt8} (hA : A = none → c = 0) (hc : k.length ≤ c) (hk : Sr w0 M L A k) (hn : k.length < 1000000)
    {B : Option Addr} {d : Nat} {non : List UInt8} (hB : B = none → d = 0) (hbd : non.length ≤ d) (hnon : Sr w0 M L B non) (hnn : non.length < 1000000)
    {C : Option Addr} {f : Nat} {b : List UInt8} (hC : C = none → f = 0) (hbf : b.length ≤ f) (hb : Sr w0 M L C b) (hbn : b.length ≤ 10000) :
    Calls Tryd.prog 17 #[.slice A k.length c, .slice B non.length d, .slice C b.length f] w fun e w' => ∃ v, e = .returned v ∧ St w0 w' M (er 5 1 v b.length (bv (Seal.turned k non b)) :: L) := by
  obtain ⟨T, hT⟩ : ∃ T, T = Seal.turned k non b := ⟨_, rfl⟩
  rw [← hT]
  have HT := Lib.hid hT
  clear hT
  go_enter Tryd.func17, Tryd.ntmps17
  go_wp2_with fail
  refine (derive_any ht H hA hc hk (by omega) (lb := Seal.streamL) (by decide) 32).mono ?_
  rintro e w1 hres
  rcases hres with ⟨hbad, _, _⟩ | ⟨_, _, A1, M1, rfl, hA1, hM1, hin1, H1⟩
  · omega
  · rw [show (32 : Int).toNat = 32 from rfl] at hin1 ⊢
    obtain ⟨K, hK⟩ : ∃ K, K = Mac.derive k Seal.streamL 32 := ⟨_, rfl⟩
    have hKl : K.length = 32 := by rw [hK, Mac.derive_len]
    rw [← hK] at hin1
    have hA1' : A1 ≠ none := fun h => by have := hA1 h; omega
    have HK := Lib.hid hK
    have HIN := Lib.hid (And.intro hKl (And.intro hin1 hA1'))
    clear hK hKl hin1 hA1 hA1'
    go_wp2_with fail
    refine (clone_any H1 hC hbf (hb.le hM1) (by omega)).mono ?_
    rintro e w2 ⟨v0, rfl, H2⟩
    obtain ⟨A2, c2, rfl, hc2, hA2⟩ := H2.shape' 0 rfl
    obtain ⟨n, hn0⟩ : ∃ n, n = b.length := ⟨_, rfl⟩
    rw [← hn0] at H2 hbn hc2 ⊢
    have HN := Lib.hid hn0
    clear hn0
    go_wp2
    go_loopw [10] (fun i wr => ∃ (m P : Nat), P = 32 * m ∧ P < n + 32 ∧ i = .int .i64 P ∧ St w0 wr M1 (er 5 1 (.slice A2 n c2) n (bv (Seal.upTo K non b P)) :: L)) (fun i _ => n - (intOf i).toNat)
    case atStart => exact ⟨0, 0, rfl, by omega, rfl, by rw [Seal.upTo_zero]; exact H2⟩
    case round =>
      obtain ⟨m, P, hP, hPn, rfl, H3⟩ := hrel
      clear H2
      have hn0 := HN.out
      by_cases hlt : P < n
      · have hltI : (P : Int) < (n : Int) := by omega
        have d1 : (P : Int).tdiv 32 = (m : Int) := by rw [Int.tdiv_eq_ediv_of_nonneg (by omega)]; omega
        have d2 : (P : Int) / 32 = (m : Int) := by omega
        obtain ⟨x0, x1, x2, x3, hctr, e0, e1, e2, e3⟩ := ctr_facts m (by omega)
        have y0 := x0.toNat_lt
        have y1 := x1.toNat_lt
        have y2 := x2.toNat_lt
        have m0 : (0 : Int) ≤ (m : Int) := by omega
        have m1 : (m : Int) ≤ 400 := by omega
        have HC := Lib.hid (show P = 32 * m ∧ P < n ∧ Seal.ctr m = [x0, x1, x2, x3] ∧ n = b.length from ⟨hP, hlt, hctr, hn0⟩)
        clear hP hPn hlt hctr hn0
        go_wp2_with fail
        refine (clone_any H3 hB hbd ((hnon.le hM1).cons _) (by omega)).mono ?_
        rintro e w4 ⟨v1, rfl, H4⟩
        have H5 := H4.lit (bv [x0, x1, x2, x3]) 5 (by show 4 ≤ maxLen; decide)
        go_wp2_with (at_builtin; refine wpList_append_st H5.f1 (by rfl) (.tmp 31) (.tmp 43) 22 (by rfl) Tryd.info5 Tryd.underlying22 (by rfl) (some ⟨w4.heap.size, 0, none⟩) 4 4 [x0, x1, x2, x3] (by rfl) rfl (by rintro ⟨⟩) (er_RB (H5.get 0 rfl)) (by omega) ?_)
        intro v5 w5 H6
        rw [← bv_append] at H6
        obtain ⟨A6, c6, rfl, hc6, hA6⟩ := H6.shape' 0 rfl
        have hul : (non ++ [x0, x1, x2, x3]).length = non.length + 4 := by simp
        rw [← hul] at H6
        obtain ⟨hKl, hin1, hA1'⟩ := HIN.out
        have hm := mac_any ht H6 (A := A1) (c := 32) (k := K) (fun h => absurd h hA1') (by omega) (Sr.of_in hin1) (by omega) hA6 (Sr.row 0 rfl) (by omega)
        rw [hul, hKl] at hm
        obtain ⟨D, hD⟩ : ∃ D, D = Mac.mac K (non ++ [x0, x1, x2, x3]) := ⟨_, rfl⟩
        rw [← hD] at hm
        have hdl : (bv D).length = 32 := by rw [bv_length, hD, Mac.mac_len]
        have HD := Lib.hid hD
        have HM := Lib.hid hm
        clear hD hm H4 H5 hKl hin1 hA1' hul
        go_wp2_with fail
        refine HM.out.mono ?_
        rintro e w6 ⟨rfl, H7⟩
        have H8 := (H7.d0.d0).new (bv (List.replicate 32 0)) 40
        obtain ⟨w7, hst, H9⟩ := run_store_st (P := Tryd.prog) H8 (cs := bv D) (by rw [hdl, bv_length, List.length_replicate]) (bv_one _)
        rw [← obj32] at hst
        clear H6 H7 H8 HM H3
        have hDb : D = Seal.blk K non m := by rw [HD.out]; unfold Seal.blk; rw [HC.out.2.2.1]
        have HDB := Lib.hid hDb
        obtain ⟨Q, hQ⟩ : ∃ Q, Q = n - P := ⟨_, rfl⟩
        have hQ1 : (n : Int) - (P : Int) = (Q : Int) := by omega
        have HQ := Lib.hid hQ
        have hx : (32 ≤ Q) ∨ Q < 32 := by omega
        clear hQ hDb
        rcases hx with hx | hx
        · have hx2 : (32 : Int) ≤ (Q : Int) := by omega
          have HR := Lib.hid (show 32 ≤ Q from hx)
          clear hx
          go_wp2
          clear hst
          generalize w6.heap.size = g12 at *
          go_loopw [51] (fun i wr => ∃ (j : Nat), j ≤ 32 ∧ i = .int .i64 j ∧ St w0 wr M1 (eb g12 40 (bv D) :: er 5 1 (.slice A2 n c2) n (bv (Seal.upTo K non b (P + j))) :: L)) (fun i _ => 32 - (intOf i).toNat)
          case atStart => exact ⟨0, by omega, rfl, by rw [Nat.add_zero]; exact H9⟩
          case round =>
            obtain ⟨j, hj, rfl, H10⟩ := hrel
            clear H9
            obtain ⟨k1, k2, k3, k4⟩ := HC.out
            have kq := HQ.out
            have kr := HR.out
            by_cases hjl : j < 32
            · obtain ⟨N, hN⟩ : ∃ N, N = P + j := ⟨_, rfl⟩
              rw [← hN] at H10
              have hNn : N < b.length := by omega
              have htb := Seal.tb_at K non b D m j HDB.out (by omega) (by omega)
              obtain ⟨x, hxx⟩ : ∃ x, x = b[N]'hNn := ⟨_, rfl⟩
              have hjD : j < D.length := by rw [HDB.out, Seal.blk_len]; omega
              obtain ⟨y, hyy⟩ : ∃ y, y = D[j]'hjD := ⟨_, rfl⟩
              have hN32 : 32 * m + j = N := by omega
              simp only [hN32] at htb
              rw [← hxx, ← hyy] at htb
              have hse := Seal.upTo_set K non b N hNn
              have hge2 := Seal.upTo_get K non b N hNn
              rw [← hxx] at hge2
              obtain ⟨z, hzz⟩ : ∃ z, z = x ^^^ y := ⟨_, rfl⟩
              have exy := B8.xor_ x y
              rw [← hzz] at exy htb
              rw [htb] at hse
              obtain ⟨g2, rfl, hcell, hfr⟩ := H10.drew.f1.at_ N (by omega)
              rw [bv_get, hge2, Option.map_some] at hcell
              have hcd : ∀ W, St w0 W M1 (eb g12 40 (bv D) :: er 5 1 (.slice (some ⟨g2, 0, none⟩) n c2) n (bv (Seal.upTo K non b N)) :: L) → W.cell? ⟨g2, N, none⟩ = some (.int .u8 (x.toNat : Int)) ∧ W.cell? ⟨g12, j, none⟩ = some (.int .u8 (y.toNat : Int)) := fun W hW => by
                obtain ⟨g', he, hc', _⟩ := hW.f1.at_ N (by omega)
                injection he with he
                injection he with he
                subst he
                refine ⟨by rw [hc', bv_get, hge2]; rfl, ?_⟩
                rw [hW.cell 0 rfl j, bv_get, List.getElem?_eq_getElem hjD, hyy]
                rfl
              have e5 : (P : Int) + (j : Int) = (N : Int) := by omega
              have n0 : (0 : Int) ≤ (N : Int) := by omega
              have e6 : IntKind.i64.wrap (N : Int) = (N : Int) := by rw [IntKind.wrap_i64]; omega
              have n1 : (N : Int) < (n : Int) := by omega
              have n2 : (N : Int) < 20000 := by omega
              have j1 : (j : Int) < 32 := by omega
              have jR : (j : Int) < 32 := by omega
              have H11 := H10.drew.f1.store N (.int .u8 (z.toNat : Int))
              rw [bv_set, hse] at H11
              have HJ := Lib.hid (show N = P + j ∧ j < 32 from ⟨hN, hjl⟩)
              have HCD := Lib.hid hcd
              have hS0 := H10.drew
              clear k1 k2 k3 k4 kq kr hN hNn htb hxx hyy hzz hse hge2 hcd hjl hj hN32 hjD
              go_wp2
              refine Pt.wp_plan (fun w' => St w0 w' M1 (eb g12 40 (bv D) :: er 5 1 (.slice (some ⟨g2, 0, none⟩) n c2) n (bv (Seal.upTo K non b N)) :: L)) (Pt.prs [0, 1, 2, 3, 4, 6, 7] (Pt.rds [5, 8] (Pt.prs [9, 10] (.st 11 .fin)))) [11] Tryd.mixed (by kernel_rfl) (fun _ _ d _ _ h => by cases d <;> exact h) hS0 ?_
              simp only [Pt.toL, Pt.rds, Pt.prs, Pt.at_, List.drop_succ_cons, List.drop_zero]
              iterate 7 (refine Pt.pr_run (v := ?_) (by rfl) ?_ ?_; rotate_left; (focus (intro w'; go_simp; with_reducible rfl)); simp only [Act.put, List.setIfInBounds_toArray, List.set_cons_zero, List.set_cons_succ])
              iterate 2 (refine Pt.rd_run (v := ?_) (by rfl) ?_ ?_; rotate_left; (focus (intro w' hS; obtain ⟨s0, s1⟩ := HCD.out w' hS; go_simp; with_reducible rfl)); simp only [Act.put, List.setIfInBounds_toArray, List.set_cons_zero, List.set_cons_succ])
              iterate 2 (refine Pt.pr_run (v := ?_) (by rfl) ?_ ?_; rotate_left; (focus (intro w'; go_simp; with_reducible rfl)); simp only [Act.put, List.setIfInBounds_toArray, List.set_cons_zero, List.set_cons_succ])
              refine Pt.run_st ?_
              obtain ⟨s0, s1⟩ := HCD.out _ hS0
              go_wp2_with fail
              simp only [Pl.Then, Act.put]
              refine Pt.run_fin ?_
              clear s0 s1 hS0 H10
              go_wp2
              obtain ⟨q1, q2⟩ := HJ.out
              exact ⟨⟨j + 1, by omega, by go_num, by rw [← Nat.add_assoc, ← q1]; exact H11.f1⟩, by simp [intOf]; omega⟩
            · have hend : Seal.upTo K non b (P + j) = Seal.upTo K non b (P + 32) := by rw [show j = 32 from by omega]
              rw [hend] at H10
              have HP := Lib.hid (show P + 32 = 32 * (m + 1) ∧ P + 32 < n + 32 from ⟨by omega, by omega⟩)
              have hjR : ¬ (j : Int) < 32 := by omega
              have hP2 : (P : Int) < 20000 := by omega
              clear k1 k2 k3 k4 kq kr hjl hj hend
              go_wp2
              obtain ⟨q1, q2⟩ := HP.out
              exact ⟨⟨m + 1, P + 32, q1, q2, by go_num, H10.d0⟩, by simp [intOf]; omega⟩
        · have hx2 : (Q : Int) < 32 := by omega
          have HR := Lib.hid (show Q < 32 from hx)
          clear hx
          go_wp2
          clear hst
          generalize w6.heap.size = g12 at *
          go_loopw [51] (fun i wr => ∃ (j : Nat), j ≤ Q ∧ i = .int .i64 j ∧ St w0 wr M1 (eb g12 40 (bv D) :: er 5 1 (.slice A2 n c2) n (bv (Seal.upTo K non b (P + j))) :: L)) (fun i _ => Q - (intOf i).toNat)
          case atStart => exact ⟨0, by omega, rfl, by rw [Nat.add_zero]; exact H9⟩
          case round =>
            obtain ⟨j, hj, rfl, H10⟩ := hrel
            clear H9
            obtain ⟨k1, k2, k3, k4⟩ := HC.out
            have kq := HQ.out
            have kr := HR.out
            by_cases hjl : j < Q
            · obtain ⟨N, hN⟩ : ∃ N, N = P + j := ⟨_, rfl⟩
              rw [← hN] at H10
              have hNn : N < b.length := by omega
              have htb := Seal.tb_at K non b D m j HDB.out (by omega) (by omega)
              obtain ⟨x, hxx⟩ : ∃ x, x = b[N]'hNn := ⟨_, rfl⟩
              have hjD : j < D.length := by rw [HDB.out, Seal.blk_len]; omega
              obtain ⟨y, hyy⟩ : ∃ y, y = D[j]'hjD := ⟨_, rfl⟩
              have hN32 : 32 * m + j = N := by omega
              simp only [hN32] at htb
              rw [← hxx, ← hyy] at htb
              have hse := Seal.upTo_set K non b N hNn
              have hge2 := Seal.upTo_get K non b N hNn
              rw [← hxx] at hge2
              obtain ⟨z, hzz⟩ : ∃ z, z = x ^^^ y := ⟨_, rfl⟩
              have exy := B8.xor_ x y
              rw [← hzz] at exy htb
              rw [htb] at hse
              obtain ⟨g2, rfl, hcell, hfr⟩ := H10.drew.f1.at_ N (by omega)
              rw [bv_get, hge2, Option.map_some] at hcell
              have hcd : ∀ W, St w0 W M1 (eb g12 40 (bv D) :: er 5 1 (.slice (some ⟨g2, 0, none⟩) n c2) n (bv (Seal.upTo K non b N)) :: L) → W.cell? ⟨g2, N, none⟩ = some (.int .u8 (x.toNat : Int)) ∧ W.cell? ⟨g12, j, none⟩ = some (.int .u8 (y.toNat : Int)) := fun W hW => by
                obtain ⟨g', he, hc', _⟩ := hW.f1.at_ N (by omega)
                injection he with he
                injection he with he
                subst he
                refine ⟨by rw [hc', bv_get, hge2]; rfl, ?_⟩
                rw [hW.cell 0 rfl j, bv_get, List.getElem?_eq_getElem hjD, hyy]
                rfl
              have e5 : (P : Int) + (j : Int) = (N : Int) := by omega
              have n0 : (0 : Int) ≤ (N : Int) := by omega
              have e6 : IntKind.i64.wrap (N : Int) = (N : Int) := by rw [IntKind.wrap_i64]; omega
              have n1 : (N : Int) < (n : Int) := by omega
              have n2 : (N : Int) < 20000 := by omega
              have j1 : (j : Int) < 32 := by omega
              have jR : (j : Int) < (Q : Int) := by omega
              have H11 := H10.drew.f1.store N (.int .u8 (z.toNat : Int))
              rw [bv_set, hse] at H11
              have HJ := Lib.hid (show N = P + j ∧ j < Q from ⟨hN, hjl⟩)
              have HCD := Lib.hid hcd
              have hS0 := H10.drew
              clear k1 k2 k3 k4 kq kr hN hNn htb hxx hyy hzz hse hge2 hcd hjl hj hN32 hjD
              go_wp2
              refine Pt.wp_plan (fun w' => St w0 w' M1 (eb g12 40 (bv D) :: er 5 1 (.slice (some ⟨g2, 0, none⟩) n c2) n (bv (Seal.upTo K non b N)) :: L)) (Pt.prs [0, 1, 2, 3, 4, 6, 7] (Pt.rds [5, 8] (Pt.prs [9, 10] (.st 11 .fin)))) [11] Tryd.mixed (by kernel_rfl) (fun _ _ d _ _ h => by cases d <;> exact h) hS0 ?_
              simp only [Pt.toL, Pt.rds, Pt.prs, Pt.at_, List.drop_succ_cons, List.drop_zero]
              iterate 7 (refine Pt.pr_run (v := ?_) (by rfl) ?_ ?_; rotate_left; (focus (intro w'; go_simp; with_reducible rfl)); simp only [Act.put, List.setIfInBounds_toArray, List.set_cons_zero, List.set_cons_succ])
              iterate 2 (refine Pt.rd_run (v := ?_) (by rfl) ?_ ?_; rotate_left; (focus (intro w' hS; obtain ⟨s0, s1⟩ := HCD.out w' hS; go_simp; with_reducible rfl)); simp only [Act.put, List.setIfInBounds_toArray, List.set_cons_zero, List.set_cons_succ])
              iterate 2 (refine Pt.pr_run (v := ?_) (by rfl) ?_ ?_; rotate_left; (focus (intro w'; go_simp; with_reducible rfl)); simp only [Act.put, List.setIfInBounds_toArray, List.set_cons_zero, List.set_cons_succ])
              refine Pt.run_st ?_
              obtain ⟨s0, s1⟩ := HCD.out _ hS0
              go_wp2_with fail
              simp only [Pl.Then, Act.put]
              refine Pt.run_fin ?_
              clear s0 s1 hS0 H10
              go_wp2
              obtain ⟨q1, q2⟩ := HJ.out
              exact ⟨⟨j + 1, by omega, by go_num, by rw [← Nat.add_assoc, ← q1]; exact H11.f1⟩, by simp [intOf]; omega⟩
            · have hend : Seal.upTo K non b (P + j) = Seal.upTo K non b (P + 32) := by rw [Seal.upTo_end K non b _ (by omega), Seal.upTo_end K non b _ (by omega)]
              rw [hend] at H10
              have HP := Lib.hid (show P + 32 = 32 * (m + 1) ∧ P + 32 < n + 32 from ⟨by omega, by omega⟩)
              have hjR : ¬ (j : Int) < (Q : Int) := by omega
              have hP2 : (P : Int) < 20000 := by omega
              clear k1 k2 k3 k4 kq kr hjl hj hend
              go_wp2
              obtain ⟨q1, q2⟩ := HP.out
              exact ⟨⟨m + 1, P + 32, q1, q2, by go_num, H10.d0⟩, by simp [intOf]; omega⟩
      · have hge : ¬ (P : Int) < (n : Int) := by omega
        rw [Seal.upTo_end K non b P (by omega)] at H3
        have e1 : Seal.turn K non b = T := by rw [HT.out, HK.out]; rfl
        rw [e1] at H3
        clear hP hPn hlt hn0 e1
        go_wp2
        go_ret
        rw [HN.out] at H3
        exact ⟨_, by rw [← HN.out]; rfl, H3.weak H hM1⟩
end
end Go.Proofs.YtfhphkhkpejomaaDoor
