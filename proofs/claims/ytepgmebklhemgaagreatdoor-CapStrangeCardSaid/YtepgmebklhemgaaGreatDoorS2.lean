/- The contract of the log's Restart. -/
import Derived.Test.YtepgmebklhemgaaGreatDoorA7
import Derived.Test.YtepgmebklhemgaaGreatDoorQ1
import Derived.Test.YtepgmebklhemgaaGreatDoorA8
import Derived.Deep.DeepCutAuto
set_option linter.unusedVariables false
set_option linter.unusedSimpArgs false
namespace Go.Proofs.YtepgmebklhemgaaGreatDoor
open Go.RowKit Wd
/-- What Restart does with records each of which may be. -/
def RetRe (w0 : World) (M : Mem) (g f : Nat) (F : FM) (gen : Nat) (ls : List (List UInt8)) (en : Nat) (own : List (List UInt8)) (L : List Ent) (e : Ending) (w' : World) : Prop :=
  ∃ M', M.le M' ∧
    ((64 * Lg.halfN F.n < Lg.total own ∨ gen = 18446744073709551615) ∧ e = .returned (.int .i64 2) ∧ LS w0 w' M' g f F gen ls en L ∨
     Lg.total own ≤ 64 * Lg.halfN F.n ∧ gen < 18446744073709551615 ∧ e = .returned (.int .i64 0) ∧ LS w0 w' M' g f (Lg.reF F gen own) (gen + 1) own (Lg.total own) L)
section
variable {w0 w : World} {M : Mem} {L : List Ent} {f g gen en : Nat} {F : FM} {ls : List (List UInt8)}
theorem LS.restL (H : LS w0 w M g f F gen ls en L) : St w0 w M L := by
  obtain ⟨v, ps, _, H⟩ := H
  exact H.rest.d0.d0
theorem LS.drop {e : Ent} (H : LS w0 w M g f F gen ls en (e :: L)) : LS w0 w M g f F gen ls en L := by
  obtain ⟨Hd, h, hb⟩ := H.head
  exact hb _ _ _ (Mem.le.refl _) (h.sub (List.Sublist.append (List.Sublist.refl _) (List.sublist_cons_self _ _)))
set_option maxRecDepth 100000 in
set_option maxHeartbeats 4000000 in
theorem restart_any (H : LS w0 w M g f F gen ls en L) (h6 : 6 ≤ F.n) (hF2 : F.n ≤ 4096) (hg : gen < 18446744073709551616) (hp : F.pend.length < 900000000) {A : Option Addr} {n c : Nat} {ps : List Pc} (hn : n = ps.length) (hA : SrA w0 M L A (ps.map Pc.v)) (hps : ∀ p ∈ ps, p.ok ∧ In M (RB · p.A p.l) ∧ 1 ≤ p.n ∧ p.n ≤ 65535) (hn2 : n ≤ 1000000) :
    Calls Tryz.prog 71 #[.pointer (some ⟨g, 0, none⟩), .slice A n c] w (RetRe w0 M g f F gen ls en (ps.map Pc.l) L) := by
  have h2n : 2 ≤ F.n := by omega
  obtain ⟨N, hN⟩ : ∃ N, N = 64 * Lg.halfN F.n := ⟨_, rfl⟩
  have hN2 : N ≤ 131072 := by rw [hN]; unfold Lg.halfN; omega
  have hN3 : 1 ≤ N := by rw [hN]; unfold Lg.halfN; omega
  have HN3 := Lib.hid hN3
  clear hN3 h6
  have HI := Lib.hid (is_any H)
  have HN := Lib.hid (And.intro hN hN2)
  have HP := Lib.hid (And.intro hn (And.intro hA (And.intro hps hp)))
  have hsz := lsize_any H h2n hF2 hg
  rw [← hN] at hsz
  obtain ⟨gn, hgn⟩ : ∃ gn, gn = (gen + 1) % 18446744073709551616 := ⟨_, rfl⟩
  have hgn2 : gn < 18446744073709551616 := by rw [hgn]; exact Nat.mod_lt _ (by decide)
  have hgw : IntKind.u64.wrap ((gen : Int) + 1) = (gn : Int) := by rw [IntKind.wrap_u64]; omega
  have HGN := Lib.hid (And.intro hgn hgn2)
  clear hgn hgn2
  have HSZ := Lib.hid hsz
  clear hN hn hA hps hp hsz hN2
  go_enter Tryz.func71, Tryz.ntmps71
  go_wp2_with fail
  refine HI.out.mono ?_
  rintro e w1 ⟨rfl, rfl⟩
  clear HI
  go_wp2_with fail
  go_loopw [18] (fun i wr => ∃ k : Nat, k ≤ n ∧ i = .int .i64 k ∧ wr = w) (fun i _ => n - (intOf i).toNat)
  case atStart => exact ⟨0, by omega, rfl, rfl⟩
  case round =>
    obtain ⟨k, hk, rfl, rfl⟩ := hrel
    by_cases hlt : k < n
    · have hk1 : k < ps.length := by have := HP.out.1; omega
      have q1 : (k : Int) < (n : Int) := by omega
      obtain ⟨b, o, rfl, hc⟩ := SrA.at (HP.out.2.1.now H.restL) k (by rw [List.length_map]; exact hk1)
      rw [List.getElem_map] at hc
      obtain ⟨-, -, hp1, hp2⟩ := HP.out.2.2.1 _ (List.getElem_mem hk1)
      obtain ⟨p, hpe⟩ : ∃ p, p = ps[k] := ⟨_, rfl⟩
      rw [← hpe] at hc hp1 hp2
      obtain ⟨PA, PN, PC, PL⟩ := p
      unfold Pc.v at hc
      simp only at hc hp1 hp2
      have hck := fun w => lcheck_any PA PN PC w (by omega)
      rw [if_neg (by omega : ¬ PN = 0), if_neg (by omega : ¬ 65535 < PN)] at hck
      have HCK := Lib.hid hck
      clear hck hpe hp1 hp2
      go_wp2_with fail
      refine (HCK.out _).mono ?_
      rintro e w' ⟨rfl, rfl⟩
      clear HCK hc
      go_wp2
      exact ⟨⟨k + 1, by omega, by go_num, trivial⟩, by simp [intOf]; omega⟩
    · have hkn : n = k := by omega
      subst hkn
      clear hlt hk
      go_wp2_with fail
      refine HSZ.out.mono ?_
      rintro e w1 ⟨rfl, H1⟩
      clear HSZ
      obtain ⟨i0, hi, hz0, hz1, hz2⟩ := info_parts Tryz.info5
      go_wp2_with (refine wpList_make_own w1 (by rfl) (.const (.int .i64 0)) (.tmp 29) 30 (by rfl) w1.heap.size 5 i0 (.int .u8 0) 1 Tryz.underlying30 hi hz0 hz1 .i64 .i64 _ N (by rfl) (by rfl) rfl (by rw [hz2]; have := HN.out.2; omega) (by have := HN.out.2; unfold maxLen; omega) (Nat.le_refl _) ?_)
      intro x4 ho hgr
      obtain ⟨Z, HZ, -, hb1, -⟩ := H1.out
      have H2 := HZ.addRow ⟨hgr.os, hgr.tape, hgr.output, hgr.size, fun i hi => hgr.block i hi (by simp)⟩ ho
      have H3 := hb1 _ _ _ (Mem.le.refl M) H2
      obtain ⟨Z2, HZ2, -, hb2, -⟩ := H3.out
      have H4 := hb2 _ _ _ (Mem.le.refl M) (HZ2.addNil 30 1)
      generalize w1.heap.size = gz at *
      clear ho hgr HZ hb1 H2 H3 HZ2 hb2 hi hz0 hz1 hz2 H1
      go_wp2_with fail
      go_loopw [8, 9, 33] (fun i8 i9 i wr => ∃ (k : Nat) (own : List Pc) (M' : Mem), k ≤ n ∧ i = .int .i64 k ∧ M.le M' ∧ Rows M' own ((ps.take k).map Pc.l) ∧ Lg.total ((ps.take k).map Pc.l) ≤ N ∧ LS w0 wr M' g f F gen ls en (er 30 1 i9 k (own.map Pc.v) :: er 5 1 i8 (Lg.total ((ps.take k).map Pc.l)) (bv (Lg.recs gn 0 ((ps.take k).map Pc.l))) :: L)) (fun _ _ i _ => n - (intOf i).toNat)
      case atStart => exact ⟨0, [], M, by omega, rfl, Mem.le.refl _, Rows.nil _, by simp [Lg.total], H4⟩
      case round =>
        obtain ⟨k, own, M', hk, rfl, hM, hrow, htot, H5⟩ := hrel
        clear H4
        have HM := Lib.hid (And.intro hM (And.intro hrow htot))
        clear hM hrow htot
        by_cases hlt : k < n
        · have hk1 : k < ps.length := by have := HP.out.1; omega
          have q1 : (k : Int) < (n : Int) := by omega
          obtain ⟨b, o, rfl, hc⟩ := SrA.at ((HP.out.2.1.le HM.out.1).now H5.restL.d0.d0) k (by rw [List.length_map]; exact hk1)
          rw [List.getElem_map] at hc
          obtain ⟨hpok, hpin, hp1, hp2⟩ := HP.out.2.2.1 _ (List.getElem_mem hk1)
          have htt := Lg.total_take (l := ps.map Pc.l) (k := k) (by rw [List.length_map]; exact hk1)
          have htl := Lg.total_take_le (ps.map Pc.l) (k + 1)
          rw [List.getElem_map] at htt
          obtain ⟨p, hpe⟩ : ∃ p, p = ps[k] := ⟨_, rfl⟩
          have htk : (ps.take (k + 1)).map Pc.l = (ps.take k).map Pc.l ++ [p.l] := by rw [List.take_succ_eq_append_getElem hk1, List.map_append, hpe]; rfl
          rw [← hpe] at hc hp1 hp2 hpok hpin htt
          obtain ⟨T, hT⟩ : ∃ T, T = Lg.total ((ps.take k).map Pc.l) := ⟨_, rfl⟩
          simp only [← List.map_take] at htt htl
          rw [← hT] at htt H5
          have hTN : T ≤ N := by have := HM.out.2.2; omega
          obtain ⟨PA, PN, PC, PL⟩ := p
          obtain ⟨hPN, hPA, hPC⟩ := hpok
          unfold Pc.v at hc
          simp only at hc hp1 hp2 hPN hPA hPC hpin htt htk
          have HTK := Lib.hid htk
          clear htk
          obtain ⟨X, hX⟩ : ∃ X, X = Lg.recs gn 0 ((ps.take k).map Pc.l) := ⟨_, rfl⟩
          rw [← hX] at H5
          obtain ⟨A8, c8, rfl, hc8, hA8⟩ := H5.restL.shape' 1 rfl
          obtain ⟨A9, c9, rfl, -⟩ := H5.restL.shape 0 rfl
          have hsz := lsize_any H5 h2n hF2 hg
          rw [← HN.out.1] at hsz
          have HSZ := Lib.hid hsz
          obtain ⟨u, hu⟩ : ∃ u, u = N - T := ⟨_, rfl⟩
          have e1 : (N : Int) - (T : Int) = (u : Int) := by omega
          have hu2 : u ≤ 131072 := by have := HN.out.2; omega
          obtain ⟨m6, hm6⟩ : ∃ m6, m6 = PN + 6 := ⟨_, rfl⟩
          have e2 : (PN : Int) + 6 = (m6 : Int) := by omega
          have hm62 : m6 ≤ 65541 := by omega
          have w1 : IntKind.i64.wrap (u : Int) = (u : Int) := by rw [IntKind.wrap_i64]; omega
          have w2 : IntKind.i64.wrap (m6 : Int) = (m6 : Int) := by rw [IntKind.wrap_i64]; omega
          have HQ := Lib.hid (And.intro hpin (And.intro hp1 (And.intro hp2 (And.intro hPN (And.intro hPA (And.intro hPC (And.intro htt (And.intro htl (And.intro hT (And.intro hX (And.intro hu hm6)))))))))))
          have HC8 := Lib.hid (And.intro hc8 hA8)
          clear hpin hp1 hp2 hPN hPA hPC htt htl hT hX hu hm6 hc8 hA8 hsz hpe hk1
          by_cases hbig : u < m6
          · have q2 : (u : Int) < (m6 : Int) := by omega
            go_wp2_with fail
            refine HSZ.out.mono ?_
            rintro e w2 ⟨rfl, H6⟩
            go_wp2
            go_ret
            refine ⟨M', HM.out.1, .inl ⟨.inl ?_, rfl, ?_⟩⟩
            · obtain ⟨-, -, -, hPN, -, -, htt, htl, -, -, hu, hm6⟩ := HQ.out
              have := HN.out.1
              omega
            · exact H6.drop.drop
          · have q2 : ¬ (u : Int) < (m6 : Int) := by omega
            go_wp2_with fail
            refine HSZ.out.mono ?_
            rintro e w2 ⟨rfl, H6⟩
            obtain ⟨Hd, h7, hb7⟩ := H6.head
            have h8 := h7.perm mid_front
            have hrec := record_any h8 gn T HGN.out.2 (by have := HN.out.2; omega) (B := PA) (n := PN) (d := PC) (b := PL) HQ.out.2.2.2.1 HQ.out.2.2.2.2.1 HQ.out.2.2.2.2.2.1 (Sr.of_in (HQ.out.1.le HM.out.1)) (by have := HQ.out.2.2.1; omega)
            have HREC := Lib.hid hrec
            have HB7 := Lib.hid hb7
            have hc1 := H6.c1
            clear hrec hb7 h7 h8 HSZ H5
            go_wp2_with fail
            refine HREC.out.mono ?_
            rintro e w3 ⟨v3, rfl, H9⟩
            obtain ⟨A3, c3, rfl, hc3, hA3⟩ := H9.shape' 0 rfl
            have rb3 : RB w3 A3 (Lg.record gn T PL) := er_RB (H9.get 0 rfl)
            have HR3 := Lib.hid (And.intro rb3 (And.intro hc3 hA3))
            have hlr : PN + 6 = (Lg.record gn T PL).length := by rw [Lg.record_len, HQ.out.2.2.2.1]
            have HLR := Lib.hid hlr
            clear rb3 hc3 hA3 hc1 hlr HREC H6 hc
            go_wp2_with (at_builtin; refine wpList_append_st H9.f1 (by rfl) (.tmp 46) (.tmp 55) 30 (by rfl) Tryz.info5 Tryz.underlying30 (by rfl) A3 (PN + 6) c3 (Lg.record gn T PL) (by rfl) HLR.out HR3.out.2.2 HR3.out.1 (by have := HQ.out.2.2.1; have := HN.out.2; omega) ?_)
            intro v4 w4 H10
            obtain ⟨A4, c4, rfl, -⟩ := H10.shape 0 rfl
            have hrs := Lg.recs_snoc gn 0 ((ps.take k).map Pc.l) PL
            rw [Nat.zero_add, ← HQ.out.2.2.2.2.2.2.2.2.1, ← HQ.out.2.2.2.2.2.2.2.2.2.1] at hrs
            have H11 := H10.d1
            rw [← bv_append, ← hrs] at H11
            have HRS := Lib.hid hrs
            have hcl := clone_any H11 (A := PA) (c := PC) (l := PL) HQ.out.2.2.2.2.1 (by rw [← HQ.out.2.2.2.1]; exact HQ.out.2.2.2.2.2.1) (Sr.of_in (HQ.out.1.le HM.out.1)) (by have := HQ.out.2.2.1; have := HQ.out.2.2.2.1; omega)
            rw [← HQ.out.2.2.2.1] at hcl
            have HCL := Lib.hid hcl
            clear hcl hrs H10 H11 H9 HR3 HLR
            go_wp2_with fail
            refine HCL.out.mono ?_
            rintro e w5 ⟨v5, rfl, H12⟩
            obtain ⟨A5, c5, rfl, hc5, hA5⟩ := H12.shape' 0 rfl
            obtain ⟨M5, hM5, H13, hin5⟩ := H12.keepRow
            have HI5 := Lib.hid (And.intro hM5 (And.intro hin5 (And.intro hc5 hA5)))
            clear hM5 hin5 hc5 hA5 H12 HCL
            go_wp2_with (at_builtin; refine wpList_append1_st H13.f1 (by rfl) (.tmp 57) (.tmp 60) 36 (by rfl) Tryz.info22 (by rfl) Tryz.underlying36 (by rfl) (by rfl) (by rfl) (by omega) (by omega) ?_)
            intro v6 w6 H14
            obtain ⟨A6, c6, rfl, -⟩ := H14.shape 0 rfl
            have H15 := HB7.out _ _ _ HI5.out.1 (H14.f1.perm mid_front.symm)
            have hT6 : T + (PN + 6) = Lg.total ((ps.take (k + 1)).map Pc.l) := by
              have := HQ.out.2.2.2.2.2.2.1
              have := HQ.out.2.2.2.1
              omega
            rw [hT6] at H15
            simp only [← List.map_take] at H15
            rw [← HTK.out] at H15
            have HT6 := Lib.hid hT6
            clear hT6 H14
            go_wp2
            refine ⟨⟨k + 1, own ++ [⟨A5, PN, c5, PL⟩], M5, by omega, by go_num, HM.out.1.trans HI5.out.1, ?_, ?_, ?_⟩, by simp [intOf]; omega⟩
            · rw [HTK.out]
              exact (HM.out.2.1.le HI5.out.1).snoc (p := ⟨A5, PN, c5, PL⟩) ⟨HQ.out.2.2.2.1, HI5.out.2.2.2, HI5.out.2.2.1⟩ HI5.out.2.1
            · rw [← HT6.out]
              obtain ⟨-, -, -, -, -, -, -, -, -, -, hu, hm6⟩ := HQ.out
              omega
            · rw [List.map_append, HT6.out]
              exact H15
        · have hkn : n = k := by omega
          subst hkn
          clear hlt hk
          have htk : ps.take n = ps := by rw [HP.out.1, List.take_length]
          rw [htk] at HM H5
          clear htk
          obtain ⟨T, hT⟩ : ∃ T, T = Lg.total (ps.map Pc.l) := ⟨_, rfl⟩
          obtain ⟨X, hX⟩ : ∃ X, X = Lg.recs gn 0 (ps.map Pc.l) := ⟨_, rfl⟩
          have hXl : X.length = T := by rw [hX, hT, Lg.recs_len]
          rw [← hT, ← hX] at H5
          rw [← hT] at HM
          obtain ⟨A8, c8, rfl, -⟩ := H5.restL.shape 1 rfl
          obtain ⟨A9, c9, rfl, -⟩ := H5.restL.shape 0 rfl
          have HX := Lib.hid (And.intro hT (And.intro hX hXl))
          clear hT hX hXl
          have c1 := H5.c1
          by_cases hmx : gen = 18446744073709551615
          · subst hmx
            go_wp2
            go_ret
            exact ⟨M', HM.out.1, .inl ⟨.inr rfl, rfl, H5.drop.drop⟩⟩
          · have q1 : ¬ (gen : Int) = 18446744073709551615 := by omega
            have HGE := Lib.hid hmx
            obtain ⟨u, hu⟩ : ∃ u, u = N - T := ⟨_, rfl⟩
            have htn := HM.out.2.2
            have e1 : (N : Int) - (T : Int) = (u : Int) := by omega
            have hu2 : u ≤ 131072 := by have := HN.out.2; omega
            have w1 : IntKind.i64.wrap (u : Int) = (u : Int) := by rw [IntKind.wrap_i64]; omega
            have HU := Lib.hid (And.intro hu htn)
            clear hu htn hmx
            go_wp2
            refine Pt.wp_plan (fun w' => w'.cell? ⟨g, 1, none⟩ = some (.int .u64 (gen : Int))) (Pt.prs [0, 1, 2, 3, 6, 7, 9] (Pt.rds [4] (Pt.prs [5] (.go 8 (Pt.prs [10] (.go 11 (.go 12 .fin))))))) [] Tryz.mixed (by kernel_rfl) (fun _ _ d _ _ h => by cases d <;> exact h) H5.drew.c1 ?_
            have H6 := H5.drew
            clear H5 c1
            simp only [Pt.toL, Pt.rds, Pt.prs, Pt.at_, List.drop_succ_cons, List.drop_zero]
            iterate 7 (refine Pt.pr_run (v := ?_) (by rfl) ?_ ?_; rotate_left; (focus (intro w'; go_simp; with_reducible rfl)); simp only [Act.put, List.setIfInBounds_toArray, List.set_cons_zero, List.set_cons_succ])
            (refine Pt.rd_run (v := ?_) (by rfl) ?_ ?_; rotate_left; (focus (intro w' hS; obtain s0 := hS; go_simp; with_reducible rfl)); simp only [Act.put, List.setIfInBounds_toArray, List.set_cons_zero, List.set_cons_succ])
            (refine Pt.pr_run (v := ?_) (by rfl) ?_ ?_; rotate_left; (focus (intro w'; go_simp; with_reducible rfl)); simp only [Act.put, List.setIfInBounds_toArray, List.set_cons_zero, List.set_cons_succ])
            refine Pt.run_go ?_
            go_wp2_with fail
            refine (lsize_any H6 h2n hF2 hg).mono ?_
            rintro e w1 ⟨rfl, H7⟩
            rw [← HN.out.1]
            go_wp2_with fail
            refine Pt.same H7.c1 ?_
            (refine Pt.pr_run (v := ?_) (by rfl) ?_ ?_; rotate_left; (focus (intro w'; go_simp; with_reducible rfl)); simp only [Act.put, List.setIfInBounds_toArray, List.set_cons_zero, List.set_cons_succ])
            obtain ⟨Hd, h8, hb8⟩ := H7.head
            have h9 := h8.perm mid_front
            refine Pt.run_go ?_
            refine wpList_append_zeros_st h9 (by rfl) (.tmp 76) (.tmp 80) 30 3 9 .i64 .i64 (by rfl) Tryz.info5 Tryz.underlying30 (by kernel_rfl) (by kernel_rfl) (by rfl) u (by rfl) (by have := HN.out.2; have := HU.out.2; omega) ?_
            intro v4 w4 H10
            obtain ⟨A10, c10, rfl, -⟩ := H10.shape 0 rfl
            rw [← bv_append] at H10
            have K10 := hb8 _ _ _ (Mem.le.refl _) (H10.perm mid_front.symm)
            refine wpList_nil ?_
            refine Pt.same K10.c1 ?_
            simp only [Act.put, List.setIfInBounds_toArray, List.set_cons_zero, List.set_cons_succ]
            obtain ⟨B, hB⟩ : ∃ B, B = X ++ List.replicate u 0 := ⟨_, rfl⟩
            rw [← hB] at K10
            obtain ⟨m, hm⟩ : ∃ m, m = T + u := ⟨_, rfl⟩
            rw [← hm] at K10 ⊢
            have hBl : m = B.length := by rw [hB, List.length_append, List.length_replicate, HX.out.2.2, hm]
            have hmN : m = N := by have := HU.out; omega
            obtain ⟨v, ps', hrow', H12⟩ := K10
            have hpu := put_any H12 h2n gn HGN.out.2 0 (B := A10) (c := c10) (m := m) (b := B) hBl (Sr.row 2 rfl) (by have := HN3.out; omega) (by have := HN.out.1; omega) HP.out.2.2.2
            obtain ⟨FJ, hFJ⟩ : ∃ FJ, FJ = putAll (Lg.halfFrom F.n gn) 0 B F := ⟨_, rfl⟩
            rw [← hFJ] at hpu
            have HPU := Lib.hid hpu
            have HFJ := Lib.hid (And.intro hFJ (And.intro hB (And.intro hm hmN)))
            clear hpu hFJ hB hm hmN hBl H10 h8 h9 hb8 H7 H12 H6 e1 w1
            refine Pt.run_go ?_
            go_wp2_with fail
            refine HPU.out.mono ?_
            rintro e w5 ⟨rfl, H13⟩
            clear HPU
            go_wp2_with fail
            refine Pt.same (H13.cell 0 rfl 1) ?_
            refine Pt.run_fin ?_
            obtain ⟨Z, HZ, hback⟩ := H13.out
            have y1 : w5.cell? ⟨g, 1, none⟩ = some (.int .u64 (gen : Int)) := HZ.cell 0 rfl 1
            have z1 := HZ.frozen 0 rfl 1
            have H14 := hback _ _ _ (HZ.set 1 (.int .u64 (gn : Int)))
            clear HZ hback H13
            go_wp2
            obtain ⟨q, hq⟩ : ∃ q, q = gn % 2 := ⟨_, rfl⟩
            have htm : (gn : Int).tmod 2 = (q : Int) := by rw [Int.tmod_eq_emod_of_nonneg (by omega)]; omega
            have wq1 : IntKind.u64.wrap (q : Int) = (q : Int) := by rw [IntKind.wrap_u64]; omega
            have wq2 : IntKind.i64.wrap (q : Int) = (q : Int) := by rw [IntKind.wrap_i64]; omega
            have hq2 : q < 2 := by omega
            have HQ := Lib.hid hq
            clear hq y1 z1
            have hcl : (lcells f gen v en).set 1 (.int .u64 (gn : Int)) = lcells f gn v en := rfl
            rw [hcl] at H14
            generalize World.setCell w5 _ _ = wx at *
            refine Pt.wp_plan (fun w' => w'.cell? ⟨g, 0, none⟩ = some (.pointer (some ⟨f, 0, none⟩)) ∧ w'.cell? ⟨g, 1, none⟩ = some (.int .u64 (gn : Int))) (Pt.prs [0, 1, 2, 4, 5, 6, 10, 11, 12] (Pt.rds [3, 7] (Pt.prs [8] (Pt.rds [9, 13] (.go 14 (.go 15 .fin)))))) [] Tryz.mixed (by kernel_rfl) (fun _ _ d _ _ h => by cases d <;> exact h) ⟨H14.drew.cell 0 rfl 0, H14.drew.cell 0 rfl 1⟩ ?_
            have H15 := H14.drew
            clear H14 hcl
            simp only [Pt.toL, Pt.rds, Pt.prs, Pt.at_, List.drop_succ_cons, List.drop_zero]
            iterate 9 (refine Pt.pr_run (v := ?_) (by rfl) ?_ ?_; rotate_left; (focus (intro w'; go_simp; with_reducible rfl)); simp only [Act.put, List.setIfInBounds_toArray, List.set_cons_zero, List.set_cons_succ])
            iterate 2 (refine Pt.rd_run (v := ?_) (by rfl) ?_ ?_; rotate_left; (focus (intro w' hS; obtain ⟨s0, s1⟩ := hS; go_simp; with_reducible rfl)); simp only [Act.put, List.setIfInBounds_toArray, List.set_cons_zero, List.set_cons_succ])
            (refine Pt.pr_run (v := ?_) (by rfl) ?_ ?_; rotate_left; (focus (intro w'; go_simp; with_reducible rfl)); simp only [Act.put, List.setIfInBounds_toArray, List.set_cons_zero, List.set_cons_succ])
            iterate 2 (refine Pt.rd_run (v := ?_) (by rfl) ?_ ?_; rotate_left; (focus (intro w' hS; obtain ⟨s0, s1⟩ := hS; go_simp; with_reducible rfl)); simp only [Act.put, List.setIfInBounds_toArray, List.set_cons_zero, List.set_cons_succ])
            obtain ⟨Z, HZ, hb0, hb1⟩ := H15.out0
            have hhd := head_any HZ gn HGN.out.2
            have HHD := Lib.hid hhd
            have HB1 := Lib.hid hb1
            clear hhd hb0 hb1 HZ H15
            refine Pt.run_go ?_
            go_wp2_with fail
            refine HHD.out.mono ?_
            rintro e w6 ⟨v6, rfl, H16⟩
            obtain ⟨A6, c6, rfl, -⟩ := H16.shape' 0 rfl
            have H17 := HB1.out _ _ _ H16
            go_wp2_with fail
            refine Pt.same ⟨H17.cell 1 rfl 0, H17.cell 1 rfl 1⟩ ?_
            have hqn : q < FJ.n := by
              have : FJ.n = F.n := by rw [HFJ.out.1]; exact putN_n _ _ _ _ _ _
              omega
            have hpe : FJ.pend.length = 0 := by rw [HFJ.out.1]; rfl
            have hwr := fs_write H17 q hqn (A := A6) (c := c6) (m := Lg.head gn) (Lg.head_len gn) (er_RB (H16.get 0 rfl)) (by omega)
            have HWR := Lib.hid hwr
            have HPE := Lib.hid hpe
            clear hwr hqn hpe H16 H17 HB1 HHD
            refine Pt.run_go ?_
            go_wp2_with fail
            refine HWR.out.mono ?_
            rintro e w7 ⟨rfl, H18⟩
            go_wp2_with fail
            refine Pt.same ⟨H18.cell 1 rfl 0, H18.cell 1 rfl 1⟩ ?_
            refine Pt.run_fin ?_
            have y0 : w7.cell? ⟨g, 0, none⟩ = some (.pointer (some ⟨f, 0, none⟩)) := H18.cell 1 rfl 0
            have hsy := fs_sync H18
            have HSY := Lib.hid hsy
            clear hsy H18 HWR htm wq1 wq2
            go_wp2_with fail
            refine HSY.out.mono ?_
            rintro e w8 ⟨rfl, H19⟩
            have H20 := H19.drop
            obtain ⟨Z, HZ, hback⟩ := H20.out
            have y2 : w8.cell? ⟨g, 2, none⟩ = some v := HZ.cell 0 rfl 2
            have y3 : w8.cell? ⟨g, 3, none⟩ = some (.int .i64 (en : Int)) := HZ.cell 0 rfl 3
            have z2 := HZ.frozen 0 rfl 2
            have z3 := HZ.frozen 0 rfl 3
            have H21 := hback _ _ _ ((HZ.set 2 (.slice A9 n c9)).set 3 (.int .i64 (T : Int)))
            obtain ⟨Av, cv, rfl⟩ : ∃ A c, v = .slice A ps'.length c := by
              obtain ⟨A, c, h, -⟩ := H20.rest.shape 1 rfl
              exact ⟨A, c, h⟩
            clear HZ hback H20 H19 HSY y0
            go_wp2
            go_ret
            have hgn : gn = gen + 1 := by have := HGN.out.1; have := HGE.out; omega
            have hF : ({ FJ.write q (Lg.head gn) with pend := [] } : FM) = Lg.reF F gen (ps.map Pc.l) := by
              unfold Lg.reF
              rw [HFJ.out.1, HFJ.out.2.1, HX.out.2.1, HQ.out, HU.out.1, HN.out.1, HX.out.1, hgn]
            rw [hF, hgn] at H21
            have hown : own.length = n := by
              have := HM.out.2.1.len
              rw [List.length_map, ← HP.out.1] at this
              exact this.symm
            have hfit : Lg.total (ps.map Pc.l) ≤ 64 * Lg.halfN F.n := by
              have := HM.out.2.2
              have := HX.out.1
              have := HN.out.1
              omega
            have hlt : gen < 18446744073709551615 := by have := HGE.out; omega
            rw [HX.out.1] at H21 ⊢
            have H22 := Fs_sub H21 (L' := eb g 170 (lcells f (gen + 1) (.slice A9 n c9) (Lg.total (ps.map Pc.l))) :: er 30 1 (.slice A9 n c9) n (own.map Pc.v) :: L) (List.Sublist.cons_cons _ (List.Sublist.cons _ (List.Sublist.cons_cons _ (List.sublist_cons_self _ _))))
            rw [← hown] at H22
            have H23 : LS w0 _ M' g f (Lg.reF F gen (ps.map Pc.l)) (gen + 1) (ps.map Pc.l) (Lg.total (ps.map Pc.l)) L := ⟨_, own, HM.out.2.1, H22⟩
            rw [hown] at H23
            exact ⟨M', HM.out.1, .inr ⟨hfit, hlt, rfl, H23⟩⟩
end
end Go.Proofs.YtepgmebklhemgaaGreatDoor
