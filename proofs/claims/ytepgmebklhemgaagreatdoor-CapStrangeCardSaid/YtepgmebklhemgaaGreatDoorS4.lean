/- kv.Store.Apply where the record has no room; Apply, all cases together. -/
import Derived.Test.YtepgmebklhemgaaGreatDoorS2
import Derived.Test.YtepgmebklhemgaaGreatDoorS3
import Derived.Test.YtepgmebklhemgaaGreatDoorG3
set_option linter.unusedVariables false
set_option linter.unusedSimpArgs false
namespace Go.Proofs.YtepgmebklhemgaaGreatDoor
open Go.RowKit Wd
theorem perm_four {a b c d : Ent} {Hd L : List Ent} : (c :: d :: b :: a :: (Hd ++ L)).Perm (b :: a :: (Hd ++ c :: d :: L)) := by
  have h1 : (Hd ++ c :: d :: L).Perm (c :: (Hd ++ d :: L)) := List.perm_middle
  have h2 : (Hd ++ d :: L).Perm (d :: (Hd ++ L)) := List.perm_middle
  have h3 : (b :: a :: (Hd ++ c :: d :: L)).Perm (b :: a :: c :: d :: (Hd ++ L)) := ((h1.trans (h2.cons c)).cons a).cons b
  have h4 : ([b, a] ++ [c, d]).Perm ([c, d] ++ [b, a]) := List.perm_append_comm
  have h5 := h4.append_right (Hd ++ L)
  exact (h3.trans h5).symm
section
variable {w0 w : World} {M : Mem} {L : List Ent} {s g f mb gen en : Nat} {F : FM} {ls : List (List UInt8)} {D : List Pa}
/-- No room for a record: begun anew, or full. -/
def RetAnew (w0 : World) (M : Mem) (s g f mb : Nat) (F : FM) (gen : Nat) (ls : List (List UInt8)) (en : Nat) (D : List Pa) (L : List Ent) (S : Kv.RS) (l : List Kv.Act) (e : Ending) (w' : World) : Prop :=
  ∃ M', M.le M' ∧
    ((64 * Lg.halfN F.n < Lg.total (Kv.recsOf (Kv.turn S.L l)) ∨ gen = 18446744073709551615) ∧ e = .returned (.int .i64 2) ∧ KS w0 w' M' s g f mb F gen ls en D L ∨
     Lg.total (Kv.recsOf (Kv.turn S.L l)) ≤ 64 * Lg.halfN F.n ∧ gen < 18446744073709551615 ∧ e = .returned (.int .i64 0) ∧
      ∃ mb' D', D'.map Pa.pr = Kv.mturn (D.map Pa.pr) l ∧ KS w0 w' M' s g f mb' (Lg.reF F gen (Kv.recsOf (Kv.turn S.L l))) (gen + 1) (Kv.recsOf (Kv.turn S.L l)) (Lg.total (Kv.recsOf (Kv.turn S.L l))) D' L)
set_option maxRecDepth 100000 in
set_option maxHeartbeats 1000000 in
theorem apply_re (H : KS w0 w M s g f mb F gen ls en D L) {S : Kv.RS} (hsi : Kv.SI F gen ls en (D.map Pa.pr) S) (hp : F.pend.length < 900000000) {A : Option Addr} {c n : Nat} {l : List Ac} (hn : n = l.length) (hl : SrA w0 M L A (acs l)) (hi : AcIn M l) (hok : Kv.check (l.map Ac.act) = 0) (hne : l ≠ [])
    (hr : Lg.room (64 * Lg.halfN F.n) en < (Kv.bytes (l.map Ac.act)).length) :
    Calls Tryz.prog 45 #[.pointer (some ⟨s, 0, none⟩), .slice A n c] w (RetAnew w0 M s g f mb F gen ls en D L S (l.map Ac.act)) := by
  have h6 := hsi.n6
  have hF2 : F.n ≤ 4096 := by have := hsi.n128; omega
  have hg := hsi.gen_lt
  have hen : en ≤ 1000000 := by have := hsi.small; omega
  have hRel := hsi.rel.turn (l.map Ac.act)
  have hokP := Kv.mturn_ok hsi.ok.1 hok
  have hlen := hsi.ok.2
  have hlen2 := Kv.mturn_len (l.map Ac.act) (D.map Pa.pr)
  have hck := Kv.check_zero hok
  have hrl := Kv.recsOf_long (Kv.turn_okP hsi hok)
  obtain ⟨L0, hL0⟩ : ∃ L0, L0 = Kv.turn S.L (l.map Ac.act) := ⟨_, rfl⟩
  unfold RetAnew
  rw [← hL0] at hRel hrl ⊢
  have c0 := H.c0
  have c1 := H.c1
  have HI := Lib.hid (sis_any H)
  have HD := Lib.hid H.1
  obtain ⟨Hd, h, hb⟩ := H.open_
  have hn2 : n ≤ 255 := by have := hck.2.1; rw [List.length_map] at this; omega
  have hnp : 0 < n := by have := List.length_pos_iff.2 hne; omega
  have he := encode_any (c := c) h hn ((hl.app.cons _).cons _) hi (by omega)
  rw [Kv.enc_snd, Kv.enc_fst hok, hok] at he
  have hsz : ∀ a ∈ l, a.p.l.length ≤ 1000000 := fun a ha => by
    have := (Kv.check_fine hok a.act (List.mem_map.2 ⟨a, ha, rfl⟩)).2.1
    have h2 : a.act.data = a.p.l := rfl
    rw [h2] at this
    omega
  have HT := Lib.hid (And.intro hn (And.intro (((hl.app (Hd := Hd)).cons (eb s 138 (scells g mb))).cons (mp mb D)) (And.intro hi (And.intro hn2 hsz))))
  have hbl : 1 ≤ (Kv.bytes (l.map Ac.act)).length := Kv.bytes_pos _
  obtain ⟨R, hR⟩ : ∃ R, R = Kv.bytes (l.map Ac.act) := ⟨_, rfl⟩
  rw [← hR] at he hr hbl
  have HE := Lib.hid he
  have HB := Lib.hid hb
  obtain ⟨rm, hrm⟩ : ∃ rm, rm = Lg.room (64 * Lg.halfN F.n) en := ⟨_, rfl⟩
  obtain ⟨m, hm⟩ : ∃ m, m = R.length := ⟨_, rfl⟩
  have q1 : ¬ (m : Int) ≤ (rm : Int) := by omega
  have q2 : ¬ (n : Int) = 0 := by omega
  obtain ⟨acts, hacts⟩ : ∃ acts, acts = l.map Ac.act := ⟨_, rfl⟩
  rw [← hacts] at hRel hokP hlen2 ⊢
  have hal : acts.length ≤ 255 := by rw [hacts]; exact hck.2.1
  have HR := Lib.hid (And.intro hrm (And.intro hm (And.intro h6 (And.intro hF2 (And.intro hg (And.intro hp hen))))))
  have HL := Lib.hid (And.intro hRel (And.intro hokP (And.intro hlen2 (And.intro hlen (And.intro hal (And.intro hrl hacts))))))
  clear he hb hR H h hl hi hn hsz hr hrm hm hbl h6 hF2 hg hp hen hck hok hne hRel hokP hlen hlen2 hrl hsi hL0 hal hacts
  go_enter Tryz.func45, Tryz.ntmps45
  go_wp2_with fail
  refine HI.out.mono ?_
  rintro e w' ⟨rfl, rfl⟩
  clear HI
  go_wp2_with fail
  refine HE.out.mono ?_
  rintro e w1 ⟨B, d, M1, rfl, hd1, hd2, hM1, hin, H1⟩
  have HM1 := Lib.hid hM1
  rw [← HR.out.2.1]
  clear hd1 hd2 hM1 hin HE c1 c0
  have hmc := mclone_any H1
  have HMC := Lib.hid hmc
  have c1 : w1.cell? ⟨s, 1, none⟩ = some (.map (some mb)) := H1.cell 1 rfl 1
  clear hmc H1
  go_wp2_with fail
  refine HMC.out.mono ?_
  rintro e w2 ⟨g', rfl, H2⟩
  have ht := turn_any H2 (HD.out.le HM1.out) (A := A) (c := c) HT.out.1 (HT.out.2.1.le HM1.out) (HT.out.2.2.1.le HM1.out) (by have := HT.out.2.2.2.1; omega) HT.out.2.2.2.2
  have HTU := Lib.hid ht
  clear ht H2 HMC c1
  go_wp2_with fail
  refine HTU.out.mono ?_
  rintro e w3 ⟨D', M2, rfl, hM2, hD', hDe, H3⟩
  rw [← HL.out.2.2.2.2.2.2] at hDe
  have hM12 := HM1.out.trans hM2
  have K3 := KS.top HB.out hM12 (HD.out.le hM12) H3
  have HM2 := Lib.hid (And.intro hM2 (And.intro hD' (And.intro hDe hM12)))
  clear hM2 hD' hDe hM12 H3 HTU
  have c0 := K3.c0
  have hro := room_any K3.2 (by have := HR.out.2.2.1; omega) HR.out.2.2.2.1 HR.out.2.2.2.2.1 HR.out.2.2.2.2.2.2
  rw [← HR.out.1] at hro
  have HRO := Lib.hid hro
  have HK3 := Lib.hid K3.1
  clear hro K3
  go_wp2_with fail
  refine HRO.out.mono ?_
  rintro e w4 ⟨rfl, H4⟩
  clear c0 HRO
  go_wp2
  refine Pt.wp_plan (fun w' => w'.cell? ⟨s, 0, none⟩ = some (.pointer (some ⟨g, 0, none⟩))) (Pt.prs [0, 1, 2, 4] (Pt.rds [3] (.go 5 (.go 6 (Pt.prs [7] .fin))))) [] Tryz.mixed (by kernel_rfl) (fun _ _ d _ _ h => by cases d <;> exact h) (by have K4 : KS w0 w4 M2 s g f mb F gen ls en D (mp g' D' :: L) := ⟨HK3.out, H4⟩; exact K4.drew.c0) ?_
  have H5 := H4.drew
  clear H4
  simp only [Pt.toL, Pt.rds, Pt.prs, Pt.at_, List.drop_succ_cons, List.drop_zero]
  iterate 4 (refine Pt.pr_run (v := ?_) (by rfl) ?_ ?_; rotate_left; (focus (intro w'; go_simp; with_reducible rfl)); simp only [Act.put, List.setIfInBounds_toArray, List.set_cons_zero, List.set_cons_succ])
  (refine Pt.rd_run (v := ?_) (by rfl) ?_ ?_; rotate_left; (focus (intro w' hS; obtain s0 := hS; go_simp; with_reducible rfl)); simp only [Act.put, List.setIfInBounds_toArray, List.set_cons_zero, List.set_cons_succ])
  obtain ⟨Hd2, h6, hb2⟩ := H5.mid
  have hall := all20_any h6.f2 HM2.out.2.1 (L0 := L0) (by rw [HM2.out.2.2.1]; exact HL.out.1) (by rw [HM2.out.2.2.1]; exact HL.out.2.1) (by
    have e1 := congrArg List.length HM2.out.2.2.1
    rw [List.length_map] at e1
    have := HL.out.2.2.1
    have := HL.out.2.2.2.1
    have := HL.out.2.2.2.2.1
    simp only [List.length_map] at *
    omega)
  have HALL := Lib.hid hall
  have HB2 := Lib.hid hb2
  clear hall hb2 h6 H5
  refine Pt.run_go ?_
  go_wp2_with fail
  refine HALL.out.mono ?_
  rintro e w5 ⟨v5, ps, M3, rfl, hM3, hrow, H6⟩
  have H7 := HB2.out _ _ _ _ (er 30 1 v5 ps.length (ps.map Pc.v) :: mp g' D' :: L) hM3 (H6.perm perm_four)
  obtain ⟨A5, c5, rfl, -⟩ := H6.shape 0 rfl
  have hD3 := HK3.out.le hM3
  have K7 : KS w0 w5 M3 s g f mb F gen ls en D (er 30 1 (.slice A5 ps.length c5) ps.length (ps.map Pc.v) :: mp g' D' :: L) := ⟨hD3, H7⟩
  have k0 := K7.c0
  go_wp2_with fail
  refine Pt.same k0 ?_
  have hown : ps.map Pc.l = Kv.recsOf L0 := hrow.1
  have hpl : ps.length = L0.length := by
    have := hrow.len
    unfold Kv.recsOf at this
    rw [List.length_map] at this
    exact this.symm
  have hL0l : L0.length ≤ 200000 := by
    have e2 := HL.out.1.2.length_eq
    have := HL.out.2.2.1
    have := HL.out.2.2.2.1
    have := HL.out.2.2.2.2.1
    simp only [List.length_map] at *
    omega
  have hre := restart_any H7 HR.out.2.2.1 HR.out.2.2.2.1 HR.out.2.2.2.2.1 HR.out.2.2.2.2.2.1 (A := A5) (n := ps.length) (c := c5) (ps := ps) rfl (SrA.row 2 rfl) (fun p hp => by
    have h1 := hrow.2 p hp
    have h2 := HL.out.2.2.2.2.2.1 p.l (by rw [← hown]; exact List.mem_map.2 ⟨p, hp, rfl⟩)
    have h3 := h1.1.1
    exact ⟨h1.1, h1.2, by omega, by omega⟩) (by omega)
  rw [hown] at hre
  have HRE := Lib.hid hre
  have HM3 := Lib.hid (And.intro hM3 hD3)
  clear hre hrow hown hpl hL0l H6 H7 K7 k0 HALL HB2 hM3 hD3
  refine Pt.run_go ?_
  go_wp2_with fail
  refine HRE.out.mono ?_
  rintro e w6 ⟨M4, hM4, (⟨hfull, rfl, H8⟩ | ⟨hfit, hlt, rfl, H8⟩)⟩
  · have K8 : KS w0 w6 M4 s g f mb F gen ls en D (er 30 1 (.slice A5 ps.length c5) ps.length (ps.map Pc.v) :: mp g' D' :: L) := ⟨HM3.out.2.le hM4, H8⟩
    have HF := Lib.hid (And.intro hfull hM4)
    have k0 := K8.c0
    clear hfull hM4 HRE
    go_wp2_with fail
    refine Pt.same k0 ?_
    (refine Pt.pr_run (v := ?_) (by rfl) ?_ ?_; rotate_left; (focus (intro w'; go_simp; with_reducible rfl)); simp only [Act.put, List.setIfInBounds_toArray, List.set_cons_zero, List.set_cons_succ])
    refine Pt.run_fin ?_
    go_wp2
    go_ret
    exact ⟨M4, HM2.out.2.2.2.trans (HM3.out.1.trans HF.out.2), .inl ⟨HF.out.1, rfl, K8.drop.drop⟩⟩
  · have K8 : KS w0 w6 M4 s g f mb (Lg.reF F gen (Kv.recsOf L0)) (gen + 1) (Kv.recsOf L0) (Lg.total (Kv.recsOf L0)) D (er 30 1 (.slice A5 ps.length c5) ps.length (ps.map Pc.v) :: mp g' D' :: L) := ⟨HM3.out.2.le hM4, H8⟩
    have HF := Lib.hid (And.intro hfit (And.intro hlt hM4))
    have k0 := K8.c0
    clear hfit hlt hM4 HRE
    obtain ⟨FR, hFR⟩ : ∃ FR, FR = Lg.reF F gen (Kv.recsOf L0) := ⟨_, rfl⟩
    rw [← hFR] at H8 K8
    have HFR := Lib.hid hFR
    have K9 := K8.drop.2
    clear hFR H8 K8
    go_wp2_with fail
    refine Pt.same k0 ?_
    (refine Pt.pr_run (v := ?_) (by rfl) ?_ ?_; rotate_left; (focus (intro w'; go_simp; with_reducible rfl)); simp only [Act.put, List.setIfInBounds_toArray, List.set_cons_zero, List.set_cons_succ])
    refine Pt.run_fin ?_
    clear k0
    obtain ⟨Hd3, H9, hb3⟩ := K9.mid
    have z1 := H9.frozen 1 rfl 1
    have y1 : w6.cell? ⟨s, 1, none⟩ = some (.map (some mb)) := H9.cell 1 rfl 1
    have H10 := H9.f1.set 1 (.map (some g'))
    unfold scells at H10
    simp only [List.set_cons_succ, List.set_cons_zero] at H10
    have H11 := hb3 _ _ _ _ _ (Mem.le.refl _) H10.d1.f1
    clear H9 hb3 H10 K9
    go_wp2
    go_ret
    rw [HFR.out] at H11
    exact ⟨M4, HM2.out.2.2.2.trans (HM3.out.1.trans HF.out.2.2), .inr ⟨HF.out.1, HF.out.2.1, rfl, g', D', HM2.out.2.2.1, HM2.out.2.1.le (HM3.out.1.trans HF.out.2.2), H11⟩⟩
/-- Apply, all cases. -/
def RetKApply (w0 : World) (M : Mem) (s g f : Nat) (F : FM) (gen : Nat) (ls : List (List UInt8)) (en : Nat) (D : List Pa) (L : List Ent) (S : Kv.RS) (l : List Kv.Act) (e : Ending) (w' : World) : Prop :=
  ∃ mb' D' M', M.le M' ∧ e = .returned (.int .i64 (S.apply l).2) ∧
    ((S.apply l).1 = S ∧ D'.map Pa.pr = D.map Pa.pr ∧ KS w0 w' M' s g f mb' F gen ls en D' L ∨
     S.apply l = (S.next l, 0) ∧ Kv.check l = 0 ∧ Lg.total (S.R ++ [Kv.bytes l]) ≤ S.size ∧ D'.map Pa.pr = Kv.mturn (D.map Pa.pr) l ∧ KS w0 w' M' s g f mb' (Lg.appF F gen en (Kv.bytes l)) gen (ls ++ [Kv.bytes l]) (en + ((Kv.bytes l).length + 6)) D' L ∨
     S.apply l = (S.anew l, 0) ∧ Kv.check l = 0 ∧ Lg.total (Kv.recsOf (Kv.turn S.L l)) ≤ S.size ∧ gen + 1 < 18446744073709551616 ∧ D'.map Pa.pr = Kv.mturn (D.map Pa.pr) l ∧
      KS w0 w' M' s g f mb' (Lg.reF F gen (Kv.recsOf (Kv.turn S.L l))) (gen + 1) (Kv.recsOf (Kv.turn S.L l)) (Lg.total (Kv.recsOf (Kv.turn S.L l))) D' L)
theorem apply_any (H : KS w0 w M s g f mb F gen ls en D L) {S : Kv.RS} (hsi : Kv.SI F gen ls en (D.map Pa.pr) S) (hp : F.pend.length < 900000000) {A : Option Addr} {c n : Nat} {l : List Ac} (hn : n = l.length) (hl : SrA w0 M L A (acs l)) (hi : AcIn M l) (hn2 : n ≤ 1000000) :
    Calls Tryz.prog 45 #[.pointer (some ⟨s, 0, none⟩), .slice A n c] w (RetKApply w0 M s g f F gen ls en D L S (l.map Ac.act)) := by
  by_cases hno : Kv.check (l.map Ac.act) ≠ 0 ∨ l = []
  · have hno' : Kv.check (l.map Ac.act) ≠ 0 ∨ l.map Ac.act = [] := hno.imp id fun h => by rw [h]; rfl
    have ha : S.apply (l.map Ac.act) = (S, Kv.check (l.map Ac.act)) := by unfold Kv.RS.apply; rw [if_pos hno']
    refine (apply_no (c := c) H hn hl hi hn2 hno).mono ?_
    rintro e w' ⟨M', rfl, hM, K⟩
    exact ⟨mb, D, M', hM, by rw [ha], .inl ⟨by rw [ha], rfl, K⟩⟩
  · have hok : Kv.check (l.map Ac.act) = 0 := by
      cases Decidable.em (Kv.check (l.map Ac.act) = 0) with
      | inl h => exact h
      | inr h => exact absurd (.inl h) hno
    have hne : l ≠ [] := fun h => hno (.inr h)
    have hno' : ¬ (Kv.check (l.map Ac.act) ≠ 0 ∨ l.map Ac.act = []) := fun h => hno (h.imp id fun h => List.map_eq_nil_iff.1 h)
    have hsm := hsi.small
    have hn128 := hsi.n128
    have hn6 := hsi.n6
    by_cases hr : (Kv.bytes (l.map Ac.act)).length ≤ Lg.room (64 * Lg.halfN F.n) en
    · have hr' := (hsi.room hok).1 hr
      have ha : S.apply (l.map Ac.act) = (S.next (l.map Ac.act), 0) := by unfold Kv.RS.apply; rw [if_neg hno', if_pos hr']
      refine (apply_room (c := c) H (by omega) (by omega) hsi.gen_lt hp (by omega) (by omega) hn hl hi hok hne hr).mono ?_
      rintro e w' ⟨mb', D', M', rfl, hM, hD, K⟩
      exact ⟨mb', D', M', hM, by rw [ha], .inr (.inl ⟨ha, hok, hr', hD, K⟩)⟩
    · have hr' : ¬ Lg.total (S.R ++ [Kv.bytes (l.map Ac.act)]) ≤ S.size := fun h => hr ((hsi.room hok).2 h)
      refine (apply_re (c := c) H hsi hp hn hl hi hok hne (by omega)).mono ?_
      have hZ := hsi.Z
      have hG := hsi.G
      rintro e w' ⟨M', hM, (⟨hfull, rfl, K⟩ | ⟨hfit, hlt, rfl, mb', D', hD, K⟩)⟩
      · have hc : S.gen = 18446744073709551615 ∨ S.size < Lg.total (Kv.recsOf (Kv.turn S.L (l.map Ac.act))) := by
          rcases hfull with h | h
          · exact .inr (by omega)
          · exact .inl (by omega)
        have ha : S.apply (l.map Ac.act) = (S, 2) := by unfold Kv.RS.apply; rw [if_neg hno', if_neg hr', if_pos hc]
        exact ⟨mb, D, M', hM, by rw [ha], .inl ⟨by rw [ha], rfl, K⟩⟩
      · have hc : ¬ (S.gen = 18446744073709551615 ∨ S.size < Lg.total (Kv.recsOf (Kv.turn S.L (l.map Ac.act)))) := by omega
        have ha : S.apply (l.map Ac.act) = (S.anew (l.map Ac.act), 0) := by unfold Kv.RS.apply; rw [if_neg hno', if_neg hr', if_neg hc]
        exact ⟨mb', D', M', hM, by rw [ha], .inr (.inr ⟨ha, hok, by omega, by omega, hD, K⟩)⟩
end
end Go.Proofs.YtepgmebklhemgaaGreatDoor
