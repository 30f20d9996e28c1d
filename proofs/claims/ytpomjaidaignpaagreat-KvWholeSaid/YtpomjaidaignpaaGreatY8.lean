/- The law's like: a store tells just what the document's does. -/
import Derived.Test.YtpomjaidaignpaaGreatY7
import Derived.Test.YtpomjaidaignpaaGreatG3
set_option linter.unusedVariables false
set_option linter.unusedSimpArgs false
namespace Go.Proofs.YtpomjaidaignpaaGreat
open Go.RowKit Wd
theorem Kv.scan_sorted {l D : List Kv.Pr} (h : Kv.Rel l D) (p : List UInt8) {ps : List Pa} (hp : (ps.map Pa.pr).Perm (Kv.scan D p)) (hs : ps.Pairwise fun p q => ¬ Kv.plt q p) : ps.map Pa.pr = Kv.scan l p := by
  have h1 : Kv.Sorted (Kv.scan l p) := Kv.sorted_filter h.1 _
  have h2 : (Kv.scan l p).Perm (Kv.scan D p) := h.2.filter _
  have h3 : (ps.map Pa.pr).Perm (Kv.scan l p) := hp.trans h2.symm
  refine Kv.sorted_eq ?_ h1 h3
  have h4 : Kv.Apart (ps.map Pa.pr) := Kv.apart_perm (Kv.sorted_apart h1) h3.symm
  unfold Kv.Sorted
  unfold Kv.Apart at h4
  rw [List.pairwise_map] at h4 ⊢
  refine (hs.and h4).imp fun {a b} hh => ?_
  rcases Kv.tlt_tri a.pr.1 b.pr.1 with h5 | h5 | h5
  · exact h5
  · exact absurd h5 hh.2
  · exact absurd h5 hh.1
theorem Kv.scan_all (l : List Kv.Pr) : Kv.scan l [] = l := by
  unfold Kv.scan
  refine List.filter_eq_self.2 fun a _ => ?_
  unfold Kv.begins
  simp
section
variable {w0 w : World} {M : Mem} {L : List Ent} {s g f mb gen en : Nat} {F : FM} {ls : List (List UInt8)} {D : List Pa}
def RetLike (w0 : World) (M : Mem) (s g f mb : Nat) (F : FM) (gen : Nat) (ls : List (List UInt8)) (en : Nat) (D : List Pa) (L : List Ent) (e : Ending) (w' : World) : Prop :=
  ∃ M', e = .returned (.bool true) ∧ M.le M' ∧ KS w0 w' M' s g f mb F gen ls en D L
set_option maxRecDepth 100000 in
set_option maxHeartbeats 4000000 in
theorem like_any (H : KS w0 w M s g f mb F gen ls en D L) {S : Kv.RS} {cs : List Value} (hsi : Kv.SI F gen ls en (D.map Pa.pr) S) (hrs : RsIn M S cs) (key : List UInt8) :
    Calls Tryz.prog 16 #[.pointer (some ⟨s, 0, none⟩), .agg cs.toArray, .string (str key)] w (RetLike w0 M s g f mb F gen ls en D L) := by
  obtain ⟨A, n, c, ps, A2, n2, c2, qs, rfl, hpa, hpe, hra⟩ := hrs
  obtain ⟨Z, h, -, hb⟩ := H.out
  have K1 := hb _ _ _ (Mem.le.refl _) (h.new [.slice A n c, .slice A2 n2 c2, .int .u64 (S.gen : Int), .int .i64 (S.size : Int)] 30)
  have hok := hsi.ok
  have hsz : ∀ a ∈ D, a.p.l.length ≤ 1000000 := fun a ha => by
    have := (hok.1 a.pr (List.mem_map.2 ⟨a, ha, rfl⟩)).2.2
    have e : a.pr.2 = a.p.l := rfl
    rw [e] at this
    omega
  have hDl := hok.2
  rw [List.length_map] at hDl
  have hnD : n = D.length := by
    have h1 := hpa.1
    have h2 := congrArg List.length hpe
    have h3 := hsi.rel.2.length_eq
    simp only [List.length_map] at h2 h3
    omega
  rw [hsi.G] at K1
  have hG := hsi.G
  rw [hG]
  have hln := slen_any K1
  rw [← hnD] at hln
  have HLN := Lib.hid hln
  have HS := Lib.hid (And.intro hpa (And.intro hpe (And.intro hsi.rel (And.intro hsz (And.intro hDl hnD)))))
  clear hpa hpe hsi hok hsz hDl hnD hG hln hb h hra
  go_enter Tryz.func16, Tryz.ntmps16
  go_wp2_with fail
  generalize World.alloc _ _ = w1 at *
  generalize w.heap.size = gB at *
  clear H
  refine Pt.wp_plan (fun w' => w'.cell? ⟨gB, 0, none⟩ = some (.slice A n c) ∧ w'.cell? ⟨gB, 2, none⟩ = some (.int .u64 (gen : Int))) (Pt.prs [0, 2] (Pt.rds [3] (Pt.prs [4] (.go 1 (Pt.prs [5, 6, 7, 9] (Pt.rds [10] (.go 8 (Pt.prs [11, 12, 13, 14, 16] (Pt.rds [17] (.go 15 (.go 18 (Pt.prs [19, 20, 21, 22, 23, 25, 27] (Pt.rds [26] (.go 24 (.go 28 (.go 29 (Pt.prs [30, 31] .fin))))))))))))))))) [] Tryz.mixed (by kernel_rfl) (fun _ _ d _ _ h => by cases d <;> exact h) ⟨K1.rest.drew.cell 0 rfl 0, K1.rest.drew.cell 0 rfl 2⟩ ?_
  have K2 := K1.drew
  clear K1 HLN
  simp only [Pt.toL, Pt.rds, Pt.prs, Pt.at_, List.drop_succ_cons, List.drop_zero]
  iterate 2 (refine Pt.pr_run (v := ?_) (by rfl) ?_ ?_; rotate_left; (focus (intro w'; go_simp; with_reducible rfl)); simp only [Act.put, List.setIfInBounds_toArray, List.set_cons_zero, List.set_cons_succ])
  (refine Pt.rd_run (v := ?_) (by rfl) ?_ ?_; rotate_left; (focus (intro w' hS; obtain ⟨s0, s1⟩ := hS; go_simp; with_reducible rfl)); simp only [Act.put, List.setIfInBounds_toArray, List.set_cons_zero, List.set_cons_succ])
  (refine Pt.pr_run (v := ?_) (by rfl) ?_ ?_; rotate_left; (focus (intro w'; go_simp; with_reducible rfl)); simp only [Act.put, List.setIfInBounds_toArray, List.set_cons_zero, List.set_cons_succ])
  have hln := slen_any K2
  rw [← HS.out.2.2.2.2.2] at hln
  refine Pt.run_go ?_
  go_wp2_with fail
  refine hln.mono ?_
  rintro e w2 ⟨rfl, rfl⟩
  clear hln
  go_wp2_with fail
  refine Pt.same ⟨K2.rest.cell 0 rfl 0, K2.rest.cell 0 rfl 2⟩ ?_
  iterate 4 (refine Pt.pr_run (v := ?_) (by rfl) ?_ ?_; rotate_left; (focus (intro w'; go_simp; with_reducible rfl)); simp only [Act.put, List.setIfInBounds_toArray, List.set_cons_zero, List.set_cons_succ])
  (refine Pt.rd_run (v := ?_) (by rfl) ?_ ?_; rotate_left; (focus (intro w' hS; obtain ⟨s0, s1⟩ := hS; go_simp; with_reducible rfl)); simp only [Act.put, List.setIfInBounds_toArray, List.set_cons_zero, List.set_cons_succ])
  have hge := sgen_any K2
  refine Pt.run_go ?_
  go_wp2_with fail
  refine hge.mono ?_
  rintro e w2 ⟨rfl, rfl⟩
  clear hge
  go_wp2_with fail
  refine Pt.same ⟨K2.rest.cell 0 rfl 0, K2.rest.cell 0 rfl 2⟩ ?_
  iterate 5 (refine Pt.pr_run (v := ?_) (by rfl) ?_ ?_; rotate_left; (focus (intro w'; go_simp; with_reducible rfl)); simp only [Act.put, List.setIfInBounds_toArray, List.set_cons_zero, List.set_cons_succ])
  (refine Pt.rd_run (v := ?_) (by rfl) ?_ ?_; rotate_left; (focus (intro w' hS; obtain ⟨s0, s1⟩ := hS; go_simp; with_reducible rfl)); simp only [Act.put, List.setIfInBounds_toArray, List.set_cons_zero, List.set_cons_succ])
  have hsc := sscan_any K2 [] HS.out.2.2.2.1 (by have := HS.out.2.2.2.2.1; omega)
  have HSC := Lib.hid hsc
  clear hsc K2
  refine Pt.run_go ?_
  go_wp2_with fail
  refine HSC.out.mono ?_
  rintro e w2 ⟨v2, pS, M2, rfl, hM2, hpS, hpp, hpw, K3⟩
  have hsS := Kv.scan_sorted HS.out.2.2.1 [] hpp hpw
  rw [Kv.scan_all] at hsS
  obtain ⟨A3, c3, rfl, -⟩ := K3.rest.shape 0 rfl
  go_wp2_with fail
  refine Pt.same ⟨K3.rest.cell 1 rfl 0, K3.rest.cell 1 rfl 2⟩ ?_
  have hlS : pS.length = n := by
    have h1 := congrArg List.length hsS
    have h2 := HS.out.1.1
    have h3 := congrArg List.length HS.out.2.1
    rw [List.length_map] at h1 h3
    omega
  obtain ⟨Z3, h3, hb3, -⟩ := K3.out
  have hps : PasAt M2 A n c ps := HS.out.1.le hM2
  have hsrA : SrA w0 M2 Z3 A3 (pas pS) := fun w' M' hM' h' => (hb3 w' M' hM' h').rest |> fun h => er_RA (h.get 0 rfl)
  have hsm := rsame20_any h3 (A := A3) (B := A) (c := c3) (d := c) (n := pS.length) (m := n) (ps := pS) (qs := ps) rfl HS.out.1.1 hsrA (SrA.of_in hps.2.2.2.2) hpS hps.2.2.2.1 (by have := HS.out.2.2.2.2.1; have := HS.out.2.2.2.2.2; omega)
  rw [hsS, HS.out.2.1, decide_eq_true rfl] at hsm
  have HSM := Lib.hid hsm
  have HB3 := Lib.hid hb3
  have HM2 := Lib.hid (And.intro hM2 hps)
  clear hsm hb3 hM2 hps hsrA h3 hlS hpp hpw hsS hpS K3 HSC
  refine Pt.run_go ?_
  go_wp2_with fail
  refine HSM.out.mono ?_
  rintro e w3 ⟨rfl, h4⟩
  have K4 := (HB3.out _ _ (Mem.le.refl _) h4).drop
  clear h4 HSM HB3
  go_wp2_with fail
  refine Pt.same ⟨K4.rest.cell 0 rfl 0, K4.rest.cell 0 rfl 2⟩ ?_
  iterate 7 (refine Pt.pr_run (v := ?_) (by rfl) ?_ ?_; rotate_left; (focus (intro w'; go_simp; with_reducible rfl)); simp only [Act.put, List.setIfInBounds_toArray, List.set_cons_zero, List.set_cons_succ])
  (refine Pt.rd_run (v := ?_) (by rfl) ?_ ?_; rotate_left; (focus (intro w' hS; obtain ⟨s0, s1⟩ := hS; go_simp; with_reducible rfl)); simp only [Act.put, List.setIfInBounds_toArray, List.set_cons_zero, List.set_cons_succ])
  have hsc := sscan_any K4 key HS.out.2.2.2.1 (by have := HS.out.2.2.2.2.1; omega)
  have HSC := Lib.hid hsc
  clear hsc K4
  refine Pt.run_go ?_
  go_wp2_with fail
  refine HSC.out.mono ?_
  rintro e w4 ⟨v4, pT, M4, rfl, hM4, hpT, hpp, hpw, K5⟩
  have hsT := Kv.scan_sorted HS.out.2.2.1 key hpp hpw
  obtain ⟨A5, c5, rfl, -⟩ := K5.rest.shape 0 rfl
  go_wp2_with fail
  refine Pt.same ⟨K5.rest.cell 1 rfl 0, K5.rest.cell 1 rfl 2⟩ ?_
  obtain ⟨Z5, h5, hb5, -⟩ := K5.out
  have hps : PasAt M4 A n c ps := HM2.out.2.le hM4
  have hsrA : SrA w0 M4 Z5 A5 (pas pT) := fun w' M' hM' h' => (hb5 w' M' hM' h').rest |> fun h => er_RA (h.get 0 rfl)
  have hrs := rscan20_any h5 hps key (by have := HS.out.2.2.2.2.1; have := HS.out.2.2.2.2.2; omega)
  rw [HS.out.2.1] at hrs
  have HRS := Lib.hid hrs
  have HB5 := Lib.hid hb5
  have HT := Lib.hid (And.intro hM4 (And.intro hps (And.intro hsrA (And.intro hsT hpT))))
  clear hrs hb5 hM4 hps hsrA hsT hpT hpp hpw h5 K5 HSC
  refine Pt.run_go ?_
  go_wp2_with fail
  refine HRS.out.mono ?_
  rintro e w5 ⟨A6, n6, c6, p6, M6, rfl, hM6, hpa6, hpe6, h6⟩
  have K6 := HB5.out _ _ hM6 h6
  go_wp2_with fail
  refine Pt.same ⟨K6.rest.cell 1 rfl 0, K6.rest.cell 1 rfl 2⟩ ?_
  have hlT : pT.length ≤ 1000000 := by
    have h1 := congrArg List.length HT.out.2.2.2.1
    rw [List.length_map] at h1
    have h2 : (Kv.scan S.L key).length ≤ S.L.length := List.length_filter_le _ _
    have h3 := congrArg List.length HS.out.2.1
    rw [List.length_map] at h3
    have h4 := HS.out.1.1
    have := HS.out.2.2.2.2.1
    have := HS.out.2.2.2.2.2
    omega
  have hsm := rsame20_any h6 (A := A5) (B := A6) (c := c5) (d := c6) (n := pT.length) (m := n6) (ps := pT) (qs := p6) rfl hpa6.1 (HT.out.2.2.1.le hM6) (SrA.of_in hpa6.2.2.2.2) (HT.out.2.2.2.2.le hM6) hpa6.2.2.2.1 (by omega)
  rw [HT.out.2.2.2.1, hpe6, decide_eq_true rfl] at hsm
  have HSM := Lib.hid hsm
  have HM6 := Lib.hid hM6
  clear hsm hM6 hpa6 hpe6 h6 K6 HRS hlT
  refine Pt.run_go ?_
  go_wp2_with fail
  refine HSM.out.mono ?_
  rintro e w6 ⟨rfl, h7⟩
  have K7 := (HB5.out _ _ HM6.out h7).drop
  clear h7 HSM HB5
  go_wp2_with fail
  refine Pt.same ⟨K7.rest.cell 0 rfl 0, K7.rest.cell 0 rfl 2⟩ ?_
  iterate 2 (refine Pt.pr_run (v := ?_) (by rfl) ?_ ?_; rotate_left; (focus (intro w'; go_simp; with_reducible rfl)); simp only [Act.put, List.setIfInBounds_toArray, List.set_cons_zero, List.set_cons_succ])
  refine Pt.run_fin ?_
  have hM := HM2.out.1.trans (HT.out.1.trans HM6.out)
  have HMM := Lib.hid hM
  have hps := HT.out.2.1.le HM6.out
  have HPS := Lib.hid hps
  have hgt := sget_any K7 key HS.out.2.2.2.1
  have hrg := Kv.rel_get HS.out.2.2.1 key
  rw [getD_pr] at hgt
  have HGT := Lib.hid hgt
  have HRG := Lib.hid hrg
  have K7' := K7
  clear hM hps hgt hrg K7
  obtain ⟨o, ho⟩ : ∃ o, o = Kv.mget (D.map Pa.pr) key := ⟨_, rfl⟩
  obtain ⟨z, hz⟩ : ∃ z, z = Kv.find S.L key := ⟨_, rfl⟩
  obtain ⟨th, hth⟩ : ∃ th, th = Kv.there S.L key := ⟨_, rfl⟩
  have HZ := Lib.hid (And.intro hz.symm hth.symm)
  rw [← ho] at HGT HRG
  rw [← hth] at HRG
  have hrg := HRG.out
  have hzl : th = true → ∀ (hl : Kv.find S.L key < S.L.length), ∃ hz : z < ps.length, ps[z].p.l = (S.L[Kv.find S.L key]).2 := fun _ hl => by
    have h1 := HS.out.2.1
    have h2 : z < ps.length := by
      have := congrArg List.length h1
      rw [List.length_map] at this
      omega
    refine ⟨h2, ?_⟩
    have h3 : (ps.map Pa.pr)[z]? = some (Pa.pr ps[z]) := by
      rw [List.getElem?_map, List.getElem?_eq_getElem h2]
      rfl
    have h4 : S.L[z]? = some (S.L[Kv.find S.L key]) := by rw [hz]; exact List.getElem?_eq_getElem hl
    rw [h1, h4] at h3
    injection h3 with h3
    rw [h3]
    rfl
  clear ho hz hth HRG
  rcases hrg with ⟨hf, hn⟩ | ⟨hl, hf, hm, -⟩
  · subst hf hn
    clear hzl
    go_wp2_with fail
    refine HGT.out.mono ?_
    rintro e w7 ⟨v7, rfl, K8⟩
    obtain ⟨Z8, h8, hb8, -⟩ := K8.out
    have hfi := rfind_any h8 (A := A) (c := c) (n := n) (ps := ps) HS.out.1.1 (SrA.of_in HPS.out.2.2.2.2) key (by have := HS.out.2.2.2.2.1; have := HS.out.2.2.2.2.2; omega)
    rw [HS.out.2.1, HZ.out.1, HZ.out.2] at hfi
    have HFI := Lib.hid hfi
    have HB8 := Lib.hid hb8
    have y0 := K8.rest.cell 1 rfl 0
    simp only [List.getElem?_cons_zero] at y0
    clear hfi hb8 h8 HGT
    obtain ⟨A8, c8, rfl, -⟩ := K8.rest.shape 0 rfl
    go_wp2_with fail
    refine HFI.out.mono ?_
    rintro e w8 ⟨rfl, h9⟩
    have K9 := HB8.out _ _ (Mem.le.refl _) h9
    clear h9 HFI HB8 y0 K8
    go_wp2_with fail
    refine Pt.wp_plan (fun w' => KS w0 w' M6 s g f mb F gen ls en D (er 5 1 (.slice A8 0 c8) 0 (bv []) :: eb gB 30 [.slice A n c, .slice A2 n2 c2, .int .u64 (gen : Int), .int .i64 (S.size : Int)] :: L)) (Pt.prs [0, 1, 2, 3, 4, 5, 6, 7, 9, 11] (Pt.rds [8, 10] (Pt.prs [12, 13] (Pt.rds [14, 15] (Pt.prs [16, 17, 18, 19] .fin))))) [] Tryz.mixed (by kernel_rfl) (fun _ _ d _ _ h => by cases d <;> exact h) K9.drew ?_
    have K10 := K9.drew
    clear K9
    simp only [Pt.toL, Pt.rds, Pt.prs, Pt.at_, List.drop_succ_cons, List.drop_zero]
    iterate 7 (refine Pt.pr_run (v := ?_) (by rfl) ?_ ?_; rotate_left; (focus (intro w'; go_simp; with_reducible rfl)); simp only [Act.put, List.setIfInBounds_toArray, List.set_cons_zero, List.set_cons_succ])
    iterate 3 (refine Pt.pr_skip (by rfl) ?_; simp only [Act.put, List.setIfInBounds_toArray, List.set_cons_zero, List.set_cons_succ])
    iterate 2 (refine Pt.rd_skip (by rfl) ?_; simp only [Act.put, List.setIfInBounds_toArray, List.set_cons_zero, List.set_cons_succ])
    iterate 2 (refine Pt.pr_skip (by rfl) ?_; simp only [Act.put, List.setIfInBounds_toArray, List.set_cons_zero, List.set_cons_succ])
    iterate 2 (refine Pt.rd_skip (by rfl) ?_; simp only [Act.put, List.setIfInBounds_toArray, List.set_cons_zero, List.set_cons_succ])
    (refine Pt.pr_skip (by rfl) ?_; simp only [Act.put, List.setIfInBounds_toArray, List.set_cons_zero, List.set_cons_succ])
    iterate 3 (refine Pt.pr_run (v := ?_) (by rfl) ?_ ?_; rotate_left; (focus (intro w'; go_simp; with_reducible rfl)); simp only [Act.put, List.setIfInBounds_toArray, List.set_cons_zero, List.set_cons_succ])
    refine Pt.run_fin ?_
    go_wp2
    go_ret
    exact ⟨M6, rfl, HMM.out, K10.drop.drop⟩
  · obtain ⟨hzn, hze⟩ := hzl hf hl
    rw [← hze] at hm
    subst hf
    obtain ⟨b, o2, rfl, -⟩ := RA.pa2 (HPS.out.2.2.2.2.now K7'.rest) z hzn
    have k1 := fun W M2 (hM2 : M.le M2) (HW : St w0 W M2 L) => cells_pa (SrA.of_in HS.out.1.2.2.2.2) hzn hM2 HW rfl rfl
    have hpi := HPS.out.2.2.2.1 _ (List.getElem_mem hzn)
    obtain ⟨p, hp⟩ : ∃ p, p = ps[z] := ⟨_, rfl⟩
    rw [← hp] at hm hpi
    simp only [← hp] at k1
    obtain ⟨k2, ⟨PA, PN, PC, PL⟩⟩ := p
    simp only [Pc.v] at hm k1
    obtain ⟨⟨hPN, -, -⟩, hpr⟩ := hpi
    simp only at hPN hpr
    subst hm
    have K1 := Lib.hid k1
    have HP := Lib.hid (And.intro hPN hpr)
    have q1 : (z : Int) < (n : Int) := by have := HS.out.1.1; omega
    have q1n : z < n := by omega
    obtain ⟨m, hmm⟩ : ∃ m, m = PL.length := ⟨_, rfl⟩
    have HMM2 := Lib.hid hmm
    unfold RetGet at HGT
    simp only [Option.isSome_some, Option.getD_some, ← hmm] at HGT
    clear k1 hPN hpr hp hze hl hzn hmm hzl
    go_wp2_with fail
    refine HGT.out.mono ?_
    rintro e w7 ⟨v7, rfl, K8⟩
    obtain ⟨Z8, h8, hb8, -⟩ := K8.out
    have hfi := rfind_any h8 (A := (some ⟨b, o2, none⟩)) (c := c) (n := n) (ps := ps) HS.out.1.1 (SrA.of_in HPS.out.2.2.2.2) key (by have := HS.out.2.2.2.2.1; have := HS.out.2.2.2.2.2; omega)
    rw [HS.out.2.1, HZ.out.1, HZ.out.2] at hfi
    have HFI := Lib.hid hfi
    have HB8 := Lib.hid hb8
    have y0 := K8.rest.cell 1 rfl 0
    simp only [List.getElem?_cons_zero] at y0
    clear hfi hb8 h8 HGT
    obtain ⟨A8, c8, rfl, -⟩ := K8.rest.shape 0 rfl
    go_wp2_with fail
    refine HFI.out.mono ?_
    rintro e w8 ⟨rfl, h9⟩
    have K9 := HB8.out _ _ (Mem.le.refl _) h9
    clear h9 HFI HB8 y0 K8
    go_wp2_with fail
    refine Pt.wp_plan (fun w' => KS w0 w' M6 s g f mb F gen ls en D (er 5 1 (.slice A8 m c8) m (bv PL) :: eb gB 30 [.slice (some ⟨b, o2, none⟩) n c, .slice A2 n2 c2, .int .u64 (gen : Int), .int .i64 (S.size : Int)] :: L)) (Pt.prs [0, 1, 2, 3, 4, 5, 6, 7, 9, 11] (Pt.rds [8, 10] (Pt.prs [12, 13] (Pt.rds [14, 15] (Pt.prs [16, 17, 18, 19] .fin))))) [] Tryz.mixed (by kernel_rfl) (fun _ _ d _ _ h => by cases d <;> exact h) K9.drew ?_
    have K10 := K9.drew
    clear K9
    simp only [Pt.toL, Pt.rds, Pt.prs, Pt.at_, List.drop_succ_cons, List.drop_zero]
    iterate 10 (refine Pt.pr_run (v := ?_) (by rfl) ?_ ?_; rotate_left; (focus (intro w'; go_simp; with_reducible rfl)); simp only [Act.put, List.setIfInBounds_toArray, List.set_cons_zero, List.set_cons_succ])
    (refine Pt.rd_run (v := ?_) (by rfl) ?_ ?_; rotate_left; (focus (intro w' hS; have cv := conv_RB (P := Tryz.prog) (src := 33) (dst := 9) (n := m) (c := c8) Tryz.underlying33 Tryz.underlying5 Tryz.underlying9 (er_RB (hS.rest.get 0 rfl)) HMM2.out; go_simp; with_reducible rfl)); simp only [Act.put, List.setIfInBounds_toArray, List.set_cons_zero, List.set_cons_succ])
    (refine Pt.rd_run (v := ?_) (by rfl) ?_ ?_; rotate_left; (focus (intro w' hS; have y0 := hS.rest.cell 1 rfl 0; go_simp; with_reducible rfl)); simp only [Act.put, List.setIfInBounds_toArray, List.set_cons_zero, List.set_cons_succ])
    iterate 2 (refine Pt.pr_run (v := ?_) (by rfl) ?_ ?_; rotate_left; (focus (intro w'; go_simp; with_reducible rfl)); simp only [Act.put, List.setIfInBounds_toArray, List.set_cons_zero, List.set_cons_succ])
    (refine Pt.rd_run (v := ?_) (by rfl) ?_ ?_; rotate_left; (focus (intro w' hS; obtain ⟨x0, x1⟩ := K1.out _ M6 HMM.out hS.rest.d0.d0; go_simp; with_reducible rfl)); simp only [Act.put, List.setIfInBounds_toArray, List.set_cons_zero, List.set_cons_succ])
    (refine Pt.rd_run (v := ?_) (by rfl) ?_ ?_; rotate_left; (focus (intro w' hS; have cv := conv_RB (P := Tryz.prog) (src := 33) (dst := 9) (n := PN) (c := PC) Tryz.underlying33 Tryz.underlying5 Tryz.underlying9 (HP.out.2.now hS.rest) HP.out.1; go_simp; with_reducible rfl)); simp only [Act.put, List.setIfInBounds_toArray, List.set_cons_zero, List.set_cons_succ])
    iterate 4 (refine Pt.pr_run (v := ?_) (by rfl) ?_ ?_; rotate_left; (focus (intro w'; go_simp; with_reducible rfl)); simp only [Act.put, List.setIfInBounds_toArray, List.set_cons_zero, List.set_cons_succ])
    refine Pt.run_fin ?_
    go_wp2
    go_ret
    exact ⟨M6, rfl, HMM.out, K10.drop.drop⟩
end
end Go.Proofs.YtpomjaidaignpaaGreat
