/- The reference's Turn. -/
import Derived.Test.YtepgmebklhemgaaGreatDoorS5
import Derived.Test.YtepgmebklhemgaaGreatDoorG6
import Derived.Test.YtepgmebklhemgaaGreatDoorG2
set_option linter.unusedVariables false
set_option linter.unusedSimpArgs false
namespace Go.Proofs.YtepgmebklhemgaaGreatDoor
open Go.RowKit Wd
/-- Pairs in a slice that is never written again. -/
def PasAt (M : Mem) (A : Option Addr) (n c : Nat) (ps : List Pa) : Prop := n = ps.length ∧ n ≤ c ∧ (A = none → c = 0) ∧ PaIn M ps ∧ In M (RA · A (pas ps))
theorem PasAt.le {M M' : Mem} {A : Option Addr} {n c : Nat} {ps : List Pa} (h : PasAt M A n c ps) (hm : M.le M') : PasAt M' A n c ps := ⟨h.1, h.2.1, h.2.2.1, h.2.2.2.1.le hm, h.2.2.2.2.le hm⟩
theorem PasAt.nil (M : Mem) : PasAt M none 0 0 [] := ⟨rfl, Nat.le_refl _, fun _ => rfl, PaIn.nil _, fun W hW h => absurd rfl h⟩
theorem PaIn.app {M : Mem} {l m : List Pa} (h : PaIn M l) (k : PaIn M m) : PaIn M (l ++ m) := fun a ha => (List.mem_append.1 ha).elim (h a) (k a)
theorem PaIn.sub {M : Mem} {l m : List Pa} (h : PaIn M l) (k : ∀ a ∈ m, a ∈ l) : PaIn M m := fun a ha => h a (k a ha)
/-- The call gives pairs. -/
def RetPas (w0 : World) (M : Mem) (L : List Ent) (l : List Kv.Pr) (e : Ending) (w' : World) : Prop :=
  ∃ A n c ps M', e = .returned (.slice A n c) ∧ M.le M' ∧ PasAt M' A n c ps ∧ ps.map Pa.pr = l ∧ St w0 w' M' L
theorem Kv.turn_take {l : List Kv.Pr} {acts : List Kv.Act} {k : Nat} (hk : k < acts.length) : Kv.turn l (acts.take (k + 1)) = Kv.turn1 (Kv.turn l (acts.take k)) acts[k] := by
  rw [List.take_succ_eq_append_getElem hk]
  unfold Kv.turn
  rw [List.foldl_append]
  rfl
theorem Kv.turn1_len (l : List Kv.Pr) (a : Kv.Act) : (Kv.turn1 l a).length ≤ l.length + 1 := by
  have := Kv.find_le l a.key
  unfold Kv.turn1 Kv.mid
  simp only [List.length_append, List.length_take, List.length_drop]
  split <;> simp <;> omega
section
variable {w0 w : World} {M : Mem} {L : List Ent}
set_option maxRecDepth 100000 in
set_option maxHeartbeats 4000000 in
theorem rturn_any (H : St w0 w M L) {A : Option Addr} {c n : Nat} {ps : List Pa} (hp : PasAt M A n c ps) {B : Option Addr} {d m : Nat} {acts : List Ac} (hm : m = acts.length) (hb : SrA w0 M L B (acs acts)) (hi : AcIn M acts) (hn2 : n ≤ 500000) (hm2 : m ≤ 300) (hsz : ∀ a ∈ acts, a.p.l.length ≤ 1000000) :
    Calls Tryz.prog 32 #[.slice A n c, .slice B m d] w (RetPas w0 M L (Kv.turn (ps.map Pa.pr) (acts.map Ac.act))) := by
  have HM := Lib.hid (And.intro hm (And.intro hi (And.intro hsz hn2)))
  clear hm hi hsz hn2
  go_enter Tryz.func32, Tryz.ntmps32
  go_wp2
  go_loopw [0, 5] (fun v0 i wr => ∃ (k nn cc : Nat) (An : Option Addr) (ps' : List Pa) (M' : Mem), k ≤ m ∧ i = .int .i64 k ∧ v0 = .slice An nn cc ∧ M.le M' ∧ PasAt M' An nn cc ps' ∧ ps'.map Pa.pr = Kv.turn (ps.map Pa.pr) ((acts.map Ac.act).take k) ∧ nn ≤ n + k ∧ St w0 wr M' L) (fun _ i _ => m - (intOf i).toNat)
  case atStart => exact ⟨0, n, c, A, ps, M, by omega, rfl, rfl, Mem.le.refl _, hp, by rw [List.take_zero]; rfl, by omega, H⟩
  case round =>
    obtain ⟨k, nn, cc, An, ps', M', hk, rfl, rfl, hM, hpa, hpe, hnk, H1⟩ := hrel
    clear H hp
    by_cases hlt : k < m
    · have hk1 : k < acts.length := by have := HM.out.1; omega
      have hb1 := hb.le hM
      obtain ⟨b, o, rfl, -⟩ := RA.ac3 (hb1.now H1) k hk1
      have hac := (HM.out.2.1.le hM) _ (List.getElem_mem hk1)
      have hz := HM.out.2.2.1 _ (List.getElem_mem hk1)
      have htk := Kv.turn_take (l := ps.map Pa.pr) (acts := acts.map Ac.act) (k := k) (by rw [List.length_map]; exact hk1)
      rw [List.getElem_map, ← hpe] at htk
      have k1 := fun W M2 (hM2 : M'.le M2) (HW : St w0 W M2 L) => cells_ac hb1 hk1 hM2 HW rfl rfl rfl
      obtain ⟨a, ha⟩ : ∃ a, a = acts[k] := ⟨_, rfl⟩
      rw [← ha] at hac hz htk
      simp only [← ha] at k1
      obtain ⟨key, set, ⟨PA, PN, PC, PL⟩⟩ := a
      simp only [Pc.v] at k1
      obtain ⟨⟨hPN, hPA, hPC⟩, hpr⟩ := hac
      simp only at hPN hPA hPC hpr hz
      have hact : Ac.act ⟨key, set, ⟨PA, PN, PC, PL⟩⟩ = ⟨key, set, PL⟩ := rfl
      rw [hact] at htk
      have hnl : nn ≤ 600000 := by have := HM.out.2.2.2; omega
      have hfi := rfind_any H1 (c := cc) hpa.1 (SrA.of_in hpa.2.2.2.2) key (by omega)
      have fle := Kv.find_le (ps'.map Pa.pr) key
      have fth := (Kv.find_step (l := ps'.map Pa.pr) (k := key)).2.2
      unfold Kv.turn1 at htk
      simp only at htk
      obtain ⟨z, hz0⟩ : ∃ z, z = Kv.find (ps'.map Pa.pr) key := ⟨_, rfl⟩
      obtain ⟨th, hth⟩ : ∃ th, th = Kv.there (ps'.map Pa.pr) key := ⟨_, rfl⟩
      rw [← hz0, ← hth] at hfi htk fth
      rw [← hz0] at fle
      rw [List.length_map, ← hpa.1] at fle
      have hthz : th = true → z < nn := fun h => by
        obtain ⟨h1, -⟩ := fth.1 h
        rw [List.length_map, ← hpa.1] at h1
        exact h1
      have HFI := Lib.hid hfi
      have K1 := Lib.hid k1
      have HP := Lib.hid (And.intro hPN (And.intro hPA (And.intro hPC (And.intro hpr hz))))
      have HPA := Lib.hid hpa
      have HTK := Lib.hid htk
      have HK := Lib.hid (And.intro hlt (And.intro hM (And.intro hnk (And.intro fle hthz))))
      have hs1 : ∀ W, (Instr.slice 35 (.slice An nn cc) none (some (.int .i64 (z : Int))) none).run Tryz.prog W = .ok (.slice An z cc) W := fun W => slK_h W Tryz.underlying35 Tryz.sz1 An nn cc z (by have := hpa.2.1; omega)
      obtain ⟨z2, hz2⟩ : ∃ z2, z2 = z + (if th then 1 else 0) := ⟨_, rfl⟩
      have hz2n : z2 ≤ nn := by rw [hz2]; split; (have := hthz (by assumption); omega); omega
      have hs2 : ∀ W, (Instr.slice 35 (.slice An nn cc) (some (.int .i64 (z2 : Int))) none none).run Tryz.prog W = .ok (.slice (sA An cc z2 2) (nn - z2) (cc - z2)) W := fun W => slK_l W Tryz.underlying35 Tryz.sz1 An nn cc z2 hz2n
      have HZ2 := Lib.hid (And.intro hz2 hz2n)
      have HS2 := Lib.hid hs2
      have q1 : (k : Int) < (m : Int) := by omega
      obtain ⟨x0, -, -⟩ := k1 _ M' (Mem.le.refl _) H1
      clear hfi k1 hPN hPA hPC hpr hz hpa htk hlt hM hnk fle hthz hz0 hth fth ha hact hk1 hb1 hpe hk hz2 hz2n hs2
      go_wp2_with fail
      refine HFI.out.mono ?_
      rintro e w1 ⟨rfl, H2⟩
      clear H1 HFI x0
      have H3 := H2.lit00 115 2
      have hra := RA.takeS ((HPA.out.2.2.2.2).now H3.d0) (z * 2)
      rw [pas_take] at hra
      have HRA := Lib.hid hra
      have hlz : (pas (ps'.take z)).length = z * 2 := by rw [pas_length, List.length_take, ← HPA.out.1, Nat.min_eq_left HK.out.2.2.2.1]
      have HLZ := Lib.hid hlz
      clear hra hlz
      go_wp2_with (at_builtin; refine wpList_append_any_st H3 (by rfl) (.tmp 25) (.tmp 28) 35 (by rfl) Tryz.infoPair (by rfl) (by decide) Tryz.underlying35 (by rfl) An z cc (pas (ps'.take z)) (by rfl) HLZ.out HPA.out.2.2.1 HRA.out (pas_one _) (by have := HK.out.2.2.2.1; omega) (by have := HK.out.2.2.2.1; omega) ?_)
      intro v8 w3 H4
      obtain ⟨A8, c8, rfl, -⟩ := H4.shape 0 rfl
      try simp only [Nat.zero_add, List.nil_append] at H4
      obtain ⟨-, x1, -⟩ := K1.out _ M' (Mem.le.refl _) H4.d0
      clear H2 H3 HRA hs1
      have hzl2 : z = (ps'.take z).length := by rw [List.length_take, ← HPA.out.1, Nat.min_eq_left HK.out.2.2.2.1]
      have HZL := Lib.hid hzl2
      have hzb : z ≤ 600000 := by have := HK.out.2.2.2.1; omega
      clear hzl2
      go_upto_if 34 with fail
      go_cut [8] (fun v8 wx => ∃ (A8 : Option Addr) (n8 c8 : Nat) (ps8 : List Pa) (M8 : Mem), v8 = .slice A8 n8 c8 ∧ n8 = ps8.length ∧ n8 ≤ z + 1 ∧ M'.le M8 ∧ PaIn M8 ps8 ∧ ps8.map Pa.pr = (ps'.map Pa.pr).take z ++ Kv.mid ⟨key, set, PL⟩ ∧ St w0 wx M8 (er 115 2 (.slice A8 n8 c8) n8 (pas ps8) :: L))
      case first =>
        cases set with
        | false =>
          go_wp2
          go_meet
          exact ⟨A8, z, c8, ps'.take z, M', rfl, HZL.out, by omega, Mem.le.refl _, HPA.out.2.2.2.1.sub fun a ha => List.mem_of_mem_take ha, by rw [List.map_take]; exact (List.append_nil _).symm, H4⟩
        | true =>
          obtain ⟨s0, -, s2⟩ := K1.out _ M' (Mem.le.refl _) H4.drew.d0
          go_wp2_with fail
          refine Pt.wp_plan (fun w' => w'.cell? ⟨b, o + k * 3, none⟩ = some (.string (str key)) ∧ w'.cell? ⟨b, o + k * 3 + 2, none⟩ = some (.slice PA PN PC)) (Pt.prs [0, 1, 2, 3, 4, 7, 8, 9, 10] (Pt.rds [5, 11] (.go 6 (.go 12 (Pt.prs [13] (.go 14 (.go 15 (Pt.prs [16] .fin)))))))) [] Tryz.mixed (by kernel_rfl) (fun _ _ d _ _ h => by cases d <;> exact h) ⟨s0, s2⟩ ?_
          have H5 := H4.drew
          clear H4 x1 s0 s2
          simp only [Pt.toL, Pt.rds, Pt.prs, Pt.at_, List.drop_succ_cons, List.drop_zero]
          iterate 9 (refine Pt.pr_run (v := ?_) (by rfl) ?_ ?_; rotate_left; (focus (intro w'; go_simp; with_reducible rfl)); simp only [Act.put, List.setIfInBounds_toArray, List.set_cons_zero, List.set_cons_succ])
          iterate 2 (refine Pt.rd_run (v := ?_) (by rfl) ?_ ?_; rotate_left; (focus (intro w' hS; obtain ⟨s0, s1⟩ := hS; go_simp; with_reducible rfl)); simp only [Act.put, List.setIfInBounds_toArray, List.set_cons_zero, List.set_cons_succ])
          have hb0 : ∀ W : World, (Instr.buildSlice 30 0 #[]).run Tryz.prog W = .ok (.slice (some ⟨W.heap.size, 0, none⟩) 0 0) (W.alloc (.cells #[] 5)) := fun W => by go_simp
          refine Pt.run_go ?_
          refine wpList_bs0 (by rfl) 30 (by rfl) (hb0 _) ?_
          have H6 := H5.lit0 5
          refine wpList_nil ?_
          obtain ⟨s0, -, s2⟩ := K1.out _ M' (Mem.le.refl _) H6.d0.d0
          refine Pt.same ⟨s0, s2⟩ ?_
          simp only [Act.put, List.setIfInBounds_toArray, List.set_cons_zero, List.set_cons_succ]
          refine Pt.run_go ?_
          refine wpList_append_st H6 (by rfl) (.tmp 41) (.tmp 46) 30 (by rfl) Tryz.info5 Tryz.underlying30 (by rfl) PA PN PC PL (by rfl) HP.out.1 HP.out.2.1 (HP.out.2.2.2.1.now H6) (by have := HP.out.1; have := HP.out.2.2.2.2; omega) ?_
          intro v7 w7 H7
          rw [Nat.zero_add, List.nil_append] at H7
          obtain ⟨A7, c7, rfl, hc7, hA7⟩ := H7.shape' 0 rfl
          obtain ⟨M7, hM7, H8, hin7⟩ := H7.keepRow
          have HIN7 := Lib.hid (And.intro hin7 (And.intro hM7 (And.intro hc7 hA7)))
          clear H5 H6 H7 hin7 hM7 hc7 hA7 s0 s2 hb0
          refine wpList_nil ?_
          obtain ⟨s0, -, s2⟩ := K1.out _ M7 HIN7.out.2.1 H8.d0
          refine Pt.same ⟨s0, s2⟩ ?_
          simp only [Act.put, List.setIfInBounds_toArray, List.set_cons_zero, List.set_cons_succ]
          (refine Pt.pr_run (v := ?_) (by rfl) ?_ ?_; rotate_left; (focus (intro w'; go_simp; with_reducible rfl)); simp only [Act.put, List.setIfInBounds_toArray, List.set_cons_zero, List.set_cons_succ])
          have hbs := run_buildSlice_one (P := Tryz.prog) (n := 2) Tryz.underlying35 Tryz.zeroPair rfl (by decide) (by decide) (.agg #[.string (str key), .slice A7 PN c7]) rfl w7
          have H9 := H8.alloc (.cells #[.string (str key), .slice A7 PN c7] 115)
          have hra : RA (w7.alloc (.cells #[.string (str key), .slice A7 PN c7] 115)) (some ⟨w7.heap.size, 0, none⟩) (pa ⟨key, ⟨A7, PN, c7, PL⟩⟩) := fun _ => ⟨_, 0, rfl, (Blk.new w7 115 [.string (str key), .slice A7 PN c7]).lt, (Blk.new w7 115 [.string (str key), .slice A7 PN c7]).range 0 2 _ rfl⟩
          refine Pt.run_go ?_
          refine wpList_bs1 (by rfl) 35 (.tmp 48) (by rfl) (by rfl) hbs ?_
          refine wpList_nil ?_
          obtain ⟨s0, -, s2⟩ := K1.out _ M7 HIN7.out.2.1 H9.d0
          refine Pt.same ⟨s0, s2⟩ ?_
          simp only [Act.put, List.setIfInBounds_toArray, List.set_cons_zero, List.set_cons_succ]
          refine Pt.run_go ?_
          refine wpList_append_any_st H9 (by rfl) (.tmp 35) (.tmp 49) 35 (by rfl) Tryz.infoPair (by rfl) (by decide) Tryz.underlying35 (by rfl) (some ⟨w7.heap.size, 0, none⟩) 1 1 (pa ⟨key, ⟨A7, PN, c7, PL⟩⟩) (by rfl) rfl (by rintro ⟨⟩) hra (pa_one _) (by omega) (by omega) ?_
          intro v9 w9 H10
          clear hbs hra H8 H9 s0 s2
          obtain ⟨A9, c9, rfl, -⟩ := H10.shape 0 rfl
          refine wpList_nil ?_
          obtain ⟨s0, -, s2⟩ := K1.out _ M7 HIN7.out.2.1 H10.d0
          refine Pt.same ⟨s0, s2⟩ ?_
          simp only [Act.put, List.setIfInBounds_toArray, List.set_cons_zero, List.set_cons_succ]
          (refine Pt.pr_run (v := ?_) (by rfl) ?_ ?_; rotate_left; (focus (intro w'; go_simp; with_reducible rfl)); simp only [Act.put, List.setIfInBounds_toArray, List.set_cons_zero, List.set_cons_succ])
          refine Pt.run_fin ?_
          have he : pas (ps'.take z) ++ pa ⟨key, ⟨A7, PN, c7, PL⟩⟩ = pas (ps'.take z ++ [⟨key, ⟨A7, PN, c7, PL⟩⟩]) := by rw [pas_append]; simp [pas]
          rw [he] at H10
          go_wp2
          go_meet
          refine ⟨A9, z + 1, c9, ps'.take z ++ [⟨key, ⟨A7, PN, c7, PL⟩⟩], M7, rfl, ?_, by omega, HIN7.out.2.1, ?_, ?_, H10⟩
          · rw [List.length_append, ← HZL.out]; rfl
          · exact ((HPA.out.2.2.2.1.le HIN7.out.2.1).sub fun a ha => List.mem_of_mem_take ha).snoc (a := ⟨key, ⟨A7, PN, c7, PL⟩⟩) ⟨HP.out.1, HIN7.out.2.2.2, HIN7.out.2.2.1⟩ HIN7.out.1
          · rw [List.map_append, List.map_take]
            rfl
      case rest =>
        obtain ⟨A5, n8, c5, ps8, M8, rfl, hn8, hn8z, hM8, hpi8, hpe8, H5⟩ := hcut
        clear H4 x1
        have HC := Lib.hid (And.intro hn8 (And.intro hM8 (And.intro hpi8 hpe8)))
        have hra := RA.dropS ((HPA.out.2.2.2.2.le hM8).now H5) (cap := cc) (sz := 2) (by rw [pas_length, ← HPA.out.1]; have := HPA.out.2.1; omega) z2
        rw [pas_drop] at hra
        have HRA := Lib.hid hra
        have hld : (pas (ps'.drop z2)).length = (nn - z2) * 2 := by rw [pas_length, List.length_drop, ← HPA.out.1]
        have HLD := Lib.hid hld
        have hs2 := HS2.out
        have hap : sA An cc z2 2 = none → cc - z2 = 0 := fun h => by have := HPA.out.2.2.1 (sA_none h); omega
        have HAP := Lib.hid hap
        obtain ⟨Az, hAz⟩ : ∃ Az, Az = sA An cc z2 2 := ⟨_, rfl⟩
        rw [← hAz] at HRA HAP
        simp only [← hAz] at hs2
        have hz2e : (th = true → z + 1 = z2) ∧ (th = false → z = z2) := by
          have := HZ2.out.1
          constructor
          · intro h; rw [h] at this; exact this.symm
          · intro h; rw [h] at this; exact this.symm
        have HZE := Lib.hid hz2e
        have hnz := HZ2.out.2
        have hb8 : n8 + (nn - z2) ≤ 1300000 := by omega
        have HN8 := Lib.hid hn8z
        clear hra hld hap hAz hn8 hM8 hpi8 hpe8 hz2e hnz hn8z
        cases th with
        | true =>
          have hz2e := HZE.out.1 rfl
          have ez : (z : Int) + 1 = (z2 : Int) := by omega
          clear hz2e
          have hthz := HK.out.2.2.2.2 rfl
          have HEZ := Lib.hid (HZE.out.1 rfl)
          go_wp2_with (at_builtin; refine wpList_append_any_st H5 (by rfl) (.tmp 54) (.tmp 57) 35 (by rfl) Tryz.infoPair (by rfl) (by decide) Tryz.underlying35 (by rfl) Az (nn - z2) (cc - z2) (pas (ps'.drop z2)) (by rfl) HLD.out HAP.out HRA.out (pas_one _) (by omega) (by omega) ?_)
          intro v6 w6 H6
          rw [← pas_append] at H6
          obtain ⟨A6, c6, rfl, hc6, hA6⟩ := H6.shape' 0 rfl
          obtain ⟨M6, hM6, H7, hin6, -⟩ := H6.lendRowA
          have HIN6 := Lib.hid (And.intro hin6 (And.intro hM6 (And.intro hc6 hA6)))
          clear H5 H6 HRA hs2 ez hin6 hM6 hc6 hA6
          go_wp2
          refine ⟨⟨k + 1, n8 + (nn - z2), c6, A6, ps8 ++ ps'.drop z2, M6, by have := HK.out.1; omega, by go_num, rfl, HK.out.2.1.trans (HC.out.2.1.trans HIN6.out.2.1), ⟨?_, HIN6.out.2.2.1, HIN6.out.2.2.2, ?_, HIN6.out.1⟩, ?_, ?_, H7⟩, by have := HK.out.1; simp [intOf]; omega⟩
          · rw [List.length_append, List.length_drop, ← HC.out.1, ← HPA.out.1]
          · exact (HC.out.2.2.1.le HIN6.out.2.1).app ((HPA.out.2.2.2.1.le (HC.out.2.1.trans HIN6.out.2.1)).sub fun a ha => List.mem_of_mem_drop ha)
          · rw [List.map_append, HC.out.2.2.2, HTK.out, List.map_drop]
            simp only [if_true, HEZ.out]
          · have h1 := HN8.out
            have := HK.out.2.2.1
            have := HK.out.2.2.2.1
            have := HEZ.out
            omega
        | false =>
          have hz2e := HZE.out.2 rfl
          subst hz2e
          go_wp2_with (at_builtin; refine wpList_append_any_st H5 (by rfl) (.tmp 54) (.tmp 57) 35 (by rfl) Tryz.infoPair (by rfl) (by decide) Tryz.underlying35 (by rfl) Az (nn - z) (cc - z) (pas (ps'.drop z)) (by rfl) HLD.out HAP.out HRA.out (pas_one _) (by omega) (by omega) ?_)
          intro v6 w6 H6
          rw [← pas_append] at H6
          obtain ⟨A6, c6, rfl, hc6, hA6⟩ := H6.shape' 0 rfl
          obtain ⟨M6, hM6, H7, hin6, -⟩ := H6.lendRowA
          have HIN6 := Lib.hid (And.intro hin6 (And.intro hM6 (And.intro hc6 hA6)))
          clear H5 H6 HRA hs2 hin6 hM6 hc6 hA6
          go_wp2
          refine ⟨⟨k + 1, n8 + (nn - z), c6, A6, ps8 ++ ps'.drop z, M6, by have := HK.out.1; omega, by go_num, rfl, HK.out.2.1.trans (HC.out.2.1.trans HIN6.out.2.1), ⟨?_, HIN6.out.2.2.1, HIN6.out.2.2.2, ?_, HIN6.out.1⟩, ?_, ?_, H7⟩, by have := HK.out.1; simp [intOf]; omega⟩
          · rw [List.length_append, List.length_drop, ← HC.out.1, ← HPA.out.1]
          · exact (HC.out.2.2.1.le HIN6.out.2.1).app ((HPA.out.2.2.2.1.le (HC.out.2.1.trans HIN6.out.2.1)).sub fun a ha => List.mem_of_mem_drop ha)
          · rw [List.map_append, HC.out.2.2.2, HTK.out, List.map_drop]
            rfl
          · have h1 := HN8.out
            have := HK.out.2.2.1
            have := HK.out.2.2.2.1
            omega
    · obtain rfl : k = m := by omega
      have htk : (acts.map Ac.act).take k = acts.map Ac.act := by rw [List.take_of_length_le (by rw [List.length_map]; have := HM.out.1; omega)]
      rw [htk] at hpe
      have HH := Lib.hid (And.intro hM (And.intro hpa hpe))
      clear hM hpa hpe htk hlt hk
      go_wp2
      go_ret
      exact ⟨An, nn, cc, ps', M', rfl, HH.out.1, HH.out.2.1, HH.out.2.2, H1⟩
end
end Go.Proofs.YtepgmebklhemgaaGreatDoor
