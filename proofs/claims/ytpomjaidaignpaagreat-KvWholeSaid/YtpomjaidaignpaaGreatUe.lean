/- KvWhole walked. -/
import Derived.Test.YtpomjaidaignpaaGreatUf
import Derived.Deep.DeepCutAuto
import Derived.Deep.CutBlock
set_option linter.unusedVariables false
set_option linter.unusedSimpArgs false
namespace Go.Proofs.YtpomjaidaignpaaGreat
open Go.RowKit Wd
section
set_option maxRecDepth 100000 in
set_option maxHeartbeats 16000000 in
theorem kvWhole_any {w : World} {n : Nat} (hn : n < 256) {B : Option Addr} {d m : Nat} {bs : List Bt} (hm : m = bs.length) (hm2 : m ≤ 9223372036854775807) (hB : RA w B (bs.map Bt.v))
    (hbs : ∀ t ∈ bs, t.n = t.l.length ∧ RA w t.A (acs t.l) ∧ ∀ a ∈ t.l, a.p.ok ∧ RB w a.p.A a.p.l) (k0 k1 : Int) (hk0 : k0 ≤ 9223372036854775807) :
    Calls Tryz.prog 3 #[.int .u8 (n : Int), .slice B m d, .agg #[.int .i64 k0, .int .i64 k1]] w fun e w' => e = .returned (.bool true) ∧ Below w.heap.size w w' := by
  have H := St.start w
  have hB' := In.oldRA H hB
  have hbs' : ∀ t ∈ bs, BtIn _ t := fun t ht => ⟨(hbs t ht).1, In.oldRA H (hbs t ht).2.1, fun a ha => ⟨((hbs t ht).2.2 a ha).1, In.oldRB H ((hbs t ht).2.2 a ha).2⟩⟩
  obtain ⟨M, H, hB', hbs'⟩ : ∃ M, St w w M [] ∧ In M (RA · B (bs.map Bt.v)) ∧ ∀ t ∈ bs, BtIn M t := ⟨_, H, hB', hbs'⟩
  have H1 := H.new [.int .i64 k0, .int .i64 k1] 23
  obtain ⟨r, hr⟩ : ∃ r, r = n % 40 := ⟨_, rfl⟩
  obtain ⟨nb, hnb⟩ : ∃ nb, nb = 6 + r := ⟨_, rfl⟩
  obtain ⟨nl, hnl⟩ : ∃ nl, nl = 64 * nb := ⟨_, rfl⟩
  have x1 : (n : Int) % 40 = (r : Int) := by omega
  have x2 : (n : Int).tmod 40 = (r : Int) := by rw [Int.tmod_eq_emod_of_nonneg (by omega)]; exact x1
  have x3 : IntKind.u8.wrap (r : Int) = (r : Int) := by rw [IntKind.wrap_u8]; omega
  have x4 : IntKind.i64.wrap (r : Int) = (r : Int) := by rw [IntKind.wrap_i64]; omega
  have x5 : 6 + (r : Int) = (nb : Int) := by omega
  have x6 : IntKind.i64.wrap (nb : Int) = (nb : Int) := by rw [IntKind.wrap_i64]; omega
  have x7 : 64 * (nb : Int) = (nl : Int) := by omega
  have x8 : IntKind.i64.wrap (nl : Int) = (nl : Int) := by rw [IntKind.wrap_i64]; omega
  have hnb6 : 6 ≤ nb := by omega
  have hnb45 : nb ≤ 45 := by omega
  have HH := Lib.hid (And.intro hm (And.intro hm2 (And.intro hB' (And.intro hbs' hk0))))
  have HN := Lib.hid (And.intro hnb6 (And.intro hnb45 hnl))
  have hnlb : nl ≤ 3000 := by omega
  clear hm hm2 hB hbs hB' hbs' hk0 hr hnb hnl hnb6 hnb45 hn
  obtain ⟨i0, hi, hz0, hz1, hz2⟩ := info_parts Tryz.info5
  have hsz1 : (w.alloc (.cells [.int .i64 k0, .int .i64 k1].toArray 23)).heap.size = w.heap.size + 1 := Array.size_push _
  have hcz : (madeCells #[.int .u8 0] nl).toList = bv (List.replicate nl 0) := by rw [made_bv, filling_zero]
  go_enter Tryz.func3, Tryz.ntmps3
  go_wp2_with (refine wpList_make_full (w.alloc (.cells #[.int .i64 k0, .int .i64 k1] 23)) (by rfl) (.tmp 25) (.tmp 25) 33 (by rfl) (w.alloc (.cells #[.int .i64 k0, .int .i64 k1] 23)).heap.size 5 i0 (.int .u8 0) 1 Tryz.underlying33 hi hz0 hz1 .i64 .i64 _ _ nl (by rfl) (by rfl) rfl rfl (by rw [hz2]; omega) (by unfold maxLen; omega) (Nat.le_refl _) ?_)
  intro w1 ho hgr
  rw [← hsz1] at ho
  have H2 := H1.addRow ⟨hgr.os, hgr.tape, hgr.output, hgr.size, fun i hi => hgr.block i hi (by simp)⟩ ho
  rw [hsz1] at H2
  obtain ⟨M1, hM1, H3, hin⟩ := H2.keepRow
  have hop := lopen_any H3 (A := some ⟨w.heap.size + 1, 0, none⟩) (c := nl) (n := nl) (nb := nb) (b := List.replicate nl 0) (by simp) HN.out.2.2 HN.out.1 (by have := HN.out.2.1; omega) hin (Nat.le_refl _) (by omega)
  have HOP := Lib.hid hop
  have HM1 := Lib.hid hM1
  generalize w.heap.size + 1 = gz at *
  generalize w.heap.size = gC at *
  clear ho hgr H2 H1 hin hop hM1 hcz hsz1 hi hz0 hz1 hz2 H3 x1 x2 x3 x4 x5 x6 x7 x8 hnlb
  go_wp2_with fail
  refine HOP.out.mono ?_
  rintro e w2 ⟨f, M2, hM2, (⟨hx, rfl, H4⟩ | ⟨S, cs, s, g, mb, D, gen, ls, en, hx, rfl, hrs, hsi, K1⟩)⟩
  · have HAW1 := Lib.hid (awake20_any (H4.rest.new rs0 30))
    unfold rs0
    clear HOP
    go_wp2_with fail
    refine HAW1.out.mono ?_
    rintro e w3 ⟨rfl, H5⟩
    go_wp2
    go_ret
    exact ⟨rfl, H5.below⟩
  · obtain ⟨A1, n1, c1, ps, A2, n2, c2, qs, rfl, hrr⟩ := hrs
    obtain ⟨Z, h, -, hbk⟩ := K1.out
    have K2 := hbk _ _ _ (Mem.le.refl _) (h.new [.slice A1 n1 c1, .slice A2 n2 c2, .int .u64 (S.gen : Int), .int .i64 (S.size : Int)] 30)
    have hM12 := HM1.out.trans hM2
    have HM2 := Lib.hid hM12
    have hrs : RsIn M2 S [.slice A1 n1 c1, .slice A2 n2 c2, .int .u64 (S.gen : Int), .int .i64 (S.size : Int)] := ⟨A1, n1, c1, ps, A2, n2, c2, qs, rfl, hrr⟩
    have hcalm := Calm.load (List.replicate nl 0)
    have hhd : Lg.Heads (FM.load (List.replicate nl 0)).l gen ∧ gen = 0 := by
      obtain ⟨h1, h2⟩ := Kv.zeros_heads nb (by have := HN.out.1; omega)
      rw [← HN.out.2.2] at h1 h2
      have h3 : gen = 0 := by rw [← hsi.gen_]; exact h1
      exact ⟨by rw [h3]; exact h2, h3⟩
    have HS0 := Lib.hid (And.intro hrs (And.intro hsi (And.intro hcalm hhd)))
    clear hbk h K1 HOP hx hM2 hrr hM12 hrs hsi hcalm hhd HM1
    by_cases hm0 : m = 0
    · subst hm0
      have HAW1 := Lib.hid (awake20_any K2.rest)
      go_wp2_with fail
      refine HAW1.out.mono ?_
      rintro e w3 ⟨rfl, H5⟩
      go_wp2
      go_ret
      exact ⟨rfl, H5.below⟩
    · have q0 : ¬ (m : Int) = 0 := by omega
      have q0b : ((m : Int) == 0) = false := by simp; omega
      have HM0 := Lib.hid hm0
      clear hm0
      go_upto_block 0 with fail
      generalize World.alloc _ _ = w3 at *
      generalize w2.heap.size = g9 at *
      go_cut [11] (fun _ wx => (∀ j (hj : j < bs.length), j < 30 → bs[j].n ≤ 300 ∧ Kv.slim bs[j].l) ∧ KS w wx M2 s g f mb (FM.load (List.replicate nl 0)) gen ls en D [eb g9 30 [.slice A1 n1 c1, .slice A2 n2 c2, .int .u64 (S.gen : Int), .int .i64 (S.size : Int)], eb gC 23 [.int .i64 k0, .int .i64 k1]])
      case first =>
        go_wp2
        go_loopw [11] (fun i wr => ∃ k : Nat, k ≤ m ∧ k ≤ 30 ∧ i = .int .i64 k ∧ (∀ j (hj : j < bs.length), j < k → bs[j].n ≤ 300 ∧ Kv.slim bs[j].l) ∧ KS w wr M2 s g f mb (FM.load (List.replicate nl 0)) gen ls en D [eb g9 30 [.slice A1 n1 c1, .slice A2 n2 c2, .int .u64 (S.gen : Int), .int .i64 (S.size : Int)], eb gC 23 [.int .i64 k0, .int .i64 k1]]) (fun i _ => m - (intOf i).toNat)
        case atStart => exact ⟨0, by omega, by omega, rfl, fun j hj h => absurd h (Nat.not_lt_zero j), K2⟩
        case round =>
          clear K2
          obtain ⟨k, hk, hk30, rfl, hsl, K3⟩ := hrel
          by_cases hlt : k < m ∧ k < 30
          · obtain ⟨hlt, hlt30⟩ := hlt
            have hk1 : k < bs.length := by have := HH.out.1; omega
            obtain ⟨b2, o2, rfl, hc⟩ := SrA.at ((HH.out.2.2.1.le HM2.out).now K3.rest) k (by rw [List.length_map]; exact hk1)
            rw [List.getElem_map] at hc
            have hbt := HH.out.2.2.2.1 _ (List.getElem_mem hk1)
            have hsl2 : bs[k].n ≤ 300 ∧ Kv.slim bs[k].l → ∀ j (hj : j < bs.length), j < k + 1 → bs[j].n ≤ 300 ∧ Kv.slim bs[j].l := fun h j hj hjk => by
              by_cases hjk2 : j < k
              · exact hsl j hj hjk2
              · obtain rfl : j = k := by omega
                exact h
            obtain ⟨t, ht⟩ : ∃ t, t = bs[k] := ⟨_, rfl⟩
            rw [← ht] at hbt hc hsl2
            obtain ⟨TA, tn, tc, tl⟩ := t
            unfold Bt.v at hc
            simp only at hc
            obtain ⟨Z, h3, hb3⟩ := K3.out'
            have hsm := small_any h3 (A := TA) (c := tc) (n := tn) (l := tl) hbt.1 (SrA.of_in (hbt.2.1.le HM2.out)) (fun a ha => (hbt.2.2 a ha).1.1)
            have HSM := Lib.hid hsm
            have HB3 := Lib.hid hb3
            have HK := Lib.hid (And.intro hlt (And.intro hlt30 hsl2))
            have q3 : (k : Int) < (m : Int) := by omega
            have q4 : (k : Int) < 30 := by omega
            clear hsm hb3 hbt ht hk1 hlt hlt30 hsl hsl2 hk hk30 h3 K3
            go_wp2_with fail
            refine HSM.out.mono ?_
            rintro e w4 ⟨bsm, rfl, hs2, h4⟩
            cases bsm with
            | false =>
              have HAW := Lib.hid (awake20_any h4)
              clear HSM hc hs2
              go_wp2_with fail
              refine HAW.out.mono ?_
              rintro e w5 ⟨rfl, H5⟩
              go_wp2
              go_ret
              exact ⟨rfl, H5.below⟩
            | true =>
              have HS2 := Lib.hid (hs2 rfl)
              have K4 := HB3.out _ _ (Mem.le.refl _) h4
              clear HSM HB3 hs2 h4 hc
              go_wp2
              refine ⟨?_, by have := HK.out.1; simp [intOf]; omega⟩
              repeat (first | exact ⟨k + 1, by have := HK.out.1; omega, by have := HK.out.2.1; omega, by go_num, HK.out.2.2 HS2.out, K4⟩ | exact ⟨⟨k + 1, by have := HK.out.1; omega, by have := HK.out.2.1; omega, by go_num, HK.out.2.2 HS2.out, K4⟩, rfl⟩ | apply Exists.intro)
          · have hx : ¬ (k : Int) < (m : Int) ∨ ((k : Int) < (m : Int) ∧ ¬ (k : Int) < 30) := by omega
            have hs30 : ∀ j (hj : j < bs.length), j < 30 → bs[j].n ≤ 300 ∧ Kv.slim bs[j].l := fun j hj h => hsl j hj (by have := HH.out.1; omega)
            have HSL := Lib.hid hs30
            clear hsl hlt hk hk30 hs30
            rcases hx with q3 | ⟨q3, q4⟩
            all_goals
              go_wp2
              go_meet
              exact ⟨HSL.out, K3⟩
      case rest =>
        obtain ⟨hsl, K3⟩ := hcut
        have HSL := Lib.hid hsl
        clear hsl K2
        obtain ⟨m1, hm1⟩ : ∃ m1, m1 = m - 1 := ⟨_, rfl⟩
        have y1 : (m : Int) - 1 = (m1 : Int) := by have := HM0.out; omega
        have y2 : IntKind.i64.wrap (m1 : Int) = (m1 : Int) := by rw [IntKind.wrap_i64]; have := HH.out.2.1; omega
        obtain ⟨last, hlast⟩ : ∃ last, last = min m1 29 := ⟨_, rfl⟩
        have HL := Lib.hid (And.intro hm1 hlast)
        clear hm1 hlast
        go_upto_if 68 with fail
        go_cut [12] (fun v wx => v = .int .i64 last ∧ wx = wc)
        case first =>
          by_cases h29 : 29 < m1
          · have q1 : (29 : Int) < (m1 : Int) := by omega
            have hl29 : last = 29 := by have := HL.out.2; omega
            have HL29 := Lib.hid hl29
            clear hl29 h29
            go_wp2
            go_meet
            exact ⟨by rw [HL29.out]; rfl, rfl⟩
          · have q1 : ¬ (29 : Int) < (m1 : Int) := by omega
            have hl29 : last = m1 := by have := HL.out.2; omega
            have HL29 := Lib.hid hl29
            clear hl29 h29
            go_wp2
            go_meet
            exact ⟨by rw [HL29.out], rfl⟩
        case rest =>
          obtain ⟨rfl, hwc⟩ := hcut
          subst hwc
          have hl29 : last ≤ 29 := by have := HL.out.2; omega
          have hlm : last < m := by have := HL.out; have := HM0.out; omega
          have HLM := Lib.hid (And.intro hl29 hlm)
          clear y1 y2 HL hl29 hlm
          go_wp2_with fail
          go_loopw [13] (fun i wr => ∃ (k : Nat) (S : Kv.RS) (cs : List Value) (mb : Nat) (F : FM) (gen : Nat) (ls : List (List UInt8)) (en : Nat) (D : List Pa) (M' : Mem), k ≤ last ∧ i = .int .i64 k ∧ M2.le M' ∧ RsIn M' S cs ∧ Kv.SI F gen ls en (D.map Pa.pr) S ∧ Calm F ∧ Lg.Heads F.l gen ∧ gen ≤ k ∧ KS w wr M' s g f mb F gen ls en D [eb g9 30 cs, eb gC 23 [.int .i64 k0, .int .i64 k1]]) (fun i _ => last - (intOf i).toNat)
          case atStart => exact ⟨0, S, _, mb, _, gen, ls, en, D, M2, by omega, rfl, Mem.le.refl _, HS0.out.1, HS0.out.2.1, HS0.out.2.2.1, HS0.out.2.2.2.1, by rw [HS0.out.2.2.2.2]; exact Nat.le_refl _, K3⟩
          case round =>
            clear K3 HS0
            obtain ⟨k, S, cs, mb, F, gen, ls, en, D, M', hk, rfl, hM, hrs, hsi, hcalm, hhd, hgk, K3⟩ := hrel
            obtain ⟨A1, n1, c1, ps, A2, n2, c2, qs, rfl, hrr⟩ := hrs
            have hkm : k < m := by have := HLM.out.2; omega
            have hk1 : k < bs.length := by have := HH.out.1; omega
            have hMM := HM2.out.trans hM
            obtain ⟨b2, o2, rfl, -⟩ := SrA.at ((HH.out.2.2.1.le hMM).now K3.rest) k (by rw [List.length_map]; exact hk1)
            have kc : ∀ W M2 L2, M.le M2 → St w W M2 L2 → W.cell? ⟨b2, o2 + k, none⟩ = some (Bt.v bs[k]) := fun W M2 L2 hM2 hW => by
              obtain ⟨b3, o3, he, hc3⟩ := SrA.at ((HH.out.2.2.1.le hM2).now hW) k (by rw [List.length_map]; exact hk1)
              injection he with he
              injection he with e1 e2
              subst e1 e2
              rw [List.getElem_map] at hc3
              exact hc3
            have hbt := HH.out.2.2.2.1 _ (List.getElem_mem hk1)
            have hsl := HSL.out k hk1 (by have := HLM.out.1; omega)
            obtain ⟨t, ht⟩ : ∃ t, t = bs[k] := ⟨_, rfl⟩
            rw [← ht] at hbt hsl
            simp only [← ht] at kc
            obtain ⟨TA, tn, tc, tl⟩ := t
            unfold Bt.v at kc
            simp only at kc hsl
            have HT := Lib.hid (And.intro hbt hsl)
            have KC := Lib.hid kc
            have HK := Lib.hid (And.intro hMM (And.intro hM (And.intro hsi (And.intro hcalm (And.intro hhd (And.intro hgk hrr))))))
            have q3m : (k : Int) < (m : Int) := by omega
            clear kc hbt ht hk1 hM hMM hsi hcalm hhd hgk hrr hsl hkm
            by_cases hlt : k < last
            · have HLT := Lib.hid hlt
              have q3 : (k : Int) < (last : Int) := by omega
              clear hlt hk
              go_wp2_with fail
              refine Pt.wp_plan (fun w' => Blk w' g9 30 [.slice A1 n1 c1, .slice A2 n2 c2, .int .u64 (S.gen : Int), .int .i64 (S.size : Int)] ∧ w'.cell? ⟨b2, o2 + k, none⟩ = some (.slice TA tn tc)) (Pt.prs [1, 2, 3] (Pt.rds [0, 4] (.go 5 (Pt.prs [6, 7, 8] (.st 9 (Pt.prs [10] .fin)))))) [9] Tryz.mixed (by kernel_rfl) (fun _ _ d _ _ h => by cases d <;> exact h) ⟨K3.drew.rest.blk 0 rfl, KC.out _ M' _ HK.out.1 K3.drew.rest⟩ ?_
              have K5 := K3.drew
              clear K3
              simp only [Pt.toL, Pt.rds, Pt.prs, Pt.at_, List.drop_succ_cons, List.drop_zero]
              iterate 3 (refine Pt.pr_run (v := ?_) (by rfl) ?_ ?_; rotate_left; (focus (intro w'; go_simp; with_reducible rfl)); simp only [Act.put, List.setIfInBounds_toArray, List.set_cons_zero, List.set_cons_succ])
              refine Pt.rd_load (by rfl) 30 (.tmp 9) (by rfl) g9 0 (by rfl) [.slice A1 n1 c1, .slice A2 n2 c2, .int .u64 (S.gen : Int), .int .i64 (S.size : Int)] _ (fun w' h => h.1.range 0 4 _ rfl) Tryz.underlying30 rfl (by exact Tryz.sizeState) ?_
              simp only [Act.put, List.setIfInBounds_toArray, List.set_cons_zero, List.set_cons_succ]
              (refine Pt.rd_run (v := ?_) (by rfl) ?_ ?_; rotate_left; (focus (intro w' hS; obtain ⟨-, s1⟩ := hS; go_simp; with_reducible rfl)); simp only [Act.put, List.setIfInBounds_toArray, List.set_cons_zero, List.set_cons_succ])
              obtain ⟨as1, as2, as3, as4, as5, as6, as7⟩ := HK.out.2.2.1.asks
              have hrs : RsIn M' S [.slice A1 n1 c1, .slice A2 n2 c2, .int .u64 (S.gen : Int), .int .i64 (S.size : Int)] := ⟨A1, n1, c1, ps, A2, n2, c2, qs, rfl, HK.out.2.2.2.2.2.2⟩
              obtain ⟨Z5, h5, hb5⟩ := K5.out'
              have hap := rapply20_any h5 hrs as1 as2 as3 as4 as5 as6 (B := TA) (d := tc) (m := tn) (acts := tl) HT.out.1.1 (SrA.of_in (HT.out.1.2.1.le HK.out.1)) (HT.out.1.2.2.le HK.out.1) (by have := HT.out.2.1; omega) (fun a ha => by have := HT.out.2.2 a ha; omega) (as7 _)
              have HAP := Lib.hid hap
              have HB5 := Lib.hid hb5
              clear hap hb5 as1 as2 as3 as4 as5 as6 as7 hrs h5 K5
              refine Pt.run_go ?_
              go_wp2_with fail
              refine HAP.out.mono ?_
              rintro e w5 ⟨cs5, M5, rfl, hM5, hrs5, h6⟩
              obtain ⟨T, hT⟩ : ∃ T, T = (S.apply (tl.map Ac.act)).1 := ⟨_, rfl⟩
              obtain ⟨C, hC⟩ : ∃ C, C = (S.apply (tl.map Ac.act)).2 := ⟨_, rfl⟩
              rw [← hT] at hrs5
              rw [← hC]
              obtain ⟨A3, n3, c3, ps3, A4, n4, c4, qs4, rfl, hrr5⟩ := hrs5
              have K6 := HB5.out _ _ hM5 h6
              have HM5 := Lib.hid (And.intro hM5 (And.intro hrr5 (And.intro hT hC)))
              have hM5' := HK.out.1.trans hM5
              clear h6 HB5 HAP hrr5 hT hC hM5
              go_wp2_with fail
              refine Pt.same ⟨K6.rest.blk 0 rfl, KC.out _ M5 _ hM5' K6.rest⟩ ?_
              iterate 3 (refine Pt.pr_run (v := ?_) (by rfl) ?_ ?_; rotate_left; (focus (intro w'; go_simp; with_reducible rfl)); simp only [Act.put, List.setIfInBounds_toArray, List.set_cons_zero, List.set_cons_succ])
              obtain ⟨Z6, h7, hb7⟩ := K6.out1
              refine Pt.run_st ?_
              refine wpList_store_st h7 (by rfl) 30 (.tmp 9) (.tmp 81) (by rfl) 0 [.slice A3 n3 c3, .slice A4 n4 c4, .int .u64 (T.gen : Int), .int .i64 (T.size : Int)] (by rfl) (by rfl) (by simp) (by exact Tryz.sizeState) (by simp [Value.oneCell']) ?_
              intro w6 h8
              rw [ins_all [.slice A1 n1 c1, .slice A2 n2 c2, .int .u64 (S.gen : Int), .int .i64 (S.size : Int)] [.slice A3 n3 c3, .slice A4 n4 c4, .int .u64 (T.gen : Int), .int .i64 (T.size : Int)] rfl] at h8
              have K7 := hb7 _ _ _ (Mem.le.refl _) h8
              refine wpList_nil ?_
              simp only [Pl.Then, Act.put, List.setIfInBounds_toArray, List.set_cons_zero, List.set_cons_succ]
              (refine Pt.pr_run (v := ?_) (by rfl) ?_ ?_; rotate_left; (focus (intro w'; go_simp; with_reducible rfl)); simp only [Act.put, List.setIfInBounds_toArray, List.set_cons_zero, List.set_cons_succ])
              refine Pt.run_fin ?_
              have HM5' := Lib.hid hM5'
              have cc := KC.out _ M5 _ hM5' K7.rest
              have hap := apply_heads (c := tc) (A := TA) (n := tn) (l := tl) K7 HK.out.2.2.1 HK.out.2.2.2.1 HK.out.2.2.2.2.1 HK.out.2.2.2.2.2.1 (by have := HLT.out; have := HLM.out.1; omega) HT.out.1.1 (SrA.of_in (HT.out.1.2.1.le hM5')) (HT.out.1.2.2.le hM5') (by have := HT.out.2.1; omega)
              unfold RetHeads at hap
              rw [← HM5.out.2.2.1, ← HM5.out.2.2.2] at hap
              have HAP := Lib.hid hap
              clear hap hM5' h7 hb7 h8 K6 K7
              go_wp2_with fail
              refine HAP.out.mono ?_
              rintro e w7 ⟨mb8, F8, gen8, ls8, en8, D8, M8, hM8, rfl, K8, hsi8, hcalm8, hhd8, hgk8⟩
              have hrs8 : RsIn M8 T [.slice A3 n3 c3, .slice A4 n4 c4, .int .u64 (T.gen : Int), .int .i64 (T.size : Int)] := ⟨A3, n3, c3, ps3, A4, n4, c4, qs4, rfl, (RsIn_parts HM5.out.2.1 hM8)⟩
              have H8 := Lib.hid (And.intro (HK.out.2.1.trans (HM5.out.1.trans hM8)) (And.intro hrs8 (And.intro hsi8 (And.intro hcalm8 (And.intro hhd8 hgk8)))))
              have hkb : k ≤ 29 := by have := HLT.out; have := HLM.out.1; omega
              clear hM8 hrs8 hsi8 hcalm8 hhd8 hgk8 HAP cc
              go_wp2
              exact ⟨⟨k + 1, T, _, mb8, F8, gen8, ls8, en8, D8, M8, by have := HLT.out; omega, by go_num, H8.out.1, H8.out.2.1, H8.out.2.2.1, H8.out.2.2.2.1, H8.out.2.2.2.2.1, H8.out.2.2.2.2.2, K8⟩, by have := HLT.out; simp [intOf]; omega⟩
            · obtain rfl : k = last := by omega
              clear hlt hk
              obtain ⟨T, hT⟩ : ∃ T, T = (S.apply (tl.map Ac.act)).1 := ⟨_, rfl⟩
              obtain ⟨C, hC⟩ : ∃ C, C = (S.apply (tl.map Ac.act)).2 := ⟨_, rfl⟩
              have HTC := Lib.hid (And.intro hT hC)
              clear hT hC
              go_upto_region 19 with fail
              go_cut [15, 16] (fun v15 v16 wx => ∃ (gN : Nat) (cs5 : List Value) (M5 : Mem), v15 = .pointer (some ⟨gN, 0, none⟩) ∧ v16 = .int .i64 C ∧ M'.le M5 ∧ RsIn M5 T cs5 ∧ KS w wx M5 s g f mb F gen ls en D [eb gN 30 cs5, eb g9 30 [.slice A1 n1 c1, .slice A2 n2 c2, .int .u64 (S.gen : Int), .int .i64 (S.size : Int)], eb gC 23 [.int .i64 k0, .int .i64 k1]])
              case first =>
                refine Pt.wp_plan (fun w' => Blk w' g9 30 [.slice A1 n1 c1, .slice A2 n2 c2, .int .u64 (S.gen : Int), .int .i64 (S.size : Int)] ∧ w'.cell? ⟨b2, o2 + k, none⟩ = some (.slice TA tn tc)) (Pt.prs [1, 2, 3] (Pt.rds [0, 4] (.go2 5 (Pt.prs [6, 7, 8] (.go 9 (.go 10 (Pt.prs [11] .fin)))) 9 (.go 5 (Pt.prs [6, 7, 8] (.go 10 (Pt.prs [11] .fin))))))) [] Tryz.mixed (by kernel_rfl) (fun _ _ d _ _ h => by cases d <;> exact h) ⟨K3.drew.rest.blk 0 rfl, KC.out _ M' _ HK.out.1 K3.drew.rest⟩ ?_
                have K5 := K3.drew
                clear K3
                generalize World.drew _ = wd at *
                simp only [Pt.toL, Pt.rds, Pt.prs, Pt.at_, List.drop_succ_cons, List.drop_zero]
                iterate 3 (refine Pt.pr_run (v := ?_) (by rfl) ?_ ?_; rotate_left; (focus (intro w'; go_simp; with_reducible rfl)); simp only [Act.put, List.setIfInBounds_toArray, List.set_cons_zero, List.set_cons_succ])
                refine Pt.rd_load (by rfl) 30 (.tmp 9) (by rfl) g9 0 (by rfl) [.slice A1 n1 c1, .slice A2 n2 c2, .int .u64 (S.gen : Int), .int .i64 (S.size : Int)] _ (fun w' h => h.1.range 0 4 _ rfl) Tryz.underlying30 rfl (by exact Tryz.sizeState) ?_
                simp only [Act.put, List.setIfInBounds_toArray, List.set_cons_zero, List.set_cons_succ]
                (refine Pt.rd_run (v := ?_) (by rfl) ?_ ?_; rotate_left; (focus (intro w' hS; obtain ⟨-, s1⟩ := hS; go_simp; with_reducible rfl)); simp only [Act.put, List.setIfInBounds_toArray, List.set_cons_zero, List.set_cons_succ])
                obtain ⟨Z5, h5, hb5, hbk⟩ := K5.out
                refine Pt.run_go2 ?_ ?_
                · change wpList _ _ _ _ _ _
                  obtain ⟨as1, as2, as3, as4, as5, as6, as7⟩ := HK.out.2.2.1.asks
                  have hrs : RsIn M' S [.slice A1 n1 c1, .slice A2 n2 c2, .int .u64 (S.gen : Int), .int .i64 (S.size : Int)] := ⟨A1, n1, c1, ps, A2, n2, c2, qs, rfl, HK.out.2.2.2.2.2.2⟩
                  have hap := rapply20_any h5 hrs as1 as2 as3 as4 as5 as6 (B := TA) (d := tc) (m := tn) (acts := tl) HT.out.1.1 (SrA.of_in (HT.out.1.2.1.le HK.out.1)) (HT.out.1.2.2.le HK.out.1) (by have := HT.out.2.1; omega) (fun a ha => by have := HT.out.2.2 a ha; omega) (as7 _)
                  have HAP := Lib.hid hap
                  clear hap as1 as2 as3 as4 as5 as6 as7 hrs
                  go_wp2_with fail
                  refine HAP.out.mono ?_
                  rintro e w5 ⟨cs5, M5, rfl, hM5, hrs5, h6⟩
                  rw [← HTC.out.1] at hrs5
                  rw [← HTC.out.2]
                  obtain ⟨A3, n3, c3, ps3, A4, n4, c4, qs4, rfl, hrr5⟩ := hrs5
                  have hM5' := HK.out.1.trans hM5
                  go_wp2_with fail
                  have K6 := hb5 _ _ hM5 h6
                  refine Pt.same ⟨K6.rest.blk 0 rfl, KC.out _ M5 _ hM5' K6.rest⟩ ?_
                  iterate 3 (refine Pt.pr_run (v := ?_) (by rfl) ?_ ?_; rotate_left; (focus (intro w'; go_simp; with_reducible rfl)); simp only [Act.put, List.setIfInBounds_toArray, List.set_cons_zero, List.set_cons_succ])
                  refine Pt.run_go ?_
                  refine wpList_alloc_st h6 (by rfl) 30 (by rfl) Tryz.zeroState ?_
                  intro gN w7 h7
                  have h7' : St w w7 M5 (eb gN 30 rs0 :: Z5) := h7
                  have K7 := hbk _ _ _ hM5 h7'
                  refine wpList_nil ?_
                  refine Pt.same ⟨K7.rest.blk 1 rfl, KC.out _ M5 _ hM5' K7.rest⟩ ?_
                  simp only [Act.put, List.setIfInBounds_toArray, List.set_cons_zero, List.set_cons_succ]
                  refine Pt.run_go ?_
                  refine wpList_store_st h7' (by rfl) 30 (.tmp 15) (.tmp 98) (by rfl) 0 [.slice A3 n3 c3, .slice A4 n4 c4, .int .u64 (T.gen : Int), .int .i64 (T.size : Int)] (by rfl) (by rfl) (by simp [rs0]) (by exact Tryz.sizeState) (by simp [Value.oneCell']) ?_
                  intro w8 h8
                  rw [ins_all rs0 [.slice A3 n3 c3, .slice A4 n4 c4, .int .u64 (T.gen : Int), .int .i64 (T.size : Int)] rfl] at h8
                  have K8 := hbk _ _ _ hM5 h8
                  refine wpList_nil ?_
                  refine Pt.same ⟨K8.rest.blk 1 rfl, KC.out _ M5 _ hM5' K8.rest⟩ ?_
                  simp only [Act.put, List.setIfInBounds_toArray, List.set_cons_zero, List.set_cons_succ]
                  (refine Pt.pr_run (v := ?_) (by rfl) ?_ ?_; rotate_left; (focus (intro w'; go_simp; with_reducible rfl)); simp only [Act.put, List.setIfInBounds_toArray, List.set_cons_zero, List.set_cons_succ])
                  refine Pt.run_fin ?_
                  go_wp2
                  go_meet
                  exact ⟨gN, _, M5, rfl, rfl, hM5, ⟨A3, n3, c3, ps3, A4, n4, c4, qs4, rfl, hrr5⟩, K8⟩
                · change wpList _ _ _ _ _ _
                  refine wpList_alloc_st h5 (by rfl) 30 (by rfl) Tryz.zeroState ?_
                  intro gN w7 h7
                  have h7' : St w w7 M' (eb gN 30 rs0 :: Z5) := h7
                  have K7 := hbk _ _ _ (Mem.le.refl _) h7'
                  refine wpList_nil ?_
                  refine Pt.same ⟨K7.rest.blk 1 rfl, KC.out _ M' _ HK.out.1 K7.rest⟩ ?_
                  simp only [Act.put, List.setIfInBounds_toArray, List.set_cons_zero, List.set_cons_succ]
                  obtain ⟨as1, as2, as3, as4, as5, as6, as7⟩ := HK.out.2.2.1.asks
                  have hrs : RsIn M' S [.slice A1 n1 c1, .slice A2 n2 c2, .int .u64 (S.gen : Int), .int .i64 (S.size : Int)] := ⟨A1, n1, c1, ps, A2, n2, c2, qs, rfl, HK.out.2.2.2.2.2.2⟩
                  have hap := rapply20_any h7' hrs as1 as2 as3 as4 as5 as6 (B := TA) (d := tc) (m := tn) (acts := tl) HT.out.1.1 (SrA.of_in (HT.out.1.2.1.le HK.out.1)) (HT.out.1.2.2.le HK.out.1) (by have := HT.out.2.1; omega) (fun a ha => by have := HT.out.2.2 a ha; omega) (as7 _)
                  have HAP := Lib.hid hap
                  clear hap as1 as2 as3 as4 as5 as6 as7 hrs
                  refine Pt.run_go ?_
                  go_wp2_with fail
                  refine HAP.out.mono ?_
                  rintro e w5 ⟨cs5, M5, rfl, hM5, hrs5, h6⟩
                  rw [← HTC.out.1] at hrs5
                  rw [← HTC.out.2]
                  obtain ⟨A3, n3, c3, ps3, A4, n4, c4, qs4, rfl, hrr5⟩ := hrs5
                  have hM5' := HK.out.1.trans hM5
                  go_wp2_with fail
                  have K6 := hbk _ _ _ hM5 h6
                  refine Pt.same ⟨K6.rest.blk 1 rfl, KC.out _ M5 _ hM5' K6.rest⟩ ?_
                  iterate 3 (refine Pt.pr_run (v := ?_) (by rfl) ?_ ?_; rotate_left; (focus (intro w'; go_simp; with_reducible rfl)); simp only [Act.put, List.setIfInBounds_toArray, List.set_cons_zero, List.set_cons_succ])
                  refine Pt.run_go ?_
                  refine wpList_store_st h6 (by rfl) 30 (.tmp 15) (.tmp 98) (by rfl) 0 [.slice A3 n3 c3, .slice A4 n4 c4, .int .u64 (T.gen : Int), .int .i64 (T.size : Int)] (by rfl) (by rfl) (by simp [rs0]) (by exact Tryz.sizeState) (by simp [Value.oneCell']) ?_
                  intro w8 h8
                  rw [ins_all rs0 [.slice A3 n3 c3, .slice A4 n4 c4, .int .u64 (T.gen : Int), .int .i64 (T.size : Int)] rfl] at h8
                  have K8 := hbk _ _ _ hM5 h8
                  refine wpList_nil ?_
                  refine Pt.same ⟨K8.rest.blk 1 rfl, KC.out _ M5 _ hM5' K8.rest⟩ ?_
                  simp only [Act.put, List.setIfInBounds_toArray, List.set_cons_zero, List.set_cons_succ]
                  (refine Pt.pr_run (v := ?_) (by rfl) ?_ ?_; rotate_left; (focus (intro w'; go_simp; with_reducible rfl)); simp only [Act.put, List.setIfInBounds_toArray, List.set_cons_zero, List.set_cons_succ])
                  refine Pt.run_fin ?_
                  go_wp2
                  go_meet
                  exact ⟨gN, _, M5, rfl, rfl, hM5, ⟨A3, n3, c3, ps3, A4, n4, c4, qs4, rfl, hrr5⟩, K8⟩
              case rest =>
                obtain ⟨gN, cs5, M5, rfl, rfl, hM5, hrs5, K4⟩ := hcut
                obtain ⟨A3, n3, c3, ps3, A4, n4, c4, qs4, rfl, hrr5⟩ := hrs5
                have HM5 := Lib.hid (And.intro hrr5 (And.intro hM5 (HK.out.1.trans hM5)))
                have z0 := K4.rest.cell 2 rfl 0
                have z1 := K4.rest.cell 2 rfl 1
                simp only [List.getElem?_cons_succ, List.getElem?_cons_zero] at z0 z1
                have hfu := kfuse_any K4 k0 k1 HH.out.2.2.2.2
                have HFU := Lib.hid hfu
                clear hfu hrr5 hM5 K3 K4
                go_wp2_with fail
                refine HFU.out.mono ?_
                rintro e w5 ⟨rfl, K5⟩
                have cc := KC.out _ M5 _ HM5.out.2.2 K5.rest
                have hsi1 : Kv.SI (F.fuse k0 k1) gen ls en (D.map Pa.pr) S := HK.out.2.2.1.file rfl rfl
                have hfr := apply_fused (c := tc) (A := TA) (n := tn) (l := tl) K5 hsi1 HK.out.2.2.2.1.2.1 HK.out.2.2.2.1.2.2 HK.out.2.2.2.2.1 HT.out.1.1 (SrA.of_in (HT.out.1.2.1.le HM5.out.2.2)) (HT.out.1.2.2.le HM5.out.2.2) (by have := HT.out.2.1; omega)
                unfold RetFused at hfr
                rw [← HTC.out.1, ← HTC.out.2] at hfr
                have HFR := Lib.hid hfr
                have HS1 := Lib.hid hsi1
                clear hfr hsi1 z0 z1 K5 HFU
                go_wp2_with fail
                refine HFR.out.mono ?_
                rintro e w6 ⟨F2, M6, hM6, rfl, H6, hout, hp2, hn2, hl2⟩
                have hcr := fs_crash H6 0 0 (by rw [hp2]; decide) (by decide)
                have hF3 := FM.crash_l hp2
                obtain ⟨F3, hF3e⟩ : ∃ F3, F3 = F2.crash 0 0 := ⟨_, rfl⟩
                rw [← hF3e] at hcr hF3
                have hn3 : F3.n = F.n := by rw [hF3.2.1, hn2]; rfl
                have hl3 : F3.l.length = 64 * F3.n := by rw [hF3.1, hl2, hn3]; exact HS1.out.len
                have h36 : 6 ≤ F3.n := by rw [hn3]; exact HS1.out.n6
                have h3128 : F3.n ≤ 128 := by rw [hn3]; exact HS1.out.n128
                have HCR := Lib.hid hcr
                have HF3 := Lib.hid (And.intro hF3.1 (And.intro h36 (And.intro h3128 (And.intro hl3 (And.intro (Kv.recsL_len hl3 h36 h3128) (And.intro hM6 hF3.2.2))))))
                have HOUT := Lib.hid hout
                clear hcr hF3 hF3e hn3 hl3 h36 h3128 hout hp2 hn2 hl2 hM6 HFR cc H6
                go_wp2_with fail
                refine HCR.out.mono ?_
                rintro e w7 ⟨rfl, H7⟩
                have hop := fopen_any H7 HF3.out.2.1 HF3.out.2.2.1 HF3.out.2.2.2.1
                have HOP := Lib.hid hop
                clear hop H7 HCR
                go_wp2_with fail
                refine HOP.out.mono ?_
                rintro e w8 ⟨M8, hM8, (⟨hno, rfl, H8⟩ | ⟨s2, g2, mb2, gen2, ls2, en2, D2, S2, hso, rfl, K8, hsi2⟩)⟩
                · have hM68 := HF3.out.2.2.2.2.2.1.trans hM8
                  rcases HOUT.out with ⟨D0, hx, -⟩ | ⟨hg, more, bb, h1, h2, h3, h4⟩
                  · rw [HF3.out.1, hx] at hno
                    cases hno
                  · have htn := Kv.torn_not (R := S.R) h2 h4
                    clear hno HOP
                    have hsl1 : RsIn M8 S [.slice A1 n1 c1, .slice A2 n2 c2, .int .u64 (S.gen : Int), .int .i64 (S.size : Int)] := ⟨A1, n1, c1, ps, A2, n2, c2, qs, rfl, RsIn_parts HK.out.2.2.2.2.2.2 (HM5.out.2.1.trans hM68)⟩
                    have hsl2 : RsIn M8 T [.slice A3 n3 c3, .slice A4 n4 c4, .int .u64 (T.gen : Int), .int .i64 (T.size : Int)] := ⟨A3, n3, c3, ps3, A4, n4, c4, qs4, rfl, RsIn_parts HM5.out.1 hM68⟩
                    have hto := torn_any H8 hsl1 hsl2 HF3.out.2.1 HF3.out.2.2.1 HF3.out.2.2.2.1 (Nat.le_trans HF3.out.2.2.2.2.1 (by decide)) (by rw [HF3.out.1]; exact hg) (by rw [HF3.out.1, h1]; exact htn.1) (by rw [HF3.out.1, h1, h3]; exact htn.2)
                    have r9 := (H8.rest.blk 1 rfl).range 0 4 _ rfl
                    have rN := (H8.rest.blk 0 rfl).range 0 4 _ rfl
                    have HTO := Lib.hid hto
                    have HR9 := Lib.hid (And.intro r9 rN)
                    clear hto r9 rN hsl1 hsl2 hg h1 h2 h3 h4 htn
                    go_wp2_with (first
                      | (refine wpList_load_mid (by rfl) 30 (.tmp 9) (by rfl) g9 0 (by rfl) [.slice A1 n1 c1, .slice A2 n2 c2, .int .u64 (S.gen : Int), .int .i64 (S.size : Int)] _ HR9.out.1 Tryz.underlying30 rfl (by exact Tryz.sizeState) ?_)
                      | (refine wpList_load_mid (by rfl) 30 (.tmp 15) (by rfl) gN 0 (by rfl) [.slice A3 n3 c3, .slice A4 n4 c4, .int .u64 (T.gen : Int), .int .i64 (T.size : Int)] _ HR9.out.2 Tryz.underlying30 rfl (by exact Tryz.sizeState) ?_))
                    refine HTO.out.mono ?_
                    rintro e wt ⟨Mt, rfl, hMt, Ht⟩
                    have HAW := Lib.hid (awake20_any Ht.rest)
                    clear HTO HR9 hMt
                    go_wp2_with fail
                    refine HAW.out.mono ?_
                    rintro e wt2 ⟨rfl, Ht2⟩
                    go_wp2
                    go_ret
                    exact ⟨rfl, Ht2.below⟩
                · have HM8 := Lib.hid (And.intro (HF3.out.2.2.2.2.2.1.trans hM8) (And.intro hso hsi2))
                  obtain ⟨b1, hb1⟩ : ∃ b1, b1 = decide (S2.L = S.L) := ⟨_, rfl⟩
                  obtain ⟨b2, hb2⟩ : ∃ b2, b2 = decide (S2.L = T.L) := ⟨_, rfl⟩
                  obtain ⟨b3, hb3⟩ : ∃ b3, b3 = (!b1 && !b2) := ⟨_, rfl⟩
                  have HB := Lib.hid (And.intro hb1 hb2)
                  have HB3 := Lib.hid hb3
                  clear hM8 hso hsi2 HOP hb1 hb2 hb3
                  go_upto_region 27 with fail
                  go_cut [147] (fun v wx => ∃ M9, v = .bool b3 ∧ M8.le M9 ∧ KS w wx M9 s2 g2 f mb2 F3 gen2 ls2 en2 D2 [eb gN 30 [.slice A3 n3 c3, .slice A4 n4 c4, .int .u64 (T.gen : Int), .int .i64 (T.size : Int)], eb g9 30 [.slice A1 n1 c1, .slice A2 n2 c2, .int .u64 (S.gen : Int), .int .i64 (S.size : Int)], eb gC 23 [.int .i64 k0, .int .i64 k1]])
                  case first =>
                    refine Pt.wp_plan (fun w' => w'.cell? ⟨g9, 0, none⟩ = some (.slice A1 n1 c1) ∧ w'.cell? ⟨gN, 0, none⟩ = some (.slice A3 n3 c3)) (Pt.prs [0, 2] (Pt.rds [3] (.go 1 (.go 4 (Pt.prs [5, 6, 7, 9] (Pt.rds [10] (.go 8 (.go 11 (Pt.prs [12, 13] .fin))))))))) [] Tryz.mixed (by kernel_rfl) (fun _ _ d _ _ h => by cases d <;> exact h) ⟨K8.drew.rest.cell 1 rfl 0, K8.drew.rest.cell 0 rfl 0⟩ ?_
                    have K9 := K8.drew
                    clear K8
                    simp only [Pt.toL, Pt.rds, Pt.prs, Pt.at_, List.drop_succ_cons, List.drop_zero]
                    iterate 2 (refine Pt.pr_run (v := ?_) (by rfl) ?_ ?_; rotate_left; (focus (intro w'; go_simp; with_reducible rfl)); simp only [Act.put, List.setIfInBounds_toArray, List.set_cons_zero, List.set_cons_succ])
                    (refine Pt.rd_run (v := ?_) (by rfl) ?_ ?_; rotate_left; (focus (intro w' hS; obtain ⟨s0, s1⟩ := hS; go_simp; with_reducible rfl)); simp only [Act.put, List.setIfInBounds_toArray, List.set_cons_zero, List.set_cons_succ])
                    have hsc := scanA_any K9 HM8.out.2.2
                    have HSC := Lib.hid hsc
                    clear hsc K9
                    refine Pt.run_go ?_
                    go_wp2_with fail
                    refine HSC.out.mono ?_
                    rintro e w9 ⟨A5, n5, c5, p5, M9, rfl, hM9, hpa5, hpe5, K10⟩
                    go_wp2_with fail
                    refine Pt.same ⟨K10.rest.cell 1 rfl 0, K10.rest.cell 0 rfl 0⟩ ?_
                    have hM59 := HM8.out.1.trans hM9
                    have hps : PasAt M9 A1 n1 c1 ps := HK.out.2.2.2.2.2.2.1.le (HM5.out.2.1.trans hM59)
                    have hln : S2.L.length ≤ 400000 := HM8.out.2.2.asks.2.2.1
                    have hsm := ksame_any K10 hpa5 hps (by have h1 := hpa5.1; have h2 := congrArg List.length hpe5; rw [List.length_map] at h2; omega)
                    rw [hpe5, HK.out.2.2.2.2.2.2.2.1, ← HB.out.1] at hsm
                    have HSM := Lib.hid hsm
                    have HM9 := Lib.hid (And.intro hM9 (And.intro hM59 hln))
                    clear hsm hps hM9 hM59 hpa5 hpe5 hln K10 HSC
                    refine Pt.run_go ?_
                    go_wp2_with fail
                    refine HSM.out.mono ?_
                    rintro e w10 ⟨rfl, K11⟩
                    clear HSM
                    go_wp2_with fail
                    refine Pt.same ⟨K11.rest.cell 1 rfl 0, K11.rest.cell 0 rfl 0⟩ ?_
                    cases b1 with
                    | true =>
                      iterate 2 (refine Pt.pr_run (v := ?_) (by rfl) ?_ ?_; rotate_left; (focus (intro w'; go_simp; with_reducible rfl)); simp only [Act.put, List.setIfInBounds_toArray, List.set_cons_zero, List.set_cons_succ])
                      iterate 2 (refine Pt.pr_skip (by rfl) ?_; simp only [Act.put, List.setIfInBounds_toArray, List.set_cons_zero, List.set_cons_succ])
                      (refine Pt.rd_skip (by rfl) ?_; simp only [Act.put, List.setIfInBounds_toArray, List.set_cons_zero, List.set_cons_succ])
                      refine Pt.run_go ?_
                      go_wp2_with fail
                      refine Pt.same ⟨K11.rest.cell 1 rfl 0, K11.rest.cell 0 rfl 0⟩ ?_
                      refine Pt.run_go ?_
                      go_wp2_with fail
                      refine Pt.same ⟨K11.rest.cell 1 rfl 0, K11.rest.cell 0 rfl 0⟩ ?_
                      (refine Pt.pr_skip (by rfl) ?_; simp only [Act.put, List.setIfInBounds_toArray, List.set_cons_zero, List.set_cons_succ])
                      (refine Pt.pr_run (v := ?_) (by rfl) ?_ ?_; rotate_left; (focus (intro w'; go_simp; with_reducible rfl)); simp only [Act.put, List.setIfInBounds_toArray, List.set_cons_zero, List.set_cons_succ])
                      refine Pt.run_fin ?_
                      go_wp2
                      go_meet
                      exact ⟨M9, by rw [HB3.out]; rfl, HM9.out.1, K11⟩
                    | false =>
                      iterate 4 (refine Pt.pr_run (v := ?_) (by rfl) ?_ ?_; rotate_left; (focus (intro w'; go_simp; with_reducible rfl)); simp only [Act.put, List.setIfInBounds_toArray, List.set_cons_zero, List.set_cons_succ])
                      (refine Pt.rd_run (v := ?_) (by rfl) ?_ ?_; rotate_left; (focus (intro w' hS; obtain ⟨s0, s1⟩ := hS; go_simp; with_reducible rfl)); simp only [Act.put, List.setIfInBounds_toArray, List.set_cons_zero, List.set_cons_succ])
                      have hsc := scanA_any K11 HM8.out.2.2
                      have HSC := Lib.hid hsc
                      clear hsc K11
                      refine Pt.run_go ?_
                      go_wp2_with fail
                      refine HSC.out.mono ?_
                      rintro e w11 ⟨A6, n6, c6, p6, M10, rfl, hM10, hpa6, hpe6, K12⟩
                      go_wp2_with fail
                      refine Pt.same ⟨K12.rest.cell 1 rfl 0, K12.rest.cell 0 rfl 0⟩ ?_
                      have hps : PasAt M10 A3 n3 c3 ps3 := HM5.out.1.1.le (HM9.out.2.1.trans hM10)
                      have hsm := ksame_any K12 hpa6 hps (by have h1 := hpa6.1; have h2 := congrArg List.length hpe6; have h3 := HM9.out.2.2; rw [List.length_map] at h2; omega)
                      rw [hpe6, HM5.out.1.2.1, ← HB.out.2] at hsm
                      have HSM := Lib.hid hsm
                      have HM10 := Lib.hid hM10
                      clear hsm hps hM10 hpa6 hpe6 K12 HSC
                      refine Pt.run_go ?_
                      go_wp2_with fail
                      refine HSM.out.mono ?_
                      rintro e w12 ⟨rfl, K13⟩
                      clear HSM
                      go_wp2_with fail
                      refine Pt.same ⟨K13.rest.cell 1 rfl 0, K13.rest.cell 0 rfl 0⟩ ?_
                      iterate 2 (refine Pt.pr_run (v := ?_) (by rfl) ?_ ?_; rotate_left; (focus (intro w'; go_simp; with_reducible rfl)); simp only [Act.put, List.setIfInBounds_toArray, List.set_cons_zero, List.set_cons_succ])
                      refine Pt.run_fin ?_
                      go_wp2
                      go_meet
                      exact ⟨M10, by rw [HB3.out]; simp, HM9.out.1.trans HM10.out, K13⟩
                  case rest =>
                    obtain ⟨M9, rfl, hM9, K9⟩ := hcut
                    clear K8
                    cases b3 with
                    | true =>
                      have hbb := HB3.out
                      have hM69 := HM8.out.1.trans hM9
                      have H9 := K9.fs
                      rcases HOUT.out with ⟨D0, hx, hrel⟩ | ⟨hg, more, bb, h1, h2, h3, h4⟩
                      · rw [← HF3.out.1, HM8.out.2.1] at hx
                        injection hx with hx
                        subst hx
                        exfalso
                        rcases hrel with hr | hr
                        · have h5 := HB.out.1
                          rw [decide_eq_true (Kv.Rel.same HM8.out.2.2.rel hr)] at h5
                          rw [h5] at hbb
                          simp at hbb
                        · have h5 := HB.out.2
                          rw [decide_eq_true (Kv.Rel.same HM8.out.2.2.rel hr)] at h5
                          rw [h5] at hbb
                          simp at hbb
                      · have htn := Kv.torn_not (R := S.R) h2 h4
                        clear hbb K9
                        have hsl1 : RsIn M9 S [.slice A1 n1 c1, .slice A2 n2 c2, .int .u64 (S.gen : Int), .int .i64 (S.size : Int)] := ⟨A1, n1, c1, ps, A2, n2, c2, qs, rfl, RsIn_parts HK.out.2.2.2.2.2.2 (HM5.out.2.1.trans hM69)⟩
                        have hsl2 : RsIn M9 T [.slice A3 n3 c3, .slice A4 n4 c4, .int .u64 (T.gen : Int), .int .i64 (T.size : Int)] := ⟨A3, n3, c3, ps3, A4, n4, c4, qs4, rfl, RsIn_parts HM5.out.1 hM69⟩
                        have hto := torn_any H9 hsl1 hsl2 HF3.out.2.1 HF3.out.2.2.1 HF3.out.2.2.2.1 (Nat.le_trans HF3.out.2.2.2.2.1 (by decide)) (by rw [HF3.out.1]; exact hg) (by rw [HF3.out.1, h1]; exact htn.1) (by rw [HF3.out.1, h1, h3]; exact htn.2)
                        have r9 := (H9.rest.blk 1 rfl).range 0 4 _ rfl
                        have rN := (H9.rest.blk 0 rfl).range 0 4 _ rfl
                        have HTO := Lib.hid hto
                        have HR9 := Lib.hid (And.intro r9 rN)
                        clear hto r9 rN hsl1 hsl2 hg h1 h2 h3 h4 htn
                        go_wp2_with (first
                          | (refine wpList_load_mid (by rfl) 30 (.tmp 9) (by rfl) g9 0 (by rfl) [.slice A1 n1 c1, .slice A2 n2 c2, .int .u64 (S.gen : Int), .int .i64 (S.size : Int)] _ HR9.out.1 Tryz.underlying30 rfl (by exact Tryz.sizeState) ?_)
                          | (refine wpList_load_mid (by rfl) 30 (.tmp 15) (by rfl) gN 0 (by rfl) [.slice A3 n3 c3, .slice A4 n4 c4, .int .u64 (T.gen : Int), .int .i64 (T.size : Int)] _ HR9.out.2 Tryz.underlying30 rfl (by exact Tryz.sizeState) ?_))
                        refine HTO.out.mono ?_
                        rintro e wt ⟨Mt, rfl, hMt, Ht⟩
                        have HAW := Lib.hid (awake20_any Ht.rest)
                        clear HTO HR9 hMt
                        go_wp2_with fail
                        refine HAW.out.mono ?_
                        rintro e wt2 ⟨rfl, Ht2⟩
                        go_wp2
                        go_ret
                        exact ⟨rfl, Ht2.below⟩
                    | false =>
                      have hbe := beside_any K9 HM8.out.2.2
                      have HBE := Lib.hid hbe
                      clear hbe K9
                      go_wp2_with fail
                      refine HBE.out.mono ?_
                      rintro e w10 ⟨s3, g3, mb3, D3, Z3, M10, hM10, rfl, K10, hsi3, hback⟩
                      have hsc := scanA_any K10 hsi3
                      have HSC := Lib.hid hsc
                      have HBK := Lib.hid (And.intro hM10 hback)
                      clear hsc K10 hsi3 hM10 hback HBE
                      go_wp2_with fail
                      refine HSC.out.mono ?_
                      rintro e w11 ⟨A5, n5, c5, p5, M11, rfl, hM11, hpa5, hpe5, K11⟩
                      have Kk := HBK.out.2 _ _ (HBK.out.1.trans hM11) K11.fs
                      have hsc := scanA_any Kk HM8.out.2.2
                      have HSC2 := Lib.hid hsc
                      have HP5 := Lib.hid (And.intro hpa5 hpe5)
                      clear hsc Kk K11 hpa5 hpe5 hM11 HSC
                      go_wp2_with fail
                      refine HSC2.out.mono ?_
                      rintro e w12 ⟨A6, n6, c6, p6, M12, rfl, hM12, hpa6, hpe6, K12⟩
                      have hln : S2.L.length ≤ 400000 := HM8.out.2.2.asks.2.2.1
                      have hsm := ksame_any K12 (HP5.out.1.le hM12) hpa6 (by have h1 := HP5.out.1.1; have h2 := congrArg List.length HP5.out.2; rw [List.length_map] at h2; omega)
                      rw [HP5.out.2, hpe6, decide_eq_true rfl] at hsm
                      have HSM := Lib.hid hsm
                      clear hsm K12 hpa6 hpe6 hM12 hln HSC2
                      go_wp2_with fail
                      refine HSM.out.mono ?_
                      rintro e w13 ⟨rfl, K13⟩
                      have hsc := scanA_any K13 HM8.out.2.2
                      have HSC := Lib.hid hsc
                      clear hsc K13 HSM
                      go_wp2_with fail
                      refine HSC.out.mono ?_
                      rintro e w14 ⟨A7, n7, c7, p7, M14, rfl, hM14, hpa7, hpe7, K14⟩
                      have hn7 : n7 = S2.L.length := by have h1 := hpa7.1; have h2 := congrArg List.length hpe7; rw [List.length_map] at h2; omega
                      have HN7 := Lib.hid hn7
                      clear hn7 hpa7 hpe7 hM14 HSC
                      by_cases h0 : n7 = 0
                      · subst h0
                        have HAW := Lib.hid (awake20_any K14.rest)
                        clear K14
                        go_wp2_with fail
                        refine HAW.out.mono ?_
                        rintro e w15 ⟨rfl, H15⟩
                        go_wp2
                        go_ret
                        exact ⟨rfl, H15.below⟩
                      · have q7 : (0 : Int) < (n7 : Int) := by omega
                        have hsc := scanA_any K14 HM8.out.2.2
                        have HSC := Lib.hid hsc
                        have H0 := Lib.hid h0
                        clear hsc K14 h0
                        go_wp2_with fail
                        refine HSC.out.mono ?_
                        rintro e w15 ⟨A8, n8, c8, p8, M15, rfl, hM15, hpa8, hpe8, K15⟩
                        have hn8 : 0 < p8.length := by
                          have h2 := congrArg List.length hpe8
                          rw [List.length_map] at h2
                          have := HN7.out
                          have := H0.out
                          omega
                        have q8 : (0 : Int) < (n8 : Int) := by have := hpa8.1; omega
                        have q8n : 0 < n8 := by omega
                        obtain ⟨b, o, rfl, -⟩ := RA.pa2 (hpa8.2.2.2.2.now K15.rest) 0 hn8
                        obtain ⟨x0, -⟩ := cells_pa (SrA.of_in hpa8.2.2.2.2) hn8 (Mem.le.refl _) K15.rest rfl rfl
                        have hokp := HM8.out.2.2.asks.2.2.2.1 (Pa.pr p8[0]) (by rw [← hpe8]; exact List.mem_map.2 ⟨_, List.getElem_mem hn8, rfl⟩)
                        obtain ⟨key, hkey⟩ : ∃ key, key = p8[0].key := ⟨_, rfl⟩
                        have hdc := Kv.drop_code (S := S2) hokp
                        have hpk : (Pa.pr p8[0]).1 = key := hkey.symm
                        rw [hpk] at hdc
                        rw [← hkey] at x0
                        simp only [Nat.zero_mul, Nat.add_zero] at x0
                        obtain ⟨l1, hl1⟩ : ∃ l1 : List Ac, l1 = [⟨key, false, ⟨none, 0, 0, []⟩⟩] := ⟨_, rfl⟩
                        have hla : l1.map Ac.act = [⟨key, false, []⟩] := by rw [hl1]; rfl
                        obtain ⟨Z, h16, -, hb16⟩ := K15.out
                        have h17 := h16.new (acs l1) 50
                        have K17 := hb16 _ _ _ (Mem.le.refl _) h17
                        have hap := apply_any K17 HM8.out.2.2 (by rw [HF3.out.2.2.2.2.2.2.2.2]; decide) (A := some ⟨w15.heap.size, 0, none⟩) (c := 1) (n := 1) (l := l1) (by rw [hl1]; rfl) (fun w' M' hM H => (H.blk 0 rfl).ra 0 3 _ (by rw [hl1]; rfl)) (by
                          rw [hl1]
                          intro a ha
                          rw [List.mem_singleton.1 ha]
                          exact ⟨⟨rfl, fun _ => rfl, Nat.le_refl _⟩, fun W hW hl => absurd rfl hl⟩) (by decide)
                        rw [hla] at hap
                        unfold RetKApply at hap
                        obtain ⟨C2, hC2⟩ : ∃ C2, C2 = (S2.apply [⟨key, false, []⟩]).2 := ⟨_, rfl⟩
                        rw [← hC2] at hap hdc
                        rw [hl1] at hap
                        have HAP := Lib.hid hap
                        clear hap hC2 hla hl1 h16 h17 hb16 K15 K17 hpk hkey hokp hpa8 hpe8 hn8 hM15 HSC
                        go_wp2_with fail
                        refine HAP.out.mono ?_
                        rintro e w16 ⟨mbx, Dx, M16, hM16, rfl, hcase⟩
                        have hst : ∃ L', St w w16 M16 L' := by
                          rcases hcase with ⟨_, _, K⟩ | ⟨_, _, _, _, K⟩ | ⟨_, _, _, _, _, K⟩
                          · exact ⟨_, K.rest⟩
                          · exact ⟨_, K.rest⟩
                          · exact ⟨_, K.rest⟩
                        obtain ⟨L', hst⟩ := hst
                        have HAW := Lib.hid (awake20_any hst)
                        clear hcase hst HAP hM16 x0
                        rcases hdc with rfl | rfl
                        all_goals
                          go_wp2_with fail
                          refine HAW.out.mono ?_
                          rintro e w17 ⟨rfl, H17⟩
                          go_wp2
                          go_ret
                          exact ⟨rfl, H17.below⟩
end
end Go.Proofs.YtpomjaidaignpaaGreat
