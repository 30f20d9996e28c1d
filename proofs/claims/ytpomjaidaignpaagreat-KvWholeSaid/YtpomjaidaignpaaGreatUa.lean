/- KvActs walked. -/
import Derived.Test.YtpomjaidaignpaaGreatY9
import Derived.Test.YtpomjaidaignpaaGreatA9
set_option linter.unusedVariables false
set_option linter.unusedSimpArgs false
namespace Go.Proofs.YtpomjaidaignpaaGreat
open Go.RowKit Wd
/-- A batch among others: a slice of acts. -/
structure Bt where
  A : Option Addr
  n : Nat
  c : Nat
  l : List Ac
def Bt.v (t : Bt) : Value := .slice t.A t.n t.c
def BtIn (M : Mem) (t : Bt) : Prop := t.n = t.l.length ∧ In M (RA · t.A (acs t.l)) ∧ AcIn M t.l
theorem BtIn.le {M M' : Mem} {t : Bt} (h : BtIn M t) (hm : M.le M') : BtIn M' t := ⟨h.1, h.2.1.le hm, h.2.2.le hm⟩
/-- What the document's Apply asks of a state. -/
theorem Kv.SI.asks {F : FM} {gen en : Nat} {ls : List (List UInt8)} {D : List Kv.Pr} {S : Kv.RS} (h : Kv.SI F gen ls en D S) :
    S.gen < 18446744073709551616 ∧ S.size ≤ 8192 ∧ S.L.length ≤ 400000 ∧ (∀ p ∈ S.L, Kv.okP p) ∧ (∀ r ∈ S.R, r.length ≤ 65535) ∧ S.R.length ≤ 10000 ∧ ∀ l, Kv.check l = 0 → ∀ p ∈ Kv.turn S.L l, Kv.okP p := by
  have h1 := h.gen_lt
  have h2 := h.small
  have h3 := h.ok
  have h4 := h.rel.2
  have h5 := h.longs
  refine ⟨by rw [h.G]; exact h1, by rw [h.Z]; omega, by rw [h4.length_eq]; omega, fun p hp => h3.1 p (h4.mem_iff.1 hp), fun r hr => (h5 r (by rw [← h.R]; exact hr)).2, by rw [h.R]; omega, fun l hc p hp => Kv.turn_okP h hc p hp⟩
theorem RsIn_parts {M M' : Mem} {S : Kv.RS} {A1 : Option Addr} {n1 c1 : Nat} {ps : List Pa} {A2 : Option Addr} {n2 c2 : Nat} {qs : List Pc} (h : PasAt M A1 n1 c1 ps ∧ ps.map Pa.pr = S.L ∧ RowsAt M A2 n2 c2 qs S.R) (hm : M.le M') : PasAt M' A1 n1 c1 ps ∧ ps.map Pa.pr = S.L ∧ RowsAt M' A2 n2 c2 qs S.R := ⟨h.1.le hm, h.2.1, h.2.2.le hm⟩
section
set_option maxRecDepth 100000 in
set_option maxHeartbeats 8000000 in
theorem kvActs_any {w : World} {A : Option Addr} {c n : Nat} {b : List UInt8} (hn : n = b.length) (hb : RB w A b) (hc : n ≤ c) (hc2 : c ≤ 9223372036854775807) {B : Option Addr} {d m : Nat} {bs : List Bt} (hm : m = bs.length) (hB : RA w B (bs.map Bt.v))
    (hbs : ∀ t ∈ bs, t.n = t.l.length ∧ RA w t.A (acs t.l) ∧ ∀ a ∈ t.l, a.p.ok ∧ RB w a.p.A a.p.l) (key : List UInt8) :
    Calls Tryz.prog 4 #[.slice A n c, .slice B m d, .string (str key)] w fun e w' => e = .returned (.bool true) ∧ Below w.heap.size w w' := by
  have H := St.start w
  have hb' := In.oldRB H hb
  have hB' := In.oldRA H hB
  have hbs' : ∀ t ∈ bs, BtIn _ t := fun t ht => ⟨(hbs t ht).1, In.oldRA H (hbs t ht).2.1, fun a ha => ⟨((hbs t ht).2.2 a ha).1, In.oldRB H ((hbs t ht).2.2 a ha).2⟩⟩
  obtain ⟨M, H, hb', hB', hbs'⟩ : ∃ M, St w w M [] ∧ In M (RB · A b) ∧ In M (RA · B (bs.map Bt.v)) ∧ ∀ t ∈ bs, BtIn M t := ⟨_, H, hb', hB', hbs'⟩
  have HH := Lib.hid (And.intro hn (And.intro hb' (And.intro hc (And.intro hc2 (And.intro hm (And.intro hB' hbs'))))))
  obtain ⟨q, hq⟩ : ∃ q, q = n % 64 := ⟨_, rfl⟩
  have ez1 : (n : Int) % 64 = (q : Int) := by omega
  have ez2 : (n : Int).tmod 64 = (q : Int) := by rw [Int.tmod_eq_emod_of_nonneg (by omega)]; exact ez1
  have hq64 : q < 64 := by omega
  have ez3 : IntKind.i64.wrap (q : Int) = (q : Int) := by rw [IntKind.wrap_i64]; omega
  have HQ := Lib.hid hq
  have HAW := Lib.hid (awake20_any H)
  clear hn hb hc hc2 hm hB hbs hb' hB' hbs' hq
  by_cases hgood : q = 0 ∧ 384 ≤ n ∧ n ≤ 4096
  · obtain ⟨rfl, h384, h4096⟩ := hgood
    obtain ⟨nb, hnb⟩ : ∃ nb, nb = n / 64 := ⟨_, rfl⟩
    have hop := lopen_any H (A := A) (c := c) (n := n) (nb := nb) (b := b) HH.out.1 (by have := HQ.out; omega) (by omega) (by omega) HH.out.2.1 HH.out.2.2.1 HH.out.2.2.2.1
    have HOP := Lib.hid hop
    have q1 : ¬ (n : Int) < 384 := by omega
    have q2 : ¬ (4096 : Int) < (n : Int) := by omega
    clear hop hnb h384 h4096 hq64
    go_enter Tryz.func4, Tryz.ntmps4
    go_wp2_with fail
    refine HOP.out.mono ?_
    rintro e w1 ⟨f, M1, hM1, (⟨hx, rfl, H1⟩ | ⟨S, cs, s, g, mb, D, gen, ls, en, hx, rfl, hrs, hsi, K1⟩)⟩
    · have HAW1 := Lib.hid (awake20_any (H1.rest.new rs0 30))
      unfold rs0
      clear HOP HAW
      go_wp2_with fail
      refine HAW1.out.mono ?_
      rintro e w2 ⟨rfl, H2⟩
      go_wp2
      go_ret
      exact ⟨rfl, H2.below⟩
    · obtain ⟨A1, n1, c1, ps, A2, n2, c2, qs, rfl, hrr⟩ := hrs
      obtain ⟨Z, h, -, hbk⟩ := K1.out
      have K2 := hbk _ _ _ (Mem.le.refl _) (h.new [.slice A1 n1 c1, .slice A2 n2 c2, .int .u64 (S.gen : Int), .int .i64 (S.size : Int)] 30)
      have HM1 := Lib.hid hM1
      have hrs : RsIn M1 S [.slice A1 n1 c1, .slice A2 n2 c2, .int .u64 (S.gen : Int), .int .i64 (S.size : Int)] := ⟨A1, n1, c1, ps, A2, n2, c2, qs, rfl, hrr⟩
      have hcalm := Calm.load b
      clear hbk h K1 HOP hx hrr HAW hM1
      go_wp2_with fail
      generalize World.alloc _ _ = w2 at *
      generalize w1.heap.size = g9 at *
      go_loopw [11] (fun i wr => ∃ (k : Nat) (S : Kv.RS) (cs : List Value) (mb : Nat) (F : FM) (gen : Nat) (ls : List (List UInt8)) (en : Nat) (D : List Pa) (M' : Mem), k ≤ m ∧ k ≤ 30 ∧ i = .int .i64 k ∧ M1.le M' ∧ RsIn M' S cs ∧ Kv.SI F gen ls en (D.map Pa.pr) S ∧ Calm F ∧ KS w wr M' s g f mb F gen ls en D [eb g9 30 cs]) (fun i _ => m - (intOf i).toNat)
      case atStart => exact ⟨0, S, _, mb, _, gen, ls, en, D, M1, by omega, by omega, rfl, Mem.le.refl _, hrs, hsi, hcalm, K2⟩
      case round =>
        clear hrs hsi hcalm K2 H
        obtain ⟨k, S, cs, mb, F, gen, ls, en, D, M', hk, hk30, rfl, hM, hrs, hsi, hcalm, K3⟩ := hrel
        obtain ⟨A1, n1, c1, ps, A2, n2, c2, qs, rfl, hrr⟩ := hrs
        by_cases hlt : k < m ∧ k < 30
        · obtain ⟨hlt, hlt30⟩ := hlt
          have hk1 : k < bs.length := by have := HH.out.2.2.2.2.1; omega
          have hMM := HM1.out.trans hM
          obtain ⟨b2, o2, rfl, -⟩ := SrA.at ((HH.out.2.2.2.2.2.1.le hMM).now K3.rest) k (by rw [List.length_map]; exact hk1)
          have kc : ∀ W M2 L2, M.le M2 → St w W M2 L2 → W.cell? ⟨b2, o2 + k, none⟩ = some (Bt.v bs[k]) := fun W M2 L2 hM2 hW => by
            obtain ⟨b3, o3, he, hc3⟩ := SrA.at ((HH.out.2.2.2.2.2.1.le hM2).now hW) k (by rw [List.length_map]; exact hk1)
            injection he with he
            injection he with e1 e2
            subst e1 e2
            rw [List.getElem_map] at hc3
            exact hc3
          have hbt := HH.out.2.2.2.2.2.2 _ (List.getElem_mem hk1)
          obtain ⟨t, ht⟩ : ∃ t, t = bs[k] := ⟨_, rfl⟩
          rw [← ht] at hbt
          simp only [← ht] at kc
          obtain ⟨TA, tn, tc, tl⟩ := t
          unfold Bt.v at kc
          simp only at kc
          have HT := Lib.hid hbt
          have KC := Lib.hid kc
          obtain ⟨Z, h3, hb3, -⟩ := K3.out
          have hsm := small_any h3 (A := TA) (c := tc) (n := tn) (l := tl) hbt.1 (SrA.of_in (hbt.2.1.le hMM)) (fun a ha => (hbt.2.2 a ha).1.1)
          have HSM := Lib.hid hsm
          have HB3 := Lib.hid hb3
          have HK := Lib.hid (And.intro hlt (And.intro hlt30 (And.intro hM (And.intro hMM (And.intro hsi (And.intro hcalm hrr))))))
          have q3 : (k : Int) < (m : Int) := by omega
          have q4 : (k : Int) < 30 := by omega
          have cc := kc _ M' _ hMM h3
          clear hsm hb3 kc hbt ht hk1 hlt hlt30 hM hMM hsi hcalm hrr hk hk30 h3
          go_wp2_with fail
          refine HSM.out.mono ?_
          rintro e w3 ⟨bsm, rfl, hsl, h4⟩
          cases bsm with
          | false =>
            have HAW := Lib.hid (awake20_any h4)
            clear HSM cc hsl
            go_wp2_with fail
            refine HAW.out.mono ?_
            rintro e w4 ⟨rfl, H5⟩
            go_wp2
            go_ret
            exact ⟨rfl, H5.below⟩
          | true =>
            obtain ⟨hn3, hslim⟩ := hsl rfl
            have HSL := Lib.hid (And.intro hn3 hslim)
            have K4 := HB3.out _ _ (Mem.le.refl _) h4
            clear HSM HB3 hsl hn3 hslim h4 cc K3
            go_wp2_with fail
            refine Pt.wp_plan (fun w' => Blk w' g9 30 [.slice A1 n1 c1, .slice A2 n2 c2, .int .u64 (S.gen : Int), .int .i64 (S.size : Int)] ∧ w'.cell? ⟨b2, o2 + k, none⟩ = some (.slice TA tn tc)) (Pt.prs [1, 2, 3] (Pt.rds [0, 4] (.go 5 (Pt.prs [6, 7, 8] (.st 9 (Pt.prs [10] .fin)))))) [9] Tryz.mixed (by kernel_rfl) (fun _ _ d _ _ h => by cases d <;> exact h) ⟨K4.drew.rest.blk 0 rfl, KC.out _ M' _ HK.out.2.2.2.1 K4.drew.rest⟩ ?_
            have K5 := K4.drew
            clear K4
            simp only [Pt.toL, Pt.rds, Pt.prs, Pt.at_, List.drop_succ_cons, List.drop_zero]
            iterate 3 (refine Pt.pr_run (v := ?_) (by rfl) ?_ ?_; rotate_left; (focus (intro w'; go_simp; with_reducible rfl)); simp only [Act.put, List.setIfInBounds_toArray, List.set_cons_zero, List.set_cons_succ])
            refine Pt.rd_load (by rfl) 30 (.tmp 9) (by rfl) g9 0 (by rfl) [.slice A1 n1 c1, .slice A2 n2 c2, .int .u64 (S.gen : Int), .int .i64 (S.size : Int)] _ (fun w' h => h.1.range 0 4 _ rfl) Tryz.underlying30 rfl (by exact Tryz.sizeState) ?_
            simp only [Act.put, List.setIfInBounds_toArray, List.set_cons_zero, List.set_cons_succ]
            (refine Pt.rd_run (v := ?_) (by rfl) ?_ ?_; rotate_left; (focus (intro w' hS; obtain ⟨-, s1⟩ := hS; go_simp; with_reducible rfl)); simp only [Act.put, List.setIfInBounds_toArray, List.set_cons_zero, List.set_cons_succ])
            obtain ⟨as1, as2, as3, as4, as5, as6, as7⟩ := HK.out.2.2.2.2.1.asks
            have hrs : RsIn M' S [.slice A1 n1 c1, .slice A2 n2 c2, .int .u64 (S.gen : Int), .int .i64 (S.size : Int)] := ⟨A1, n1, c1, ps, A2, n2, c2, qs, rfl, HK.out.2.2.2.2.2.2⟩
            obtain ⟨Z5, h5, hb5, -⟩ := K5.out
            have hap := rapply20_any h5 hrs as1 as2 as3 as4 as5 as6 (B := TA) (d := tc) (m := tn) (acts := tl) HT.out.1 (SrA.of_in (HT.out.2.1.le HK.out.2.2.2.1)) (HT.out.2.2.le HK.out.2.2.2.1) (by have := HSL.out.1; omega) (fun a ha => by have := HSL.out.2 a ha; omega) (as7 _)
            have HAP := Lib.hid hap
            have HB5 := Lib.hid hb5
            clear hap hb5 as1 as2 as3 as4 as5 as6 as7 hrs h5 K5
            refine Pt.run_go ?_
            go_wp2_with fail
            refine HAP.out.mono ?_
            rintro e w5 ⟨cs5, M5, rfl, hM5, hrs5, h6⟩
            obtain ⟨T, hT⟩ : ∃ T, T = (S.apply (tl.map Ac.act)).1 := ⟨_, rfl⟩
            obtain ⟨C, hC⟩ : ∃ C, C = (S.apply (tl.map Ac.act)).2 := ⟨_, rfl⟩
            rw [← hT] at hrs5
            rw [← hC]
            obtain ⟨A3, n3, c3, ps3, A4, n4, c4, qs4, rfl, hrr5⟩ := hrs5
            have K6 := HB5.out _ _ hM5 h6
            have HM5 := Lib.hid (And.intro hM5 (And.intro hrr5 (And.intro hT hC)))
            have hM5' := HK.out.2.2.2.1.trans hM5
            clear h6 HB5 HAP hrr5 hT hC hM5
            go_wp2_with fail
            refine Pt.same ⟨K6.rest.blk 0 rfl, KC.out _ M5 _ hM5' K6.rest⟩ ?_
            iterate 3 (refine Pt.pr_run (v := ?_) (by rfl) ?_ ?_; rotate_left; (focus (intro w'; go_simp; with_reducible rfl)); simp only [Act.put, List.setIfInBounds_toArray, List.set_cons_zero, List.set_cons_succ])
            obtain ⟨Z6, h7, hb7⟩ := K6.out1
            refine Pt.run_st ?_
            refine wpList_store_st h7 (by rfl) 30 (.tmp 9) (.tmp 71) (by rfl) 0 [.slice A3 n3 c3, .slice A4 n4 c4, .int .u64 (T.gen : Int), .int .i64 (T.size : Int)] (by rfl) (by rfl) (by simp) (by exact Tryz.sizeState) (by simp [Value.oneCell']) ?_
            intro w6 h8
            rw [ins_all [.slice A1 n1 c1, .slice A2 n2 c2, .int .u64 (S.gen : Int), .int .i64 (S.size : Int)] [.slice A3 n3 c3, .slice A4 n4 c4, .int .u64 (T.gen : Int), .int .i64 (T.size : Int)] rfl] at h8
            have K7 := hb7 _ _ _ (Mem.le.refl _) h8
            refine wpList_nil ?_
            simp only [Pl.Then, Act.put, List.setIfInBounds_toArray, List.set_cons_zero, List.set_cons_succ]
            (refine Pt.pr_run (v := ?_) (by rfl) ?_ ?_; rotate_left; (focus (intro w'; go_simp; with_reducible rfl)); simp only [Act.put, List.setIfInBounds_toArray, List.set_cons_zero, List.set_cons_succ])
            refine Pt.run_fin ?_
            have HM5' := Lib.hid hM5'
            have cc := KC.out _ M5 _ hM5' K7.rest
            have hap := apply_calm (c := tc) (A := TA) (n := tn) (l := tl) K7 HK.out.2.2.2.2.1 HK.out.2.2.2.2.2.1 HT.out.1 (SrA.of_in (HT.out.2.1.le hM5')) (HT.out.2.2.le hM5') (by have := HSL.out.1; omega)
            unfold RetCalm at hap
            rw [← HM5.out.2.2.1, ← HM5.out.2.2.2] at hap
            have HAP := Lib.hid hap
            clear hap hM5' h7 hb7 h8 K6 K7
            go_wp2_with fail
            refine HAP.out.mono ?_
            rintro e w7 ⟨mb8, F8, gen8, ls8, en8, D8, M8, hM8, rfl, K8, hsi8, hcalm8⟩
            have hrs8 : RsIn M8 T [.slice A3 n3 c3, .slice A4 n4 c4, .int .u64 (T.gen : Int), .int .i64 (T.size : Int)] := ⟨A3, n3, c3, ps3, A4, n4, c4, qs4, rfl, (RsIn_parts HM5.out.2.1 hM8)⟩
            have hli := like_any K8 hsi8 hrs8 key
            have hr9 : w7.rangeAt g9 0 [.slice A3 n3 c3, .slice A4 n4 c4, .int .u64 (T.gen : Int), .int .i64 (T.size : Int)] := (K8.rest.blk 0 rfl).range 0 4 _ rfl
            have HLI := Lib.hid hli
            have HR9 := Lib.hid hr9
            have H8 := Lib.hid (And.intro hM8 (And.intro hsi8 (And.intro hcalm8 hrs8)))
            clear hli hr9 hM8 hsi8 hcalm8 hrs8 HAP cc K8
            go_wp2_with (refine wpList_load_g (by rfl) 30 (.tmp 9) (by rfl) g9 0 (by rfl) [.slice A3 n3 c3, .slice A4 n4 c4, .int .u64 (T.gen : Int), .int .i64 (T.size : Int)] _ HR9.out Tryz.underlying30 rfl (by exact Tryz.sizeState) ?_)
            refine HLI.out.mono ?_
            rintro e w8 ⟨M9, rfl, hM9, K9⟩
            have HM9 := Lib.hid (HK.out.2.2.1.trans (HM5.out.1.trans (H8.out.1.trans hM9)))
            have HMl := Lib.hid hM9
            obtain ⟨r4, hr4⟩ : ∃ r4, r4 = k % 4 := ⟨_, rfl⟩
            have ea : (k : Int) % 4 = (r4 : Int) := by omega
            have eb : (k : Int).tmod 4 = (r4 : Int) := by rw [Int.tmod_eq_emod_of_nonneg (by omega)]; exact ea
            have ec : IntKind.i64.wrap (r4 : Int) = (r4 : Int) := by rw [IntKind.wrap_i64]; omega
            clear HLI HR9 hr4 hM9
            by_cases h40 : r4 = 0
            · subst h40
              have hbe := beside_any K9 H8.out.2.1
              have HBE := Lib.hid hbe
              clear hbe K9
              go_wp2_with fail
              refine HBE.out.mono ?_
              rintro e w9 ⟨s2, g2, mb2, D2, Z2, M10, hM10, rfl, K10, hsi2, hback⟩
              have hrg := ((hback _ _ hM10 K10.fs).rest.blk 0 rfl).range 0 4 _ rfl
              have hli := like_any K10 hsi2 (H8.out.2.2.2.le (HMl.out.trans hM10)) key
              have HRG := Lib.hid hrg
              have HLI := Lib.hid hli
              have HBK := Lib.hid (And.intro hM10 hback)
              clear hrg hli hM10 hback hsi2 HBE K10
              go_wp2_with (refine wpList_load_g (by rfl) 30 (.tmp 9) (by rfl) g9 0 (by rfl) [.slice A3 n3 c3, .slice A4 n4 c4, .int .u64 (T.gen : Int), .int .i64 (T.size : Int)] _ HRG.out Tryz.underlying30 rfl (by exact Tryz.sizeState) ?_)
              refine HLI.out.mono ?_
              rintro e w10 ⟨M11, rfl, hM11, K11⟩
              have K12 := HBK.out.2 _ _ (HBK.out.1.trans hM11) K11.fs
              have HM11 := Lib.hid hM11
              clear HRG HLI K11 hM11 ea eb ec
              go_wp2
              exact ⟨⟨k + 1, T, _, mb8, F8, gen8, ls8, en8, D8, M11, by have := HK.out.1; omega, by have := HK.out.2.1; omega, by go_num, HM9.out.trans (HBK.out.1.trans HM11.out), H8.out.2.2.2.le (HMl.out.trans (HBK.out.1.trans HM11.out)), H8.out.2.1, H8.out.2.2.1, K12⟩, by have := HK.out.1; simp [intOf]; omega⟩
            · have q5 : ¬ (r4 : Int) = 0 := by omega
              go_wp2
              exact ⟨⟨k + 1, T, _, mb8, F8, gen8, ls8, en8, D8, M9, by have := HK.out.1; omega, by have := HK.out.2.1; omega, by go_num, HM9.out, H8.out.2.2.2.le HMl.out, H8.out.2.1, H8.out.2.2.1, K9⟩, by have := HK.out.1; simp [intOf]; omega⟩
        · have hrs : RsIn M' S [.slice A1 n1 c1, .slice A2 n2 c2, .int .u64 (S.gen : Int), .int .i64 (S.size : Int)] := ⟨A1, n1, c1, ps, A2, n2, c2, qs, rfl, hrr⟩
          have hli := like_any K3 hsi hrs key
          have hrg := (K3.rest.blk 0 rfl).range 0 4 _ rfl
          have HLI := Lib.hid hli
          have HRG := Lib.hid hrg
          have hx : ¬ (k : Int) < (m : Int) ∨ ((k : Int) < (m : Int) ∧ ¬ (k : Int) < 30) := by omega
          clear hli hrg hrs hrr hsi hcalm hM hlt hk hk30 K3
          rcases hx with q3 | ⟨q3, q4⟩
          all_goals
            go_wp2_with (refine wpList_load_mid (by rfl) 30 (.tmp 9) (by rfl) g9 0 (by rfl) [.slice A1 n1 c1, .slice A2 n2 c2, .int .u64 (S.gen : Int), .int .i64 (S.size : Int)] _ HRG.out Tryz.underlying30 rfl (by exact Tryz.sizeState) ?_)
            refine HLI.out.mono ?_
            rintro e w3 ⟨M3, rfl, hM3, K4⟩
            have HAW := Lib.hid (awake20_any K4.rest)
            clear HLI HRG K4
            go_wp2_with fail
            refine HAW.out.mono ?_
            rintro e w4 ⟨rfl, H5⟩
            go_wp2
            go_ret
            exact ⟨rfl, H5.below⟩
  · have hbad : (q : Int) ≠ 0 ∨ (q = 0 ∧ (n : Int) < 384) ∨ (q = 0 ∧ ¬ (n : Int) < 384 ∧ (4096 : Int) < (n : Int)) := by omega
    clear hgood hq64
    go_enter Tryz.func4, Tryz.ntmps4
    rcases hbad with q1 | ⟨rfl, q1⟩ | ⟨rfl, q1, q2⟩
    · have q3 : ¬ (q : Int) = 0 := q1
      go_wp2_with fail
      refine HAW.out.mono ?_
      rintro e w1 ⟨rfl, H1⟩
      go_wp2
      go_ret
      exact ⟨rfl, H1.below⟩
    · go_wp2_with fail
      refine HAW.out.mono ?_
      rintro e w1 ⟨rfl, H1⟩
      go_wp2
      go_ret
      exact ⟨rfl, H1.below⟩
    · go_wp2_with fail
      refine HAW.out.mono ?_
      rintro e w1 ⟨rfl, H1⟩
      go_wp2
      go_ret
      exact ⟨rfl, H1.below⟩
end
end Go.Proofs.YtpomjaidaignpaaGreat
