/- The document's Begin and Lies; the law's torn. -/
import Derived.Test.YtpomjaidaignpaaGreatP6
import Derived.Test.YtpomjaidaignpaaGreatG5
set_option linter.unusedVariables false
set_option linter.unusedSimpArgs false
namespace Go.Proofs.YtpomjaidaignpaaGreat
open Go.RowKit Wd
theorem Tryz.szB : ∀ w, (Go.sizeOf 33).run Tryz.prog w = .ok 1 w := fun w => by go_simp
section
variable {w0 w : World} {M : Mem} {L : List Ent}
set_option maxRecDepth 100000 in
theorem rbegin_any (H : St w0 w M L) {A B : Option Addr} {c d n m : Nat} {ps qs : List Pc} {x y : List (List UInt8)} (hx : RowsAt M A n c ps x) (hy : RowsAt M B m d qs y) (hn2 : n ≤ 1000000) (hno : ¬ Kv.Begins x y) :
    Calls Tryz.prog 40 #[.slice A n c, .slice B m d] w fun e w' => e = .returned (.bool false) ∧ St w0 w' M L := by
  have hlx := hx.2.2.2.1.len
  have hly := hy.2.2.2.1.len
  have hnx := hx.1
  have hny := hy.1
  by_cases hle : n ≤ m
  · have q1 : (n : Int) ≤ (m : Int) := by omega
    have hs1 : ∀ W, (Instr.slice 27 (.slice B m d) none (some (.int .i64 (n : Int))) none).run Tryz.prog W = .ok (.slice B n d) W := fun W => slK_h W Tryz.underlying27 Tryz.szB B m d n (by have := hy.2.1; omega)
    have hra : In M (RA · B ((qs.take n).map Pc.v)) := hy.2.2.2.2.imp fun W hW => by rw [List.map_take]; exact RA.takeS hW n
    have hsm := rsame_any H (A := A) (B := B) (c := c) (d := d) (n := n) (m := n) (ps := ps) (qs := qs.take n) hx.1 (by rw [List.length_take]; omega) (SrA.of_in hx.2.2.2.2) (SrA.of_in hra) (fun p hp => ⟨(hx.2.2.2.1.2 p hp).1, Sr.of_in (hx.2.2.2.1.2 p hp).2⟩) (fun p hp => ⟨(hy.2.2.2.1.2 p (List.mem_of_mem_take hp)).1, Sr.of_in (hy.2.2.2.1.2 p (List.mem_of_mem_take hp)).2⟩) (by omega)
    have hdf : decide (ps.map Pc.l = (qs.take n).map Pc.l) = false := by
      refine decide_eq_false fun he => hno ⟨by omega, ?_⟩
      rw [hx.2.2.2.1.1, List.map_take, hy.2.2.2.1.1] at he
      rw [he, List.length_take, Nat.min_eq_left (by omega)]
    rw [hdf] at hsm
    have HSM := Lib.hid hsm
    clear hsm hdf hra hlx hly hnx hny hno hx hy
    go_enter Tryz.func40, Tryz.ntmps40
    go_wp2_with fail
    refine HSM.out.mono ?_
    rintro e w1 ⟨rfl, H1⟩
    go_wp2
    go_ret
    exact ⟨rfl, H1⟩
  · have q1 : ¬ (n : Int) ≤ (m : Int) := by omega
    clear hlx hly hnx hny hno hx hy
    go_enter Tryz.func40, Tryz.ntmps40
    go_wp2
    go_ret
    exact ⟨rfl, H⟩
/-- What Lies gives: the records of a file's bytes, and its generation. -/
def RetLies (w0 : World) (M : Mem) (L : List Ent) (b : List UInt8) (e : Ending) (w' : World) : Prop :=
  ∃ A n c ps M', e = .returned (.tuple #[.slice A n c, .int .u64 (Lg.generation b : Int)]) ∧ M.le M' ∧ RowsAt M' A n c ps (Kv.recsL b) ∧ St w0 w' M' L
set_option maxRecDepth 100000 in
set_option maxHeartbeats 1000000 in
theorem rlies_any (H : St w0 w M L) {A : Option Addr} {c n nb : Nat} {b : List UInt8} (hn : n = b.length) (hnb : n = 64 * nb) (h6 : 6 ≤ nb) (h128 : nb ≤ 128) (hl : In M (RB · A b)) (hc : n ≤ c) (hc2 : c ≤ 9223372036854775807) :
    Calls Tryz.prog 38 #[.slice A n c] w (RetLies w0 M L b) := by
  obtain ⟨bb, bo, rfl, -, -⟩ := hl.now H (by rintro rfl; simp at hn; omega)
  have hg := rgeneration_any H hn (Sr.of_in hl) (by omega) hc hc2
  unfold RetLies Kv.recsL
  obtain ⟨G, hG⟩ : ∃ G, G = Lg.generation b := ⟨_, rfl⟩
  have hGl : G < 18446744073709551616 := by rw [hG]; exact Lg.generation_lt _
  rw [← hG] at hg ⊢
  obtain ⟨h, hh⟩ : ∃ h, h = Lg.half b G := ⟨_, rfl⟩
  have hhl : h.length = 64 * Lg.halfN nb := by rw [hh]; exact Lg.half_len (by omega) (by omega)
  obtain ⟨N, hN⟩ : ∃ N, N = 64 * Lg.halfN nb := ⟨_, rfl⟩
  obtain ⟨fr, hfr⟩ : ∃ fr, fr = 64 * Lg.halfFrom nb G := ⟨_, rfl⟩
  have hfn : fr + N ≤ n := by
    have := Lg.half_le nb G (by omega)
    omega
  have hhe : h = (b.drop fr).take N := by
    rw [hh, hN, hfr]
    unfold Lg.half
    rw [← hn, hnb, Nat.mul_div_cancel_left _ (by decide)]
  have hhf := fun w => rhalf_any bb bo n c nb G hnb h6 (by omega) hc hc2 hGl w
  rw [← hN, ← hfr] at hhf
  have hsr : In M (RB · (some ⟨bb, bo + fr, none⟩) h) := hl.imp fun W hW => by rw [hhe]; exact hW.sub
  have hN2 : N ≤ 8192 := by rw [hN]; unfold Lg.halfN; omega
  rw [← hN] at hhl
  have hrr := fun w (H : St w0 w M L) => rrecords_any H G hGl (A := some ⟨bb, bo + fr, none⟩) (c := c - fr) (n := N) (h := h) hhl.symm (Sr.of_in hsr) (by rintro ⟨⟩) (by omega) (by omega) (by omega)
  rw [← hh]
  obtain ⟨R, hR⟩ : ∃ R, R = (Lg.records G h).1 := ⟨_, rfl⟩
  obtain ⟨E, hE⟩ : ∃ E, E = (Lg.records G h).2 := ⟨_, rfl⟩
  rw [← hR, ← hE] at hrr
  rw [← hR]
  have HGN := Lib.hid hg
  have HHF := Lib.hid hhf
  have HRR := Lib.hid hrr
  have q1 : ¬ (n : Int) < 384 := by omega
  clear hg hhf hhl hsr hN2 hGl hhe hfn hfr hN hh hG hn hnb h6 h128 hl hc hc2 hrr hR hE H
  go_enter Tryz.func38, Tryz.ntmps38
  go_wp2_with fail
  refine HGN.out.mono ?_
  rintro e w1 ⟨rfl, H2⟩
  go_wp2_with fail
  refine (HHF.out _).mono ?_
  rintro e w2 ⟨rfl, rfl⟩
  go_wp2_with fail
  refine (HRR.out _ H2).mono ?_
  rintro e w3 ⟨v3, qs, M3, rfl, hM3, hrow, H5⟩
  obtain ⟨B, d, rfl, hd, hB⟩ := H5.shape' 0 rfl
  obtain ⟨M4, hM4, H6, hinq, -⟩ := H5.lendRowA
  have hX : M.le M4 ∧ RowsAt M4 B qs.length d qs R := ⟨hM3.trans hM4, rfl, hd, hB, hrow.le hM4, hinq⟩
  have HX := Lib.hid hX
  clear hX hM3 hrow H5 hd hB hM4 hinq HRR HHF HGN H2
  go_wp2
  go_ret2
  exact ⟨B, qs.length, d, qs, M4, rfl, HX.out.1, HX.out.2, H6⟩
def RetTorn (w0 : World) (M : Mem) (f : Nat) (F : FM) (L : List Ent) (e : Ending) (w' : World) : Prop :=
  ∃ M', e = .returned (.bool true) ∧ M.le M' ∧ FS w0 w' M' f F L
set_option maxRecDepth 100000 in
set_option maxHeartbeats 2000000 in
theorem torn_any {f : Nat} {F : FM} (H : FS w0 w M f F L) {S N : Kv.RS} {cs cn : List Value} (hs : RsIn M S cs) (hN : RsIn M N cn) (h6 : 6 ≤ F.n) (h128 : F.n ≤ 128) (hlen : F.l.length = 64 * F.n) (hrn : (Kv.recsL F.l).length ≤ 1000000)
    (hg : Lg.generation F.l = S.gen) (h1 : ¬ Kv.Begins (Kv.recsL F.l) S.R) (h2 : ¬ Kv.Begins (Kv.recsL F.l) N.R) :
    Calls Tryz.prog 13 #[.pointer (some ⟨f, 0, none⟩), .agg cs.toArray, .agg cn.toArray] w (RetTorn w0 M f F L) := by
  obtain ⟨A1, n1, c1, ps1, B1, m1, d1, qs1, rfl, hp1, he1, hr1⟩ := hs
  obtain ⟨A2, n2, c2, ps2, B2, m2, d2, qs2, rfl, hp2, he2, hr2⟩ := hN
  have K1 := H.newg [.slice A1 n1 c1, .slice B1 m1 d1, .int .u64 (S.gen : Int), .int .i64 (S.size : Int)] 30 rfl
  have hsz : (w.alloc (.cells [.slice A1 n1 c1, .slice B1 m1 d1, .int .u64 (S.gen : Int), .int .i64 (S.size : Int)].toArray 30)).heap.size = w.heap.size + 1 := Array.size_push _
  have K2 := K1.newg [.slice A2 n2 c2, .slice B2 m2 d2, .int .u64 (N.gen : Int), .int .i64 (N.size : Int)] 30 (g := w.heap.size + 1) hsz.symm
  have HH := Lib.hid (And.intro hr1 (And.intro hr2 (And.intro h1 (And.intro h2 (And.intro hg (And.intro h6 (And.intro h128 (And.intro hlen hrn))))))))
  clear hp1 he1 hr1 hp2 he2 hr2 K1 hsz H h1 h2 hg h6 h128 hlen hrn
  go_enter Tryz.func13, Tryz.ntmps13
  go_wp2_with fail
  generalize World.alloc _ _ = w1 at *
  generalize w.heap.size = g1 at *
  refine (fs_dump K2).mono ?_
  rintro e w2 ⟨g0, c0, rfl, K3⟩
  obtain ⟨ok, lb, pv, h3⟩ := K3
  obtain ⟨A0, c9, hA0, hc9, _, hc92⟩ := h3.shape8 3 rfl
  injection hA0 with hA1 hA2 hA3
  subst hA1 hA3
  have h4 := h3.f3
  obtain ⟨M4, hM4, h5, hin4⟩ := h4.keepRow
  have HX := Lib.hid (And.intro hM4 ok)
  have hli := rlies_any h5 (A := some ⟨g0, 0, none⟩) (c := c0) (n := 64 * F.n) (nb := F.n) (b := F.l) HH.out.2.2.2.2.2.2.2.1.symm rfl HH.out.2.2.2.2.2.1 HH.out.2.2.2.2.2.2.1 hin4 hc9 hc92
  have HLI := Lib.hid hli
  clear hli hM4 hin4 h3 h4 h5 K2 ok hc9 hc92
  go_wp2_with fail
  refine HLI.out.mono ?_
  rintro e w3 ⟨A5, n5, c5, ps5, M5, rfl, hM5, hrow5, h6⟩
  rw [HH.out.2.2.2.2.1]
  have hm1 := HH.out.1.le (HX.out.1.trans hM5)
  have hm2 := HH.out.2.1.le (HX.out.1.trans hM5)
  have hn5 : n5 ≤ 1000000 := by
    have h7 := hrow5.1
    have h8 := hrow5.2.2.2.1.len
    have h9 := HH.out.2.2.2.2.2.2.2.2
    omega
  have hb1 := rbegin_any h6 hrow5 hm1 hn5 HH.out.2.2.1
  have HB1 := Lib.hid hb1
  have HY := Lib.hid (And.intro hM5 (And.intro hrow5 (And.intro hm2 hn5)))
  have K5 : FS w0 w3 M5 f F _ := ⟨HX.out.2, lb, pv, h6⟩
  have y1 := K5.cell 1 rfl 1
  have y2 := K5.cell 1 rfl 2
  simp only [List.getElem?_cons_succ, List.getElem?_cons_zero] at y1 y2
  clear hM5 hrow5 hm1 hm2 hn5 hb1 h6 HLI K5
  go_wp2_with fail
  refine HB1.out.mono ?_
  rintro e w4 ⟨rfl, h7⟩
  have hb2 := rbegin_any h7 HY.out.2.1 HY.out.2.2.1 HY.out.2.2.2 HH.out.2.2.2.1
  have HB2 := Lib.hid hb2
  have K6 : FS w0 w4 M5 f F _ := ⟨HX.out.2, lb, pv, h7⟩
  have y3 := K6.cell 0 rfl 1
  simp only [List.getElem?_cons_succ, List.getElem?_cons_zero] at y3
  clear hb2 h7 K6 HB1 y1 y2
  go_wp2_with fail
  refine HB2.out.mono ?_
  rintro e w5 ⟨rfl, h8⟩
  have K7 : FS w0 w5 M5 f F _ := ⟨HX.out.2, lb, pv, h8⟩
  clear h8 HB2 y3
  go_wp2
  go_ret
  exact ⟨M5, rfl, HX.out.1.trans HY.out.1, K7.drop.drop⟩
end
end Go.Proofs.YtpomjaidaignpaaGreat
