/- LogReads walked: the main way. -/
import Derived.Test.YtnaocjhhnlndmaaGu
import Derived.Test.YtnaocjhhnlndmaaGp
set_option linter.unusedVariables false
set_option linter.unusedSimpArgs false
namespace Go.Proofs.Ytnaocjhhnlndmaa
open Go.RowKit Wd
set_option maxRecDepth 100000 in
set_option maxHeartbeats 1000000 in
theorem logReads_main {w : World} {A : Option Addr} {c n : Nat} {b : List UInt8} (hb : RB w A b) (hn : n = b.length) (hA : A = none → c = 0) (hc : n ≤ c) (hc2 : c ≤ 140737488351232) (h0 : n % 64 = 0) (h1 : 384 ≤ n) (h2 : n ≤ 4096) :
    Calls Try.prog 4 #[.slice A n c] w fun e w' => e = .returned (.bool true) ∧ Below w.heap.size w w' := by
  have H := St.start w
  have s0 : Sr w _ [] A b := Sr.of_in (In.oldRB H hb)
  obtain ⟨bb, bo, rfl, -⟩ := hb (by rintro rfl; rw [hn] at h1; simp at h1)
  have H1 := H.lit0 5
  have r1 := s0.now (H.alloc (.cells #[] 5))
  obtain ⟨nb, hnb⟩ : ∃ nb, nb = n / 64 := ⟨_, rfl⟩
  have hn64 : n = 64 * nb := by omega
  have e1 : (n : Int) % 64 = 0 := by omega
  have e1' : (n : Int).tmod 64 = 0 := by rw [Int.tmod_eq_emod_of_nonneg (by omega)]; exact e1
  have q1 : ¬ (4096 : Int) < (n : Int) := by omega
  have q2 : ¬ (n : Int) < 384 := by omega
  have q3 : ¬ (262144 : Int) < (n : Int) := by omega
  obtain ⟨G, hG⟩ : ∃ G, G = Lg.generation b := ⟨_, rfl⟩
  have hGl : G < 18446744073709551616 := by rw [hG]; exact Lg.generation_lt _
  obtain ⟨hf, hhf⟩ : ∃ hf, hf = Lg.half b G := ⟨_, rfl⟩
  obtain ⟨N, hN⟩ : ∃ N, N = 64 * Lg.halfN nb := ⟨_, rfl⟩
  obtain ⟨fo, hfo⟩ : ∃ fo, fo = 64 * Lg.halfFrom nb G := ⟨_, rfl⟩
  have hle := Lg.half_le nb G (by omega)
  have hhe : hf = (b.drop fo).take N := by rw [hhf, hfo, hN]; unfold Lg.half; rw [← hn, ← hnb]
  have hfN : fo + N ≤ n := by rw [hfo, hN, hn64]; omega
  have hhl : hf.length = N := by rw [hhe, List.length_take, List.length_drop, ← hn]; omega
  have hN2 : N ≤ 4096 := by omega
  have hNlo : 128 ≤ N := by rw [hN]; unfold Lg.halfN; omega
  obtain ⟨R1, hR1⟩ : ∃ R, R = (Lg.records G hf).1 := ⟨_, rfl⟩
  obtain ⟨R2, hR2⟩ : ∃ R, R = (Lg.records G hf).2 := ⟨_, rfl⟩
  have hmany := Lg.scan_many G hf hf.length 0 (Nat.zero_le _)
  rw [show Lg.scan G hf hf.length 0 = Lg.records G hf from rfl, ← hR1, ← hR2, hhl] at hmany
  obtain ⟨m1, m2, m3⟩ := hmany
  have hrd := fun w' M' L' (H : St w w' M' L') A' c' (hl : Sr w M' L' A' b) (hc : n ≤ c') (hc2 : c' ≤ 9223372036854775807) => read_good H hn hl h0 h1 (by omega) hc hc2
  have hrd2 : ∀ w' M' L', ∀ e W, RetRead w' M' L' b e W → ∃ v ps M'', e = .returned (.tuple #[v, .int .u64 (G : Int), .int .i64 0]) ∧ M'.le M'' ∧ Rows M'' ps R1 ∧ St w' W M'' (er 22 1 v ps.length (ps.map Pc.v) :: L') := by
    intro w' M' L' e W h
    unfold RetRead at h
    rw [← hG, ← hhf, ← hR1] at h
    exact h
  have hgen := fun w' M' L' (H : St w w' M' L') (hl : Sr w M' L' (some ⟨bb, bo, none⟩) b) => rgeneration_any H (c := c) hn hl (by omega) hc (by omega)
  rw [← hG] at hgen
  have hhalf := fun w' => rhalf_any bb bo n c nb G hn64 (by omega) (by omega) hc (by omega) hGl w'
  rw [← hN, ← hfo] at hhalf
  have hrec := fun w' M' L' (H : St w w' M' L') (hl : Sr w M' L' (some ⟨bb, bo + fo, none⟩) hf) => rrecords_any H G hGl (c := c - fo) (n := N) hhl.symm hl (by rintro ⟨⟩) (by omega) (by omega) (by omega)
  rw [← hR1, ← hR2] at hrec
  have hld := fun w' M' L' (H : St w w' M' L') (hl : Sr w M' L' (some ⟨bb, bo, none⟩) b) => fs_load (c := c) H (hl.now H) (by omega) (by omega) (by omega) (by omega)
  rw [← hn] at hld
  obtain ⟨F, hF⟩ : ∃ F, F = FM.load b := ⟨_, rfl⟩
  rw [← hF] at hld
  have hFn : F.n = nb := by rw [hF, hnb, hn]; rfl
  have hFl : F.l = b := by rw [hF]; rfl
  have hFp : F.pend.length = 0 := by rw [hF]; rfl
  have hopen := fun w' M' L' f (H : FS w w' M' f F L') => open_any H (by omega)
  rw [hFl, ← hG, ← hhf, ← hR1, ← hR2] at hopen
  have hpend := fun w' M' L' f (H : FS w w' M' f F L') => fs_pending H
  rw [hFp] at hpend
  have hall := fun w' M' L' g f (H : LS w w' M' g f F G R1 R2 L') => all_any H (by omega) (fun l hl => by have := m3 l hl; omega)
  have hroom := fun w' M' L' g f (H : LS w w' M' g f F G R1 R2 L') => room_any H (by omega) (by omega) hGl (by omega)
  rw [hFn, ← hN] at hroom
  have hrroom := fun w' => rroom_any N R2 (by omega) (by omega) w'
  obtain ⟨RM, hRM⟩ : ∃ R, R = Lg.room N R2 := ⟨_, rfl⟩
  rw [← hRM] at hroom hrroom
  have hbn : n ≤ 4096 := by omega
  have HRD := Lib.hid hrd
  have HRD2 := Lib.hid hrd2
  have HGEN := Lib.hid hgen
  have HHALF := Lib.hid hhalf
  have HREC := Lib.hid hrec
  have HLD := Lib.hid hld
  have HOPEN := Lib.hid hopen
  have HPEND := Lib.hid hpend
  have HALL := Lib.hid hall
  have HROOM := Lib.hid hroom
  have HRROOM := Lib.hid hrroom
  have HN := Lib.hid hn
  have HHE := Lib.hid hhe
  have M1 := Lib.hid m1
  clear hrd hrd2 hgen hhalf hrec hld hopen hpend hall hroom hrroom hn hhe m1 m2 m3 hG hhf hN hfo hle hfN hhl hR1 hR2 hF hFn hFl hFp hRM hnb hn64 h0 h1 h2 hNlo
  go_enter Try.func4, Try.ntmps4
  go_wp2_with (at_builtin; refine wpList_append_st H1 (by rfl) (.tmp 22) (.tmp 23) 22 (by rfl) Try.info5 Try.underlying22 (by rfl) (some ⟨bb, bo, none⟩) n c b (by rfl) HN.out hA r1 (by omega) ?_)
  intro v2 w2 H2
  obtain ⟨A2, c2, rfl, hc2a, hA2, hc2b⟩ := H2.shape8 0 rfl
  go_wp2_with fail
  refine (HRD.out _ _ _ H2 _ _ (Sr.row 0 rfl) (by omega) hc2b).mono ?_
  intro e w3 hret
  obtain ⟨v3, ps, M3, rfl, hM3, hrow3, H3⟩ := HRD2.out _ _ _ _ _ hret
  obtain ⟨A3, c3, rfl, hc3, hA3⟩ := H3.shape' 0 rfl
  have HROW3 := Lib.hid hrow3
  have s3 := ((s0.le hM3).cons (er 5 1 (.slice A2 n c2) n (bv b))).cons (er 22 1 (.slice A3 ps.length c3) ps.length (ps.map Pc.v))
  clear hret hrow3 H1 H2 r1 HRD HRD2
  go_wp2_with fail
  refine (HGEN.out _ _ _ H3 s3).mono ?_
  rintro e w4 ⟨rfl, H4⟩
  clear H3
  go_wp2_with fail
  refine (HHALF.out _).mono ?_
  rintro e w5 ⟨rfl, rfl⟩
  have sh := s3.sub fo N
  rw [← HHE.out] at sh
  go_wp2_with fail
  refine (HREC.out _ _ _ H4 sh).mono ?_
  rintro e w5 ⟨v5, qs, M5, rfl, hM5, hrow5, H5⟩
  obtain ⟨A5, c5, rfl, hc5, hA5⟩ := H5.shape' 0 rfl
  have hnq : R1.length = qs.length := hrow5.len
  have hql : qs.length ≤ 4096 := by have := M1.out; omega
  have hpl : ps.length ≤ 4096 := by have h := HROW3.out.len; have := M1.out; omega
  have HNQ := Lib.hid hnq
  have hsame := rsame_any H5 (A := A3) (B := A5) (c := c3) (d := c5) (ps := ps) (qs := qs) rfl rfl (SrA.row 1 rfl) (SrA.row 0 rfl) (fun p hp => ⟨((HROW3.out.le hM5).2 p hp).1, Sr.of_in ((HROW3.out.le hM5).2 p hp).2⟩) (fun p hp => ⟨(hrow5.2 p hp).1, Sr.of_in (hrow5.2 p hp).2⟩) (by omega)
  rw [HROW3.out.1, hrow5.1, decide_eq_true (rfl : R1 = R1)] at hsame
  have HSAME := Lib.hid hsame
  have HROW5 := Lib.hid hrow5
  have s5 := (s3.le hM5).cons (er 22 1 (.slice A5 qs.length c5) qs.length (qs.map Pc.v))
  clear hsame hrow5 hnq H4 sh
  go_wp2_with fail
  refine HSAME.out.mono ?_
  rintro e w6 ⟨rfl, H6⟩
  clear H5 HSAME
  go_wp2_with fail
  refine (HLD.out _ _ _ H6 s5).mono ?_
  rintro e w7 ⟨f, rfl, H7⟩
  clear H6
  go_wp2_with fail
  refine (HOPEN.out _ _ _ _ H7).mono ?_
  rintro e w8 ⟨g, M8, rfl, hM8, H8⟩
  obtain ⟨v0, ps0, hr0, HF⟩ := H8
  have hpd := HPEND.out _ _ _ _ HF
  have H8 : LS w w8 M8 g f F G R1 R2 _ := ⟨v0, ps0, hr0, HF⟩
  have HPD := Lib.hid hpd
  clear H7 hpd HF hr0
  go_wp2_with fail
  refine HPD.out.mono ?_
  rintro e w9 ⟨rfl, rfl⟩
  go_wp2_with fail
  refine (lgen_any H8).mono ?_
  rintro e w9 ⟨rfl, rfl⟩
  have hlen := len_any H8
  rw [HNQ.out] at hlen
  have HLEN := Lib.hid hlen
  clear hlen
  go_wp2_with fail
  refine HLEN.out.mono ?_
  rintro e w9 ⟨rfl, rfl⟩
  go_wp2_with fail
  refine (HALL.out _ _ _ _ _ H8).mono ?_
  rintro e w10 ⟨v10, ts, M10, rfl, hM10, hrow10, H10⟩
  obtain ⟨Z, HZ, hb0, hb1, hsr⟩ := H10.out
  have HW10 := H10
  obtain ⟨v0, ps0, hr0, HF⟩ := HW10
  obtain ⟨A10, c10, rfl, hc10, hA10⟩ := HF.rest.shape' 2 rfl
  have hrestq := HF.rest
  have htl : ts.length ≤ 4096 := by have h := hrow10.len; have := M1.out; omega
  have sA10 : SrA w M10 Z A10 (ts.map Pc.v) := by
    intro w' M' hM' H'
    have h := hb0 _ _ hM' H'
    obtain ⟨_, _, _, h⟩ := h
    exact er_RA (h.rest.get 2 rfl)
  have sA5 : SrA w M10 Z A5 (qs.map Pc.v) := by
    intro w' M' hM' H'
    have h := hb0 _ _ hM' H'
    obtain ⟨_, _, _, h⟩ := h
    exact er_RA (h.rest.get 3 rfl)
  have hM510 := hM8.trans hM10
  have hsame := rsame_any HZ (A := A10) (B := A5) (c := c10) (d := c5) (ps := ts) (qs := qs) rfl rfl sA10 sA5 (fun p hp => ⟨(hrow10.2 p hp).1, Sr.of_in (hrow10.2 p hp).2⟩) (fun p hp => ⟨(HROW5.out.2 p hp).1, Sr.of_in ((HROW5.out.le hM510).2 p hp).2⟩) (by omega)
  rw [hrow10.1, HROW5.out.1, decide_eq_true (rfl : R1 = R1)] at hsame
  have HSAME := Lib.hid hsame
  clear hsame hrow10 sA10 sA5 hr0 HF hrestq H8
  go_wp2_with fail
  refine HSAME.out.mono ?_
  rintro e w11 ⟨rfl, H11⟩
  have H12 := hb0 _ _ (Mem.le.refl M10) H11
  clear H10 HSAME HZ
  go_wp2_with fail
  refine (HROOM.out _ _ _ _ _ H12).mono ?_
  rintro e w12 ⟨rfl, H13⟩
  obtain ⟨Z2, HZ2, -, -, -⟩ := H13.out
  go_wp2_with fail
  refine (HRROOM.out _).mono ?_
  rintro e w13 ⟨rfl, rfl⟩
  go_wp2_with fail
  refine (awake18_any HZ2).mono ?_
  rintro e w14 ⟨rfl, hbe⟩
  go_wp2
  go_ret
  exact ⟨rfl, hbe⟩
theorem logReads_any {w : World} {A : Option Addr} {c n : Nat} {b : List UInt8} (hb : RB w A b) (hn : n = b.length) (hA : A = none → c = 0) (hc : n ≤ c) (hc2 : c ≤ 140737488351232) :
    Calls Try.prog 4 #[.slice A n c] w fun e w' => e = .returned (.bool true) ∧ Below w.heap.size w w' := by
  by_cases h1 : 4096 < n ∧ n ≤ 262144
  · exact logReads_long h1.1 h1.2
  · by_cases h2 : n % 64 ≠ 0 ∨ n < 384 ∨ 262144 < n
    · exact logReads_bad hb hn hA hc hc2 h2 h1
    · exact logReads_main hb hn hA hc hc2 (by omega) (by omega) (by omega)
end Go.Proofs.Ytnaocjhhnlndmaa
