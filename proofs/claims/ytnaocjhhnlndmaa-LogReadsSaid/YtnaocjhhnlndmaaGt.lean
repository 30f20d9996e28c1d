/- The contract of log.Read. -/
import Derived.Test.YtnaocjhhnlndmaaGi
set_option linter.unusedVariables false
set_option linter.unusedSimpArgs false
namespace Go.Proofs.Ytnaocjhhnlndmaa
open Go.RowKit Wd
section
variable {w0 w : World} {M : Mem} {L : List Ent}
/-- What a file's bytes tell: records, the generation that counts. -/
def RetRead (w0 : World) (M : Mem) (L : List Ent) (b : List UInt8) (e : Ending) (w' : World) : Prop :=
  ∃ v ps M', e = .returned (.tuple #[v, .int .u64 (Lg.generation b : Int), .int .i64 0]) ∧ M.le M' ∧ Rows M' ps (Lg.records (Lg.generation b) (Lg.half b (Lg.generation b))).1 ∧ St w0 w' M' (er 22 1 v ps.length (ps.map Pc.v) :: L)
set_option maxRecDepth 100000 in
theorem read_bad (H : St w0 w M L) {A : Option Addr} {c n : Nat} {b : List UInt8} (hn : n = b.length) (hl : Sr w0 M L A b) (h : n % 64 ≠ 0 ∨ n < 384 ∨ 262144 < n) (hc : n ≤ c) (hbig : n ≤ 140737488351232) :
    Calls Try.prog 8 #[.slice A n c] w fun e w' => e = .returned (.tuple #[.slice none 0 0, .int .u64 0, .int .i64 1]) ∧ St w0 w' M L := by
  by_cases hg : n < 64 ∨ 64 * 4096 < n ∨ n % 64 ≠ 0
  · have hld := fun w => load_no A n c w hbig hg
    have HLD := Lib.hid hld
    clear hld hg h hn
    go_enter Try.func8, Try.ntmps8
    go_wp2_with fail
    refine (HLD.out _).mono ?_
    rintro e w1 ⟨rfl, hb⟩
    go_wp2
    go_ret3
    exact ⟨rfl, H.belowK hb⟩
  · have hld := fs_load (c := c) H (hl.now H) (by omega) (by omega) (by omega) (by omega)
    have hnb : (FM.load b).n < 6 := by show b.length / 64 < 6; omega
    rw [← hn] at hld
    obtain ⟨F, hF⟩ : ∃ F, F = FM.load b := ⟨_, rfl⟩
    rw [← hF] at hld hnb
    have q1 : (F.n : Int) < 6 := by omega
    have HLD := Lib.hid hld
    clear hld hg h hn hF hnb
    go_enter Try.func8, Try.ntmps8
    go_wp2_with fail
    refine HLD.out.mono ?_
    rintro e w1 ⟨f, rfl, H1⟩
    go_wp2_with fail
    refine (fs_blocks H1).mono ?_
    rintro e w2 ⟨rfl, rfl⟩
    go_wp2
    go_ret3
    exact ⟨rfl, H1.rest⟩
set_option maxRecDepth 100000 in
set_option maxHeartbeats 1000000 in
theorem read_good (H : St w0 w M L) {A : Option Addr} {c n : Nat} {b : List UInt8} (hn : n = b.length) (hl : Sr w0 M L A b) (h0 : n % 64 = 0) (h1 : 384 ≤ n) (h2 : n ≤ 262144) (hc : n ≤ c) (hc2 : c ≤ 9223372036854775807) :
    Calls Try.prog 8 #[.slice A n c] w (RetRead w0 M L b) := by
  have hld := fs_load (c := c) H (hl.now H) (by omega) (by omega) (by omega) (by omega)
  obtain ⟨bb, bo, rfl, -⟩ := hl.now H (by rintro rfl; rw [hn] at h1; simp at h1)
  obtain ⟨F, hF⟩ : ∃ F, F = FM.load b := ⟨_, rfl⟩
  have hFn : 64 * F.n = n := by rw [hF]; show 64 * (b.length / 64) = n; omega
  rw [← hn, ← hF] at hld
  obtain ⟨G, hG⟩ : ∃ G, G = Lg.generation b := ⟨_, rfl⟩
  have hGl : G < 18446744073709551616 := by rw [hG]; exact Lg.generation_lt _
  obtain ⟨hb, hhb⟩ : ∃ hb, hb = Lg.half b G := ⟨_, rfl⟩
  obtain ⟨N, hN⟩ : ∃ N, N = Lg.halfN F.n := ⟨_, rfl⟩
  obtain ⟨fr, hfr⟩ : ∃ fr, fr = Lg.halfFrom F.n G := ⟨_, rfl⟩
  have hle : fr + N ≤ F.n := by rw [hfr, hN]; exact Lg.half_le _ _ (by omega)
  have hN2 : 2 ≤ N ∧ N ≤ 2047 := by rw [hN]; unfold Lg.halfN; omega
  have hhe : hb = (b.drop (64 * fr)).take (64 * N) := by
    rw [hhb]; unfold Lg.half; rw [← hn, ← hFn, Nat.mul_div_cancel_left _ (by decide), ← hfr, ← hN]
  have hhl : hb.length = 64 * N := by rw [hhe, List.length_take, List.length_drop, ← hn]; omega
  obtain ⟨o1, ho1⟩ : ∃ o1, o1 = 64 * fr := ⟨_, rfl⟩
  obtain ⟨sm, hsm⟩ : ∃ sm, sm = fr + N := ⟨_, rfl⟩
  obtain ⟨o2, ho2⟩ : ∃ o2, o2 = 64 * sm := ⟨_, rfl⟩
  obtain ⟨hn', hhn⟩ : ∃ hn, hn = 64 * N := ⟨_, rfl⟩
  have e1 : (fr : Int) * 64 = (o1 : Int) := by omega
  have e2 : (fr : Int) + (N : Int) = (sm : Int) := by omega
  have e3 : (sm : Int) * 64 = (o2 : Int) := by omega
  have e4 : o2 - o1 = hn' := by omega
  have e5 : o1 ≤ o2 := by omega
  have e6 : o2 ≤ n := by omega
  have e7 : o1 < o2 := by omega
  have b1 : fr ≤ 4096 := by omega
  have b2 : sm ≤ 4096 := by omega
  have b3 : N ≤ 4096 := by omega
  rw [← ho1, ← hhn] at hhe
  rw [← hhn] at hhl
  have hhm : hn' ≤ 131072 := by omega
  have hgen := fun (w : World) (M : Mem) (L : List Ent) (H : St w0 w M L) (hl : Sr w0 M L (some ⟨bb, bo, none⟩) b) => generation_any H (c := c) hn hl (by omega) hc hc2
  rw [← hG] at hgen
  have hhf := fun w => half_any F.n G (by omega) (by omega) hGl w
  rw [← hfr, ← hN] at hhf
  have hpost : ∀ w' v ps M', M.le M' → Rows M' ps (Lg.records G hb).1 → St w0 w' M' (er 22 1 v ps.length (ps.map Pc.v) :: L) → RetRead w0 M L b (.returned (.tuple #[v, .int .u64 (G : Int), .int .i64 0])) w' := by
    intro w' v ps M' hm hr hs
    refine ⟨v, ps, M', by rw [hG], hm, ?_, hs⟩
    rw [← hG, ← hhb]
    exact hr
  have h6' : ¬ (F.n : Int) < 6 := by omega
  have hce : ¬ c = o1 := by omega
  have hco : (o2 : Int) ≤ (c : Int) := by omega
  have hs1 : hn' ≤ c - o1 := by omega
  have hs2 : c - o1 ≤ 9223372036854775807 := by omega
  have HS1 := Lib.hid hs1
  have HS2 := Lib.hid hs2
  have HGEN := Lib.hid hgen
  have HHF := Lib.hid hhf
  have HHE := Lib.hid hhe
  have HHL := Lib.hid hhl
  have HLD := Lib.hid hld
  have HN := Lib.hid hn
  have HPOST := Lib.hid hpost
  clear hG hhb hN hfr hle hN2 hhe hhl ho1 hsm ho2 hhn hgen hhf h0 h1 h2 hF hFn hn hs1 hs2 hld e6 hpost
  go_enter Try.func8, Try.ntmps8
  go_wp2_with fail
  refine HLD.out.mono ?_
  rintro e x1 ⟨f, rfl, H1⟩
  go_wp2_with fail
  refine (fs_blocks H1).mono ?_
  rintro e x2 ⟨rfl, rfl⟩
  obtain ⟨Z, HZ, hb0, hb1⟩ := H1.out0
  obtain ⟨ok, lb, pv, H2⟩ := H1
  have s2 : Sr w0 M (ef f lb F pv L) (some ⟨bb, bo, none⟩) b := ((hl.cons _).cons _).cons _
  clear HZ hb0 hb1 Z
  go_wp2_with fail
  refine (HGEN.out _ _ _ H2 s2).mono ?_
  rintro e x3 ⟨rfl, H3⟩
  have H4 : FS w0 x3 M f F L := ⟨ok, lb, pv, H3⟩
  go_wp2_with fail
  refine (fs_blocks H4).mono ?_
  rintro e x4 ⟨rfl, rfl⟩
  go_wp2_with fail
  refine (HHF.out _).mono ?_
  rintro e x4 ⟨rfl, rfl⟩
  have sr := s2.sub o1 hn'
  rw [← HHE.out] at sr
  have hsc := scan_any H3 G hGl (A := some ⟨bb, bo + o1, none⟩) (c := c - o1) (n := hn') (h := hb) HHL.out.symm sr (by rintro ⟨⟩) HS1.out HS2.out (by omega)
  have HSC := Lib.hid hsc
  clear hsc sr
  go_wp2_with fail
  refine HSC.out.mono ?_
  rintro e x5 ⟨v, ps, M', rfl, hM', hrow, H9⟩
  have H10 : FS w0 x5 M' f F (er 22 1 v ps.length (ps.map Pc.v) :: L) := ⟨ok, lb, pv, fs_add rfl H9⟩
  have HROW := Lib.hid hrow
  clear hrow
  go_wp2
  go_ret3
  exact HPOST.out _ _ _ _ hM' HROW.out H10.rest
end
end Go.Proofs.Ytnaocjhhnlndmaa
