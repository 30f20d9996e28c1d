/- Steps of the theorem of crashes: a batch over a calm file, one during which the power goes; a file opened; what a store tells. -/
import Derived.Test.YtpomjaidaignpaaGreatUa
import Derived.Test.YtpomjaidaignpaaGreatUd
import Derived.Test.YtpomjaidaignpaaGreatFg
set_option linter.unusedVariables false
set_option linter.unusedSimpArgs false
namespace Go.Proofs.YtpomjaidaignpaaGreat
open Go.RowKit Wd
/-- A key dropped: done, or no room. -/
theorem Kv.drop_code {S : Kv.RS} {p : Kv.Pr} (hp : Kv.okP p) : (S.apply [⟨p.1, false, []⟩]).2 = 0 ∨ (S.apply [⟨p.1, false, []⟩]).2 = 2 := by
  have hb : Kv.bad ⟨p.1, false, []⟩ = false := by
    unfold Kv.bad
    simp [hp.1]
  have hl : Kv.long ⟨p.1, false, []⟩ = false := by
    have := hp.2.1
    unfold Kv.long
    simp only [Bool.or_eq_false_iff, decide_eq_false_iff_not]
    exact ⟨by omega, by simp⟩
  have hc : Kv.check [⟨p.1, false, []⟩] = 0 := by
    have h1 : (Kv.bytes [⟨p.1, false, []⟩]).length = 4 + p.1.length := by
      simp [Kv.bytes, Kv.all, Kv.one, Kv.be2_len]
      omega
    have := hp.2.1
    unfold Kv.check
    rw [List.any_cons, List.any_nil, hb, List.any_cons, List.any_nil, hl, h1]
    simp
    omega
  unfold Kv.RS.apply
  rw [hc, if_neg (by simp)]
  split
  · exact .inl rfl
  · split
    · exact .inr rfl
    · exact .inl rfl
section
variable {w0 w : World} {M : Mem} {L : List Ent} {s g f mb gen en : Nat} {F : FM} {ls : List (List UInt8)} {D : List Pa}
/-- A fuse laid in a store's file. -/
theorem kfuse_any (H : KS w0 w M s g f mb F gen ls en D L) (k t : Int) (hk : k ≤ 9223372036854775807) :
    Calls Tryz.prog 10 #[.pointer (some ⟨f, 0, none⟩), .int .i64 k, .int .i64 t] w fun e w' => e = .returned (.tuple #[]) ∧ KS w0 w' M s g f mb (F.fuse k t) gen ls en D L := by
  obtain ⟨hD, v, ps, hr, hfs⟩ := H
  refine (fs_fuse hfs k t hk).mono ?_
  rintro e w' ⟨rfl, h⟩
  exact ⟨rfl, hD, v, ps, hr, h⟩
/-- Apply over a calm file whose heads are a fresh file's. -/
def RetHeads (w0 : World) (M : Mem) (s g f : Nat) (L : List Ent) (k : Nat) (r : Kv.RS × Int) (e : Ending) (w' : World) : Prop :=
  ∃ mb F gen ls en D M', M.le M' ∧ e = .returned (.int .i64 r.2) ∧ KS w0 w' M' s g f mb F gen ls en D L ∧ Kv.SI F gen ls en (D.map Pa.pr) r.1 ∧ Calm F ∧ Lg.Heads F.l gen ∧ gen ≤ k + 1
theorem apply_heads (H : KS w0 w M s g f mb F gen ls en D L) {S : Kv.RS} (hsi : Kv.SI F gen ls en (D.map Pa.pr) S) (hF : Calm F) (hh : Lg.Heads F.l gen) {k : Nat} (hk : gen ≤ k) (hk2 : k ≤ 100) {A : Option Addr} {c n : Nat} {l : List Ac} (hn : n = l.length) (hl : SrA w0 M L A (acs l)) (hi : AcIn M l) (hn2 : n ≤ 1000000) :
    Calls Tryz.prog 9 #[.pointer (some ⟨s, 0, none⟩), .slice A n c] w (RetHeads w0 M s g f L k (S.apply (l.map Ac.act))) := by
  have ht : F.torn ≤ 64 := H.fs.1.torn2
  refine (apply_any (c := c) H hsi (by rw [hF.2.2]; decide) hn hl hi hn2).mono ?_
  rintro e w' ⟨mb', D', M', hM, he, (⟨h1, h2, h3⟩ | ⟨h1, h2, h3, h4, h5⟩ | ⟨h1, h2, h3, h4, h5, h6⟩)⟩
  · exact ⟨mb', F, gen, ls, en, D', M', hM, he, h3, by rw [h1, h2]; exact hsi, hF, hh, by omega⟩
  · obtain ⟨c1, c2⟩ := Kv.calm_app hsi hF h2 h3
    exact ⟨mb', _, gen, _, _, D', M', hM, he, h5, by rw [h1, h4]; exact c2, c1, Kv.heads_app hsi hF hh h3, by omega⟩
  · obtain ⟨c1, c2⟩ := Kv.calm_re hsi hF ht h2 h3 h4
    exact ⟨mb', _, _, _, _, D', M', hM, he, h6, by rw [h1, h5]; exact c2, c1, Kv.heads_re hsi hF ht hh h3 (by omega), by omega⟩
/-- Apply during which the power may go. -/
def RetFused (w0 : World) (M : Mem) (f : Nat) (F : FM) (L : List Ent) (S : Kv.RS) (r : Kv.RS × Int) (e : Ending) (w' : World) : Prop :=
  ∃ F2 M', M.le M' ∧ e = .returned (.int .i64 r.2) ∧ FS w0 w' M' f F2 L ∧ Kv.Outcome S r.1 F2.l ∧ F2.pend = [] ∧ F2.n = F.n ∧ F2.l.length = F.l.length
theorem apply_fused (H : KS w0 w M s g f mb F gen ls en D L) {S : Kv.RS} (hsi : Kv.SI F gen ls en (D.map Pa.pr) S) (hoff : F.off = false) (hp : F.pend = []) (hh : Lg.Heads F.l gen) {A : Option Addr} {c n : Nat} {l : List Ac} (hn : n = l.length) (hl : SrA w0 M L A (acs l)) (hi : AcIn M l) (hn2 : n ≤ 1000000) :
    Calls Tryz.prog 9 #[.pointer (some ⟨s, 0, none⟩), .slice A n c] w (RetFused w0 M f F L S (S.apply (l.map Ac.act))) := by
  have ht : F.torn ≤ 64 := H.fs.1.torn2
  have h6 := hsi.n6
  have hz := hsi.Z
  refine (apply_any (c := c) H hsi (by rw [hp]; decide) hn hl hi hn2).mono ?_
  rintro e w' ⟨mb', D', M', hM, he, (⟨h1, h2, h3⟩ | ⟨h1, h2, h3, h4, h5⟩ | ⟨h1, h2, h3, h4, h5, h6'⟩)⟩
  · exact ⟨F, M', hM, he, h3.fs, Kv.out_no hsi _ rfl, hp, rfl, rfl⟩
  · obtain ⟨k, -⟩ := Lg.appF_l (F := F) (gen := gen) (en := en) (b := Kv.bytes (l.map Ac.act)) hsi.len (by omega) hoff (hsi.fits h3)
    exact ⟨_, M', hM, he, h5.fs, by rw [h1]; exact Kv.out_app hsi hoff h2 h3, k.pend, k.n, k.len⟩
  · obtain ⟨k, -⟩ := Lg.reF_l (F := F) (gen := gen) (own := Kv.recsOf (Kv.turn S.L (l.map Ac.act))) hsi.len hsi.n6 hoff ht (by omega)
    exact ⟨_, M', hM, he, h6'.fs, by rw [h1]; exact Kv.out_re hsi hoff ht hh h2 h3, k.pend, k.n, k.len⟩
/-- A file opened, whatever it holds. -/
def RetFOpen (w0 : World) (M : Mem) (f : Nat) (F : FM) (L : List Ent) (e : Ending) (w' : World) : Prop :=
  ∃ M', M.le M' ∧ (Kv.mload [] (Kv.recsL F.l) = none ∧ e = .returned (.tuple #[.pointer none, .int .i64 5]) ∧ FS w0 w' M' f F L ∨
    ∃ s g mb gen ls en D S, Kv.mload [] (Kv.recsL F.l) = some (D.map Pa.pr) ∧ e = .returned (.tuple #[.pointer (some ⟨s, 0, none⟩), .int .i64 0]) ∧ KS w0 w' M' s g f mb F gen ls en D L ∧ Kv.SI F gen ls en (D.map Pa.pr) S)
theorem fopen_any (H : FS w0 w M f F L) (h6 : 6 ≤ F.n) (h128 : F.n ≤ 128) (hlen : F.l.length = 64 * F.n) :
    Calls Tryz.prog 12 #[.pointer (some ⟨f, 0, none⟩)] w (RetFOpen w0 M f F L) := by
  obtain ⟨gen, hgen⟩ : ∃ gen, gen = Lg.generation F.l := ⟨_, rfl⟩
  obtain ⟨ls, hls⟩ : ∃ ls, ls = (Lg.records gen (Lg.half F.l gen)).1 := ⟨_, rfl⟩
  obtain ⟨en, hen⟩ : ∃ en, en = (Lg.records gen (Lg.half F.l gen)).2 := ⟨_, rfl⟩
  have hrec : Lg.records gen (Lg.half F.l gen) = (ls, en) := by rw [hls, hen]
  have hrl : Kv.recsL F.l = ls := Kv.recsL_of hgen.symm hrec
  have hhl := Lg.half_len (l := F.l) (n := F.n) (gen := gen) hlen (by omega)
  obtain ⟨r, -⟩ := Lg.records_rec hrec
  have hlong := r.long
  have hle := r.le
  rw [hhl] at hle
  have hlsn : ls.length ≤ 10000 := by
    have h1 : 64 * Lg.halfN F.n ≤ 8192 := by unfold Lg.halfN; omega
    rcases hle.2 with h2 | h2
    · rw [h2]; simp
    · omega
  refine (kopen_any H h6 gen ls en hgen.symm hrec (fun l hl => by have := hlong l hl; omega) (by omega)).mono ?_
  rintro e w' (⟨M', h1, rfl, hM, h2⟩ | ⟨s2, g2, mb2, D2, M', h1, rfl, hM, h2⟩)
  · exact ⟨M', hM, .inl ⟨by rw [hrl]; exact h1, rfl, h2⟩⟩
  · have hof : ∃ S, Kv.RS.of F.l = some S := by
      unfold Kv.RS.of
      rw [← hgen, ← hls]
      rcases Kv.load_rel ls Kv.Rel.nil with ⟨_, h3⟩ | ⟨L', D', h3, _, _⟩
      · rw [h1] at h3
        cases h3
      · rw [h3]
        exact ⟨_, rfl⟩
    obtain ⟨S, hS⟩ := hof
    obtain ⟨D0, h3, h4⟩ := Kv.of_some (F := F) (nb := F.n) hlen h6 h128 hS rfl rfl
    rw [← hgen, ← hls, ← hen] at h4
    exact ⟨M', hM, .inr ⟨s2, g2, mb2, gen, ls, en, D2, S, by rw [hrl]; exact h1, rfl, h2, h4.reload h1⟩⟩
/-- A row on top of a store that is never written again. -/
theorem KS.lendA {e : TypeId} {sz n c : Nat} {A : Option Addr} {xs : List Value} (H : KS w0 w M s g f mb F gen ls en D (er e sz (.slice A n c) n xs :: L)) : ∃ M', M.le M' ∧ KS w0 w M' s g f mb F gen ls en D L ∧ In M' fun W => RA W A xs := by
  obtain ⟨Hd, h1, h2⟩ := H.open_
  have pm : (mp mb D :: eb s 70 (scells g mb) :: (Hd ++ er e sz (.slice A n c) n xs :: L)).Perm (er e sz (.slice A n c) n xs :: mp mb D :: eb s 70 (scells g mb) :: (Hd ++ L)) := by
    have h3 : (Hd ++ er e sz (.slice A n c) n xs :: L).Perm (er e sz (.slice A n c) n xs :: (Hd ++ L)) := List.perm_middle
    exact (((h3.cons _).cons _).trans ((List.Perm.swap _ _ _).cons _)).trans (List.Perm.swap _ _ _)
  obtain ⟨M', hM, h4, h5, -⟩ := (h1.perm pm).lendRowA
  exact ⟨M', hM, h2 _ _ _ _ hM (H.1.le hM) h4, h5⟩
theorem KS.out' (H : KS w0 w M s g f mb F gen ls en D L) : ∃ Z : List Ent, St w0 w M Z ∧ ∀ w' M', M.le M' → St w0 w' M' Z → KS w0 w' M' s g f mb F gen ls en D L := by
  obtain ⟨Z, h, hb, -⟩ := H.out
  exact ⟨Z, h, hb⟩
/-- All that a store holds, by its keys. -/
def RetScanA (w0 : World) (M : Mem) (s g f mb : Nat) (F : FM) (gen : Nat) (ls : List (List UInt8)) (en : Nat) (D : List Pa) (L : List Ent) (l : List Kv.Pr) (e : Ending) (w' : World) : Prop :=
  ∃ A n c ps M', e = .returned (.slice A n c) ∧ M.le M' ∧ PasAt M' A n c ps ∧ ps.map Pa.pr = l ∧ KS w0 w' M' s g f mb F gen ls en D L
theorem scanA_any (H : KS w0 w M s g f mb F gen ls en D L) {S : Kv.RS} (hsi : Kv.SI F gen ls en (D.map Pa.pr) S) :
    Calls Tryz.prog 15 #[.pointer (some ⟨s, 0, none⟩), .string (str [])] w (RetScanA w0 M s g f mb F gen ls en D L S.L) := by
  have hok := hsi.ok
  have hsz : ∀ a ∈ D, a.p.l.length ≤ 1000000 := fun a ha => by
    have := (hok.1 a.pr (List.mem_map.2 ⟨a, ha, rfl⟩)).2.2
    have e : a.pr.2 = a.p.l := rfl
    rw [e] at this
    omega
  have hDl := hok.2
  rw [List.length_map] at hDl
  refine (sscan_any H [] hsz (by omega)).mono ?_
  rintro e w' ⟨v, ps, M2, rfl, hM2, hpS, hpp, hpw, K⟩
  have hs := Kv.scan_sorted hsi.rel [] hpp hpw
  rw [Kv.scan_all] at hs
  obtain ⟨A, c, rfl, hc, hA⟩ := K.rest.shape' 0 rfl
  obtain ⟨M3, hM3, K2, hin⟩ := K.lendA
  exact ⟨A, ps.length, c, ps, M3, rfl, hM2.trans hM3, ⟨rfl, hc, hA, hpS.le hM3, hin⟩, hs, K2⟩
theorem ksame_any (H : KS w0 w M s g f mb F gen ls en D L) {A B : Option Addr} {n c m d : Nat} {ps qs : List Pa} (h1 : PasAt M A n c ps) (h2 : PasAt M B m d qs) (hn : n ≤ 100000000) :
    Calls Tryz.prog 14 #[.slice A n c, .slice B m d] w fun e w' => e = .returned (.bool (decide (ps.map Pa.pr = qs.map Pa.pr))) ∧ KS w0 w' M s g f mb F gen ls en D L := by
  obtain ⟨Z, h, hb⟩ := H.out'
  refine (rsame20_any h h1.1 h2.1 (SrA.of_in h1.2.2.2.2) (SrA.of_in h2.2.2.2.2) h1.2.2.2.1 h2.2.2.2.1 hn).mono ?_
  rintro e w' ⟨rfl, h3⟩
  exact ⟨rfl, hb _ _ (Mem.le.refl _) h3⟩
end
end Go.Proofs.YtpomjaidaignpaaGreat
