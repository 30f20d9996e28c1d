/- A store's step over a calm file; the file's store opened beside. -/
import Derived.Test.YtepgmebklhemgaaGreatDoorY8
set_option linter.unusedVariables false
set_option linter.unusedSimpArgs false
namespace Go.Proofs.YtepgmebklhemgaaGreatDoor
open Go.RowKit Wd
/-- No fuse waits, the power is on, nothing is pending. -/
def Calm (F : FM) : Prop := F.set = false ∧ F.off = false ∧ F.pend = []
theorem Calm.load (b : List UInt8) : Calm (FM.load b) := ⟨rfl, rfl, rfl⟩
namespace Kv
theorem calm_app {F : FM} {gen en : Nat} {ls : List (List UInt8)} {D : List Pr} {S : RS} {l : List Act} (h : SI F gen ls en D S) (hF : Calm F) (hc : check l = 0) (hr : Lg.total (S.R ++ [bytes l]) ≤ S.size) :
    Calm (Lg.appF F gen en (bytes l)) ∧ SI (Lg.appF F gen en (bytes l)) gen (ls ++ [bytes l]) (en + ((bytes l).length + 6)) (mturn D l) (S.next l) := by
  obtain ⟨k, h1⟩ := Lg.appF_l (F := F) (gen := gen) (en := en) (b := bytes l) h.len (by have := h.n6; omega) hF.2.1 (h.fits hr)
  obtain ⟨k1, k2⟩ := k.set hF.1
  rcases h1 with ⟨h2, h3⟩ | ⟨h2, _⟩
  · exact ⟨⟨k1, k2, k.pend⟩, h.app (L' := []) hc hr k.n h3⟩
  · rw [k2] at h2
    cases h2
theorem calm_re {F : FM} {gen en : Nat} {ls : List (List UInt8)} {D : List Pr} {S : RS} {l : List Act} (h : SI F gen ls en D S) (hF : Calm F) (ht : F.torn ≤ 64) (hc : check l = 0) (hr : Lg.total (recsOf (turn S.L l)) ≤ S.size) (hg : gen + 1 < 18446744073709551616) :
    Calm (Lg.reF F gen (recsOf (turn S.L l))) ∧ SI (Lg.reF F gen (recsOf (turn S.L l))) (gen + 1) (recsOf (turn S.L l)) (Lg.total (recsOf (turn S.L l))) (mturn D l) (S.anew l) := by
  have hz := h.Z
  obtain ⟨k, h1⟩ := Lg.reF_l (F := F) (gen := gen) (own := recsOf (turn S.L l)) h.len h.n6 hF.2.1 ht (by omega)
  obtain ⟨k1, k2⟩ := k.set hF.1
  rcases h1 with ⟨h2, h3⟩ | ⟨h2, _⟩ | ⟨h2, _⟩
  · exact ⟨⟨k1, k2, k.pend⟩, h.re hc hr hg k.n h3⟩
  · rw [k2] at h2
    cases h2
  · rw [k2] at h2
    cases h2
theorem SI.reload {F : FM} {gen en : Nat} {ls : List (List UInt8)} {D D2 : List Pr} {S : RS} (h : SI F gen ls en D S) (h2 : mload [] ls = some D2) : SI F gen ls en D2 S := by
  obtain ⟨D0, h3, h4⟩ := h.load
  rw [h2] at h3
  injection h3 with h3
  subst h3
  exact { h with load := ⟨D2, h2, List.Perm.refl _⟩, rel := h.rel.perm h4.symm }
theorem SI.some {F : FM} {gen en : Nat} {ls : List (List UInt8)} {D : List Pr} {S : RS} (h : SI F gen ls en D S) : mload [] ls ≠ none := by
  obtain ⟨D0, h3, _⟩ := h.load
  rw [h3]
  intro h
  cases h
end Kv
section
variable {w0 w : World} {M : Mem} {L : List Ent} {s g f mb gen en : Nat} {F : FM} {ls : List (List UInt8)} {D : List Pa}
/-- Apply over a calm file. -/
def RetCalm (w0 : World) (M : Mem) (s g f : Nat) (L : List Ent) (r : Kv.RS × Int) (e : Ending) (w' : World) : Prop :=
  ∃ mb F gen ls en D M', M.le M' ∧ e = .returned (.int .i64 r.2) ∧ KS w0 w' M' s g f mb F gen ls en D L ∧ Kv.SI F gen ls en (D.map Pa.pr) r.1 ∧ Calm F
theorem apply_calm (H : KS w0 w M s g f mb F gen ls en D L) {S : Kv.RS} (hsi : Kv.SI F gen ls en (D.map Pa.pr) S) (hF : Calm F) {A : Option Addr} {c n : Nat} {l : List Ac} (hn : n = l.length) (hl : SrA w0 M L A (acs l)) (hi : AcIn M l) (hn2 : n ≤ 1000000) :
    Calls Tryz.prog 45 #[.pointer (some ⟨s, 0, none⟩), .slice A n c] w (RetCalm w0 M s g f L (S.apply (l.map Ac.act))) := by
  have ht : F.torn ≤ 64 := H.fs.1.torn2
  refine (apply_any (c := c) H hsi (by rw [hF.2.2]; decide) hn hl hi hn2).mono ?_
  rintro e w' ⟨mb', D', M', hM, he, (⟨h1, h2, h3⟩ | ⟨h1, h2, h3, h4, h5⟩ | ⟨h1, h2, h3, h4, h5, h6⟩)⟩
  · exact ⟨mb', F, gen, ls, en, D', M', hM, he, h3, by rw [h1, h2]; exact hsi, hF⟩
  · obtain ⟨c1, c2⟩ := Kv.calm_app hsi hF h2 h3
    exact ⟨mb', _, gen, _, _, D', M', hM, he, h5, by rw [h1, h4]; exact c2, c1⟩
  · obtain ⟨c1, c2⟩ := Kv.calm_re hsi hF ht h2 h3 h4
    exact ⟨mb', _, _, _, _, D', M', hM, he, h6, by rw [h1, h5]; exact c2, c1⟩
/-- The file opened once more, beside its store. -/
def RetBeside (w0 : World) (M : Mem) (s g f mb : Nat) (F : FM) (gen : Nat) (ls : List (List UInt8)) (en : Nat) (D : List Pa) (L : List Ent) (S : Kv.RS) (e : Ending) (w' : World) : Prop :=
  ∃ s2 g2 mb2 D2 Z M', M.le M' ∧ e = .returned (.tuple #[.pointer (some ⟨s2, 0, none⟩), .int .i64 0]) ∧ KS w0 w' M' s2 g2 f mb2 F gen ls en D2 Z ∧ Kv.SI F gen ls en (D2.map Pa.pr) S ∧
    ∀ w'' M'', M.le M'' → FS w0 w'' M'' f F Z → KS w0 w'' M'' s g f mb F gen ls en D L
theorem beside_any (H : KS w0 w M s g f mb F gen ls en D L) {S : Kv.RS} (hsi : Kv.SI F gen ls en (D.map Pa.pr) S) :
    Calls Tryz.prog 51 #[.pointer (some ⟨f, 0, none⟩)] w (RetBeside w0 M s g f mb F gen ls en D L S) := by
  obtain ⟨hD, v, ps, hr, hfs⟩ := H
  have hsm := hsi.small
  refine (kopen_any hfs hsi.n6 gen ls en hsi.gen_ hsi.rec_ (fun l hl => by have := hsi.longs l hl; omega) (by omega)).mono ?_
  rintro e w' (⟨M', h1, _⟩ | ⟨s2, g2, mb2, D2, M', h1, rfl, hM, H2⟩)
  · exact absurd h1 hsi.some
  · exact ⟨s2, g2, mb2, D2, _, M', hM, rfl, H2, hsi.reload h1, fun w'' M'' hM2 h => ⟨hD.le hM2, v, ps, hr.le hM2, h⟩⟩
end
end Go.Proofs.YtepgmebklhemgaaGreatDoor
