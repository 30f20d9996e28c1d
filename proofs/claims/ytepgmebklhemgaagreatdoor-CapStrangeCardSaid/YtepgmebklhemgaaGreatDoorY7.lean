/- The law's open: a file of bytes, its store, and the document's. -/
import Derived.Test.YtepgmebklhemgaaGreatDoorY6
import Derived.Test.YtepgmebklhemgaaGreatDoorS4
set_option linter.unusedVariables false
set_option linter.unusedSimpArgs false
namespace Go.Proofs.YtepgmebklhemgaaGreatDoor
open Go.RowKit Wd
section
variable {P : Program} {fn : Func} {R : Ending → World → Prop} {a : Act} {w0 w : World} {M : Mem} {L : List Ent} {g : Nat} {t ty : TypeId} {cs : List Value} {d : TypeDesc}
/-- Four results, the third a row in memory. -/
theorem ret_four (H : St w0 w M (eb g t cs :: L)) {p q s u : Tmp} (hr : fn.results = #[.tmp p, .tmp q, .cell s ty, .tmp u]) (ht : a.tmps.getD s undef = .pointer (some ⟨g, 0, none⟩)) (hu : P.underlying ty = some d) (hd : d.isRow = true) (hi : (P.info? ty).map (·.size) = some cs.length) (hf : a.defers = [])
    (hR : R (.returned (.tuple #[a.tmps.getD p undef, a.tmps.getD q undef, .agg cs.toArray, a.tmps.getD u undef])) w) : bodyPost P fn R .ret a w := by
  refine bodyPost_ret (v := .tuple #[a.tmps.getD p undef, a.tmps.getD q undef, .agg cs.toArray, a.tmps.getD u undef]) ?_ hf hR
  have h1 := load_row H hu hd hi
  have ht' : a.tmps[s]?.getD undef = .pointer (some ⟨g, 0, none⟩) := by rw [← ht]; simp
  simp [results, hr, ht', asAddr, Sem.run_pure, h1]
end
section
variable {w0 w : World} {M : Mem} {L : List Ent} {s g f mb gen en : Nat} {F : FM} {ls : List (List UInt8)} {D : List Pa}
theorem KS.perm {L' : List Ent} (H : KS w0 w M s g f mb F gen ls en D L) (h : L.Perm L') : KS w0 w M s g f mb F gen ls en D L' := by
  obtain ⟨Hd, h1, h2⟩ := H.open_
  exact h2 _ _ _ _ (Mem.le.refl _) H.1 (h1.perm (((List.Perm.append_left Hd h).cons _).cons _))
theorem KS.sub {L' : List Ent} (H : KS w0 w M s g f mb F gen ls en D L) (h : L'.Sublist L) : KS w0 w M s g f mb F gen ls en D L' := by
  obtain ⟨Hd, h1, h2⟩ := H.open_
  exact h2 _ _ _ _ (Mem.le.refl _) H.1 (h1.sub (((List.Sublist.append (List.Sublist.refl Hd) h).cons_cons _).cons_cons _))
/-- The first entry beside the store; what turns it. -/
theorem KS.out1 {a : Ent} (H : KS w0 w M s g f mb F gen ls en D (a :: L)) : ∃ Z : List Ent, St w0 w M (a :: Z) ∧ ∀ w' M' a', M.le M' → St w0 w' M' (a' :: Z) → KS w0 w' M' s g f mb F gen ls en D (a' :: L) := by
  obtain ⟨Hd, h1, h2⟩ := H.open_
  have pm : ∀ a : Ent, (a :: mp mb D :: eb s 138 (scells g mb) :: (Hd ++ L)).Perm (mp mb D :: eb s 138 (scells g mb) :: (Hd ++ a :: L)) := fun a => by
    have h3 : (Hd ++ a :: L).Perm (a :: (Hd ++ L)) := List.perm_middle
    exact ((List.Perm.swap _ _ _).trans ((List.Perm.swap _ _ _).cons _)).trans ((h3.symm.cons _).cons _)
  exact ⟨_, h1.perm (pm a).symm, fun w' M' a' hM h => h2 _ _ _ _ hM (H.1.le hM) (h.perm (pm a'))⟩
end
theorem Kv.of_none {b : List UInt8} (h : Kv.RS.of b = none) : Kv.mload [] (Lg.records (Lg.generation b) (Lg.half b (Lg.generation b))).1 = none := by
  unfold Kv.RS.of at h
  rcases Kv.load_rel (Lg.records (Lg.generation b) (Lg.half b (Lg.generation b))).1 Kv.Rel.nil with ⟨_, h2⟩ | ⟨L', D', h1, h2, _⟩
  · exact h2
  · rw [h1] at h
    cases h
theorem Kv.of_some {b : List UInt8} {S : Kv.RS} {nb : Nat} (hb : b.length = 64 * nb) (h6 : 6 ≤ nb) (h128 : nb ≤ 128) (h : Kv.RS.of b = some S) {F : FM} (hn : F.n = nb) (hl : F.l = b) :
    ∃ D0, Kv.mload [] (Lg.records (Lg.generation b) (Lg.half b (Lg.generation b))).1 = some D0 ∧ Kv.SI F (Lg.generation b) (Lg.records (Lg.generation b) (Lg.half b (Lg.generation b))).1 (Lg.records (Lg.generation b) (Lg.half b (Lg.generation b))).2 D0 S := by
  unfold Kv.RS.of at h
  rcases Kv.load_rel (Lg.records (Lg.generation b) (Lg.half b (Lg.generation b))).1 Kv.Rel.nil with ⟨h1, _⟩ | ⟨L', D', h1, h2, h3⟩
  · rw [h1] at h
    cases h
  · rw [h1] at h
    injection h with h
    subst h
    refine ⟨D', h2, ?_⟩
    have hh := Lg.half_len (gen := Lg.generation b) hb (by omega)
    exact ⟨by omega, by omega, by rw [hl, hn]; exact hb, by rw [hl], by rw [hl], ⟨D', h2, List.Perm.refl _⟩, h3, rfl, rfl, by rw [hn]; exact hh⟩
/-- What the law's open gives. -/
def RetLOpen (w0 : World) (M : Mem) (L : List Ent) (b : List UInt8) (e : Ending) (w' : World) : Prop :=
  ∃ f M', M.le M' ∧
    (Kv.RS.of b = none ∧ e = .returned (.tuple #[.pointer (some ⟨f, 0, none⟩), .pointer none, .agg rs0.toArray, .bool true]) ∧ FS w0 w' M' f (FM.load b) L ∨
     ∃ S cs s g mb D gen ls en, Kv.RS.of b = some S ∧ e = .returned (.tuple #[.pointer (some ⟨f, 0, none⟩), .pointer (some ⟨s, 0, none⟩), .agg cs.toArray, .bool true]) ∧ RsIn M' S cs ∧ Kv.SI (FM.load b) gen ls en (D.map Pa.pr) S ∧ KS w0 w' M' s g f mb (FM.load b) gen ls en D L)
section
variable {w0 w : World} {M : Mem} {L : List Ent}
end
end Go.Proofs.YtepgmebklhemgaaGreatDoor
