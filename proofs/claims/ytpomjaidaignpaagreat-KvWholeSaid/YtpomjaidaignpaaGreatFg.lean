/- The contract of a file's Fuse. -/
import Derived.Test.YtpomjaidaignpaaGreatA4
set_option linter.unusedVariables false
set_option linter.unusedSimpArgs false
namespace Go.Proofs.YtpomjaidaignpaaGreat
open Go.RowKit Wd

theorem fuse_end {w : World} {base f lb : Nat} {F : FM} {pv : Value} (h : IsF w base f lb F pv) (k t a b : Int) (hk : k ≤ 9223372036854775807) (ha : a = max 0 k) (hb : b = min 64 (max 0 t)) :
    Ending.returned (.tuple #[]) = Ending.returned (.tuple #[]) ∧ IsF (((w.setCell ⟨f, 2, none⟩ (.bool !F.off)).setCell ⟨f, 4, none⟩ (.int .i64 a)).setCell ⟨f, 5, none⟩ (.int .i64 b)) base f lb (F.fuse k t) pv ∧
      Keeps w (((w.setCell ⟨f, 2, none⟩ (.bool !F.off)).setCell ⟨f, 4, none⟩ (.int .i64 a)).setCell ⟨f, 5, none⟩ (.int .i64 b)) (· = f) ∧
      (((w.setCell ⟨f, 2, none⟩ (.bool !F.off)).setCell ⟨f, 4, none⟩ (.int .i64 a)).setCell ⟨f, 5, none⟩ (.int .i64 b)).heap.size = w.heap.size := by
  have hk1 := ((Keeps.refl w (· = f)).setCell (p := ⟨f, 2, none⟩) (.inl rfl) (.bool !F.off)).setCell (p := ⟨f, 4, none⟩) (.inl rfl) (.int .i64 a) |>.setCell (p := ⟨f, 5, none⟩) (.inl rfl) (.int .i64 b)
  refine ⟨rfl, ⟨{ h.ok with left := ?_, left2 := ?_, torn := ?_, torn2 := ?_ }, ?_, hk1.blk h.row h.ne.symm, hk1.own h.own (own_ne h.own h.blk (by decide)), h.hf, h.hl⟩, hk1, by simp [World.setCell]⟩
  · simp only [FM.fuse]; omega
  · simp only [FM.fuse]; omega
  · simp only [FM.fuse]; omega
  · simp only [FM.fuse]; omega
  · have := ((h.blk.set_ 2 (.bool !F.off)).set_ 4 (.int .i64 a)).set_ 5 (.int .i64 b)
    subst ha hb
    simpa [fcells, FM.fuse] using this
theorem fuse_any {w : World} {base f lb : Nat} {F : FM} {pv : Value} (hF : IsF w base f lb F pv) (k t : Int) (hk : k ≤ 9223372036854775807) :
    Calls Tryz.prog 10 #[.pointer (some ⟨f, 0, none⟩), .int .i64 k, .int .i64 t] w fun e w' => e = .returned (.tuple #[]) ∧ IsF w' base f lb (F.fuse k t) pv ∧ Keeps w w' (· = f) ∧ w'.heap.size = w.heap.size := by
  obtain ⟨-, -, c2, c3, c4, c5⟩ := hF.cells
  have hf2 := hF.blk.frozen 2
  have hf4 := hF.blk.frozen 4
  have hf5 := hF.blk.frozen 5
  go_enter Tryz.func10, Tryz.ntmps10
  go_wp2
  all_goals (go_end0; exact fuse_end hF k t _ _ hk (by omega) (by omega))

section
variable {w0 w w' : World} {M M' : Mem} {L : List Ent} {f lb : Nat} {F F' : FM} {pv pv' : Value}
theorem fs_fuse (H : FS w0 w M f F L) (k t : Int) (hk : k ≤ 9223372036854775807) : Calls Tryz.prog 10 #[.pointer (some ⟨f, 0, none⟩), .int .i64 k, .int .i64 t] w fun e w' => e = .returned (.tuple #[]) ∧ FS w0 w' M f (F.fuse k t) L := by
  obtain ⟨ok, lb, pv, H⟩ := H
  refine (fuse_any (isF_of H ok) k t hk).mono ?_
  rintro e w' ⟨rfl, h1, h2, _⟩
  exact ⟨rfl, h1.ok, lb, _, ef_turn H h1 (h2.imp fun k _ h => .inl h) fun k hk => .inl hk⟩
end
end Go.Proofs.YtpomjaidaignpaaGreat
