/- Contracts of block's Fuse and Read. -/
import Derived.Test.YtinhpiggakillaaBb
import Derived.WalkLawsBesides
import Derived.WalkSpells
set_option linter.unusedVariables false
set_option linter.unusedSimpArgs false
namespace Go.Proofs.Ytinhpiggakillaa
open Go.RowKit Wd

def FM.fuse (F : FM) (k t : Int) : FM := { F with set := !F.off, left := max 0 k, torn := min 64 (max 0 t) }
theorem fuse_end {w : World} {base f lb : Nat} {F : FM} {pv : Value} (h : IsF w base f lb F pv) (k t a b : Int) (hk : k ≤ 9223372036854775807) (ha : a = max 0 k) (hb : b = min 64 (max 0 t)) :
    Ending.returned (.tuple #[]) = Ending.returned (.tuple #[]) ∧ IsF (((w.setCell ⟨f, 2, none⟩ (.bool !F.off)).setCell ⟨f, 4, none⟩ (.int .i64 a)).setCell ⟨f, 5, none⟩ (.int .i64 b)) base f lb (F.fuse k t) pv ∧
      Keeps w (((w.setCell ⟨f, 2, none⟩ (.bool !F.off)).setCell ⟨f, 4, none⟩ (.int .i64 a)).setCell ⟨f, 5, none⟩ (.int .i64 b)) (· = f) ∧
      (((w.setCell ⟨f, 2, none⟩ (.bool !F.off)).setCell ⟨f, 4, none⟩ (.int .i64 a)).setCell ⟨f, 5, none⟩ (.int .i64 b)).heap.size = w.heap.size := by
  have hk1 := ((Keeps.refl w (· = f)).setCell (p := ⟨f, 2, none⟩) (.inl rfl) (.bool !F.off)).setCell (p := ⟨f, 4, none⟩) (.inl rfl) (.int .i64 a) |>.setCell (p := ⟨f, 5, none⟩) (.inl rfl) (.int .i64 b)
  refine ⟨rfl, ⟨{ h.ok with left := ?_, left2 := ?_, torn := ?_, torn2 := ?_ }, ?_, hk1.blk h.row h.ne.symm, hk1.own h.own (own_ne h.own h.blk (by decide)), h.hf, h.hl⟩, hk1, by simp [World.setCell]⟩
  · simp only [FM.fuse]; omega
  · simp only [FM.fuse]; omega
  · simp only [FM.fuse]; omega
  · simp only [FM.fuse]; omega
  · have := ((h.blk.set_ 2 (.bool !F.off)).set_ 4 (.int .i64 a)).set_ 5 (.int .i64 b)
    subst ha hb
    simpa [fcells, FM.fuse] using this
theorem fuse_any {w : World} {base f lb : Nat} {F : FM} {pv : Value} (hF : IsF w base f lb F pv) (k t : Int) (hk : k ≤ 9223372036854775807) :
    Calls Try.prog 19 #[.pointer (some ⟨f, 0, none⟩), .int .i64 k, .int .i64 t] w fun e w' => e = .returned (.tuple #[]) ∧ IsF w' base f lb (F.fuse k t) pv ∧ Keeps w w' (· = f) ∧ w'.heap.size = w.heap.size := by
  obtain ⟨-, -, c2, c3, c4, c5⟩ := hF.cells
  have hf2 := hF.blk.frozen 2
  have hf4 := hF.blk.frozen 4
  have hf5 := hF.blk.frozen 5
  go_enter Try.func19, Try.ntmps19
  go_wp2
  all_goals (go_end0; exact fuse_end hF k t _ _ hk (by omega) (by omega))

theorem Try.zero62 : (Try.prog.info? 62).map (fun i => (i.zero, i.size)) = some (some (.agg (Array.replicate 64 (.int .u8 0))), 64) := by kernel_rfl
theorem Try.size62 : (Try.prog.info? 62).map (·.size) = some 64 := by kernel_rfl

/-- Block i's bytes. -/
def FM.at_ (F : FM) (i : Nat) : List UInt8 := (F.l.drop (64 * i)).take 64
theorem FM.at_length {F : FM} (h : F.ok) {i : Nat} (hi : i < F.n) : (F.at_ i).length = 64 := by
  have := h.len
  simp only [FM.at_, List.length_take, List.length_drop]
  omega
theorem IsF.range {w : World} {base f lb : Nat} {F : FM} {pv : Value} (h : IsF w base f lb F pv) (i : Nat) : w.rangeAt lb (i * 64) (bv (F.at_ i)) :=
  h.row.range (i * 64) 64 _ (by rw [bv_drop, bv_take, Nat.mul_comm]; rfl)

set_option maxRecDepth 100000 in
theorem read_any {w : World} {base f lb : Nat} {F : FM} {pv : Value} (hF : IsF w base f lb F pv) (i : Nat) (hi : i < F.n) :
    Calls Try.prog 12 #[.pointer (some ⟨f, 0, none⟩), .int .i64 (i : Int)] w fun e w' =>
      e = .returned (.tuple #[.slice (some ⟨w.heap.size, 0, none⟩) 64 64, .int .i64 0]) ∧ Blk w' w.heap.size 62 (bv (F.at_ i)) ∧ Below w.heap.size w w' ∧ w'.heap.size = w.heap.size + 1 := by
  obtain ⟨c0, -, -, -, -, -⟩ := hF.cells
  have n2 := hF.ok.n2
  have g1 : ¬ (i : Int) < 0 := by omega
  have g2 : (i : Int) < (F.n : Int) := by omega
  have hlen : (bv (F.at_ i)).length = 64 := by rw [bv_length, FM.at_length hF.ok hi]
  have HL := Lib.hid hlen
  clear hlen
  go_enter Try.func12, Try.ntmps12
  go_wp2_with (first | (go_at_call 16; refine (blocks_any hF).mono ?_; rintro e w' ⟨rfl, rfl⟩) | (refine wpList_load_mid (by rfl) 62 (.tmp 20) (by rfl) lb (i * 64) (by rfl) (bv (F.at_ i)) _ (hF.range i) Try.underlying62 rfl (by rw [HL.out]; exact Try.size62) ?_) | (refine wpList_alloc_z (by rfl) 62 (by rfl) Try.zero62 ?_) | (refine wpList_store_new (by rfl) 62 (.tmp 6) (.tmp 21) (by rfl) w _ 62 (by rfl) (bv (F.at_ i)).toArray (by rfl) (by rfl) ?c1 ?c2 ?c3 ?_))
  case c1 => simp [Value.cells, HL.out]
  case c2 => simp only [List.size_toArray, HL.out]; exact Try.size62
  case c3 => exact all_oneCell_toArray (bv_one _)
  go_ret2
  exact ⟨rfl, Blk.new w _ _, (Below.refl _ _).alloc (Nat.le_refl _) _, by simp⟩
theorem read_no {w : World} {base f lb : Nat} {F : FM} {pv : Value} (hF : IsF w base f lb F pv) (i : Int) (hi : i < 0 ∨ (F.n : Int) ≤ i) :
    Calls Try.prog 12 #[.pointer (some ⟨f, 0, none⟩), .int .i64 i] w fun e w' => e = .returned (.tuple #[.slice none 0 0, .int .i64 4]) ∧ w = w' := by
  rcases hi with hi | hi
  · go_enter Try.func12, Try.ntmps12
    go_wp2
    go_ret2
    exact ⟨rfl, rfl⟩
  · have g1 : ¬ i < 0 := by omega
    go_enter Try.func12, Try.ntmps12
    go_wp2_with (go_at_call 16; refine (blocks_any hF).mono ?_; rintro e w' ⟨rfl, rfl⟩)
    go_ret2
    exact ⟨rfl, rfl⟩
end Go.Proofs.Ytinhpiggakillaa
