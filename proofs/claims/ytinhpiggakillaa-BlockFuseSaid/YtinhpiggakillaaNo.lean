/- Contracts of block's methods over nobody's file: the nil pointer, and a file without blocks. -/
import Derived.Test.YtinhpiggakillaaAw
set_option linter.unusedVariables false
set_option linter.unusedSimpArgs false
namespace Go.Proofs.Ytinhpiggakillaa
open Go.RowKit Wd

def zcells (s o : Bool) (l t : Int) : List Value := [.slice none 0 0, .slice none 0 0, .bool s, .bool o, .int .i64 l, .int .i64 t]
/-- A file without blocks. -/
def Zed (w : World) (b : Nat) : Prop := ∃ s o l t, Blk w b 57 (zcells s o l t)
/-- Nobody's file, from block base on. -/
def Nob (w : World) (base : Nat) (z : Value) : Prop := z = .pointer none ∨ ∃ b, z = .pointer (some ⟨b, 0, none⟩) ∧ base ≤ b ∧ Zed w b
theorem Zed.keep {w w' : World} {b : Nat} (h : Zed w b) (hk : Below w.heap.size w w') : Zed w' b := by
  obtain ⟨s, o, l, t, hb⟩ := h
  exact ⟨s, o, l, t, hb.below hk hb.lt⟩
theorem Nob.keep {w w' : World} {base : Nat} {z : Value} (h : Nob w base z) (hk : Below w.heap.size w w') : Nob w' base z := by
  rcases h with h | ⟨b, h1, h2, h3⟩
  · exact .inl h
  · exact .inr ⟨b, h1, h2, h3.keep hk⟩
theorem Nob.drew {w : World} {base : Nat} {z : Value} (h : Nob w base z) : Nob w.drew base z := h

theorem blocks_nob {w : World} {base : Nat} {z : Value} (h : Nob w base z) : Calls Try.prog 16 #[z] w fun e w' => e = .returned (.int .i64 0) ∧ w = w' := by
  rcases h with rfl | ⟨b, rfl, -, s, o, l, t, hb⟩
  · go_enter Try.func16, Try.ntmps16
    go_wp2
    go_ret
    exact ⟨rfl, rfl⟩
  · have c0 : w.cell? ⟨b, 0, none⟩ = some (.slice none 0 0) := by rw [hb.cell]; rfl
    go_enter Try.func16, Try.ntmps16
    go_wp2
    go_ret
    exact ⟨rfl, rfl⟩
theorem pending_nob {w : World} {base : Nat} {z : Value} (h : Nob w base z) : Calls Try.prog 18 #[z] w fun e w' => e = .returned (.int .i64 0) ∧ w = w' := by
  rcases h with rfl | ⟨b, rfl, -, s, o, l, t, hb⟩
  · go_enter Try.func18, Try.ntmps18
    go_wp2
    go_ret
    exact ⟨rfl, rfl⟩
  · have c0 : w.cell? ⟨b, 1, none⟩ = some (.slice none 0 0) := by rw [hb.cell]; rfl
    go_enter Try.func18, Try.ntmps18
    go_wp2
    go_ret
    exact ⟨rfl, rfl⟩
theorem dump_nob {w : World} {base : Nat} {z : Value} (h : Nob w base z) : Calls Try.prog 13 #[z] w fun e w' => e = .returned (.slice none 0 0) ∧ w = w' := by
  go_enter Try.func13, Try.ntmps13
  go_wp2_with (go_at_call 16; refine (blocks_nob h).mono ?_; rintro e w' ⟨rfl, rfl⟩)
  go_loopw [3, 7] (fun v i wr => v = .slice none 0 0 ∧ i = .int .i64 0 ∧ w = wr) (fun _ _ _ => 0)
  case atStart => exact ⟨rfl, rfl, rfl⟩
  case round =>
    obtain ⟨rfl, rfl, rfl⟩ := hrel
    go_wp2
    go_ret
    exact ⟨rfl, rfl⟩
theorem read_nob {w : World} {base : Nat} {z : Value} (h : Nob w base z) (i : Int) : Calls Try.prog 12 #[z, .int .i64 i] w fun e w' => e = .returned (.tuple #[.slice none 0 0, .int .i64 4]) ∧ w = w' := by
  by_cases hi : i < 0
  · go_enter Try.func12, Try.ntmps12
    go_wp2
    go_ret2
    exact ⟨rfl, rfl⟩
  · have hi' : (0 : Int) ≤ i := by omega
    go_enter Try.func12, Try.ntmps12
    go_wp2_with (go_at_call 16; refine (blocks_nob h).mono ?_; rintro e w' ⟨rfl, rfl⟩)
    go_ret2
    exact ⟨rfl, rfl⟩
theorem write_nob {w : World} {base : Nat} {z : Value} (h : Nob w base z) (i : Int) (v : Value) : Calls Try.prog 10 #[z, .int .i64 i, v] w fun e w' => e = .returned (.int .i64 4) ∧ w = w' := by
  by_cases hi : i < 0
  · go_enter Try.func10, Try.ntmps10
    go_wp2
    go_ret
    exact ⟨rfl, rfl⟩
  · have hi' : (0 : Int) ≤ i := by omega
    go_enter Try.func10, Try.ntmps10
    go_wp2_with (go_at_call 16; refine (blocks_nob h).mono ?_; rintro e w' ⟨rfl, rfl⟩)
    go_ret
    exact ⟨rfl, rfl⟩
theorem sync_nob {w : World} {base : Nat} {z : Value} (h : Nob w base z) (hs : base ≤ w.heap.size) : Calls Try.prog 20 #[z] w fun e w' => e = .returned (.tuple #[]) ∧ Nob w' base z ∧ Below base w w' := by
  rcases h with rfl | ⟨b, rfl, hle, s, o, l, t, hb⟩
  · go_enter Try.func20, Try.ntmps20
    go_wp2
    go_end0
    exact ⟨rfl, .inl rfl, Below.refl _ _⟩
  · have c0 : w.cell? ⟨b, 1, none⟩ = some (.slice none 0 0) := by rw [hb.cell]; rfl
    have hf := hb.frozen 1
    go_enter Try.func20, Try.ntmps20
    go_wp2
    go_end0
    exact ⟨rfl, .inr ⟨b, rfl, hle, s, o, l, t, hb.set_ 1 _⟩, ((Keeps.refl w (· = b)).setCell (p := ⟨b, 1, none⟩) (.inl rfl) _).below hs (fun k hk => by omega)⟩
theorem fuse_nob {w : World} {base : Nat} {z : Value} (h : Nob w base z) (hs : base ≤ w.heap.size) (k t : Int) : Calls Try.prog 19 #[z, .int .i64 k, .int .i64 t] w fun e w' => e = .returned (.tuple #[]) ∧ Nob w' base z ∧ Below base w w' := by
  rcases h with rfl | ⟨b, rfl, hle, s, o, l, tt, hb⟩
  · go_enter Try.func19, Try.ntmps19
    go_wp2
    go_end0
    exact ⟨rfl, .inl rfl, Below.refl _ _⟩
  · have c2 : w.cell? ⟨b, 2, none⟩ = some (.bool s) := by rw [hb.cell]; rfl
    have c3 : w.cell? ⟨b, 3, none⟩ = some (.bool o) := by rw [hb.cell]; rfl
    have c4 : w.cell? ⟨b, 4, none⟩ = some (.int .i64 l) := by rw [hb.cell]; rfl
    have c5 : w.cell? ⟨b, 5, none⟩ = some (.int .i64 tt) := by rw [hb.cell]; rfl
    have hf2 := hb.frozen 2
    have hf4 := hb.frozen 4
    have hf5 := hb.frozen 5
    have fin : ∀ x y z : Value, ∀ a c : Int, x = .bool !o → y = .int .i64 a → z = .int .i64 c →
        Nob (((w.setCell ⟨b, 2, none⟩ x).setCell ⟨b, 4, none⟩ y).setCell ⟨b, 5, none⟩ z) base (.pointer (some ⟨b, 0, none⟩)) ∧ Below base w (((w.setCell ⟨b, 2, none⟩ x).setCell ⟨b, 4, none⟩ y).setCell ⟨b, 5, none⟩ z) := by
      rintro x y z a c rfl rfl rfl
      exact ⟨.inr ⟨b, rfl, hle, !o, o, a, c, ((hb.set_ 2 _).set_ 4 _).set_ 5 _⟩, ((((Keeps.refl w (· = b)).setCell (p := ⟨b, 2, none⟩) (.inl rfl) _).setCell (p := ⟨b, 4, none⟩) (.inl rfl) _).setCell (p := ⟨b, 5, none⟩) (.inl rfl) _).below hs (fun k hk => by omega)⟩
    have FIN := Lib.hid fin
    clear fin
    go_enter Try.func19, Try.ntmps19
    go_wp2
    all_goals (go_end0; exact ⟨rfl, FIN.out _ _ _ _ _ rfl rfl rfl⟩)
theorem crash_nob {w : World} {base : Nat} {z : Value} (h : Nob w base z) (hs : base ≤ w.heap.size) (k t : Int) : Calls Try.prog 15 #[z, .int .i64 k, .int .i64 t] w fun e w' => e = .returned (.tuple #[]) ∧ Nob w' base z ∧ Below base w w' := by
  rcases h with rfl | ⟨b, rfl, hle, s, o, l, tt, hb⟩
  · refine (crash_nil k t w).mono ?_
    rintro e w' ⟨rfl, rfl⟩
    exact ⟨rfl, .inl rfl, Below.refl _ _⟩
  · have c1 : w.cell? ⟨b, 1, none⟩ = some (.slice none 0 0) := by rw [hb.cell]; rfl
    have c2 : w.cell? ⟨b, 2, none⟩ = some (.bool s) := by rw [hb.cell]; rfl
    have c3 : w.cell? ⟨b, 3, none⟩ = some (.bool o) := by rw [hb.cell]; rfl
    have hf1 := hb.frozen 1
    have hf2 := hb.frozen 2
    have hf3 := hb.frozen 3
    go_enter Try.func15, Try.ntmps15
    go_wp2
    all_goals
      generalize hw1 : (w.setCell ⟨b, 2, none⟩ (.bool false)).setCell ⟨b, 3, none⟩ (.bool false) = w1
      have hb1 : Blk w1 b 57 (zcells false false l tt) := by
        rw [← hw1]
        exact (hb.set_ 2 (.bool false)).set_ 3 (.bool false)
      have hk1 : Keeps w w1 (· = b) := by
        rw [← hw1]
        exact ((Keeps.refl w (· = b)).setCell (p := ⟨b, 2, none⟩) (.inl rfl) _).setCell (p := ⟨b, 3, none⟩) (.inl rfl) _
      clear hw1 c1 c2 c3 hf1 hf2 hf3
      have d1 : w1.cell? ⟨b, 1, none⟩ = some (.slice none 0 0) := by rw [hb1.cell]; rfl
      have hf1 := hb1.frozen 1
      have fin : Nob (w1.setCell ⟨b, 1, none⟩ (.slice none 0 0)) base (.pointer (some ⟨b, 0, none⟩)) ∧ Below base w (w1.setCell ⟨b, 1, none⟩ (.slice none 0 0)) :=
        ⟨.inr ⟨b, rfl, hle, false, false, l, tt, hb1.set_ 1 _⟩, (hk1.setCell (p := ⟨b, 1, none⟩) (.inl rfl) _).below hs (fun k hk => by omega)⟩
      have FIN := Lib.hid fin
      clear fin hb1 hk1
      go_wp2
      go_loopw [6] (fun i wr => i = .int .i64 (-1) ∧ w1 = wr) (fun _ _ => 0)
      case atStart => exact ⟨rfl, rfl⟩
      case round =>
        obtain ⟨rfl, rfl⟩ := hrel
        first
          | (have hx1 : (-1 : Int) < k := (by omega); go_wp2)
          | go_wp2
        go_end0
        exact ⟨rfl, FIN.out⟩
end Go.Proofs.Ytinhpiggakillaa
