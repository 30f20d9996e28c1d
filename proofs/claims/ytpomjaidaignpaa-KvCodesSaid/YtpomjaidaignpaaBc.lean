/- Contracts of block's Fuse and Read. -/
import Derived.Test.YtpomjaidaignpaaBb
import Derived.WalkLawsBesides
import Derived.WalkSpells
set_option linter.unusedVariables false
set_option linter.unusedSimpArgs false
namespace Go.Proofs.Ytpomjaidaignpaa
open Go.RowKit Wd

def FM.fuse (F : FM) (k t : Int) : FM := { F with set := !F.off, left := max 0 k, torn := min 64 (max 0 t) }
theorem Try.zero62 : (Try.prog.info? 111).map (fun i => (i.zero, i.size)) = some (some (.agg (Array.replicate 64 (.int .u8 0))), 64) := by kernel_rfl
theorem Try.size62 : (Try.prog.info? 111).map (·.size) = some 64 := by kernel_rfl

/-- Block i's bytes. -/
def FM.at_ (F : FM) (i : Nat) : List UInt8 := (F.l.drop (64 * i)).take 64
theorem FM.at_length {F : FM} (h : F.ok) {i : Nat} (hi : i < F.n) : (F.at_ i).length = 64 := by
  have := h.len
  simp only [FM.at_, List.length_take, List.length_drop]
  omega
theorem IsF.range {w : World} {base f lb : Nat} {F : FM} {pv : Value} (h : IsF w base f lb F pv) (i : Nat) : w.rangeAt lb (i * 64) (bv (F.at_ i)) :=
  h.row.range (i * 64) 64 _ (by rw [bv_drop, bv_take, Nat.mul_comm]; rfl)

set_option maxRecDepth 100000 in
theorem read_any {w : World} {base f lb : Nat} {F : FM} {pv : Value} (hF : IsF w base f lb F pv) (i : Nat) (hi : i < F.n) :
    Calls Try.prog 67 #[.pointer (some ⟨f, 0, none⟩), .int .i64 (i : Int)] w fun e w' =>
      e = .returned (.tuple #[.slice (some ⟨w.heap.size, 0, none⟩) 64 64, .int .i64 0]) ∧ Blk w' w.heap.size 111 (bv (F.at_ i)) ∧ Below w.heap.size w w' ∧ w'.heap.size = w.heap.size + 1 := by
  obtain ⟨c0, -, -, -, -, -⟩ := hF.cells
  have n2 := hF.ok.n2
  have g1 : ¬ (i : Int) < 0 := by omega
  have g2 : (i : Int) < (F.n : Int) := by omega
  have hlen : (bv (F.at_ i)).length = 64 := by rw [bv_length, FM.at_length hF.ok hi]
  have HL := Lib.hid hlen
  clear hlen
  go_enter Try.func67, Try.ntmps67
  go_wp2_with (first | (go_at_call 59; refine (blocks_any hF).mono ?_; rintro e w' ⟨rfl, rfl⟩) | (refine wpList_load_mid (by rfl) 111 (.tmp 20) (by rfl) lb (i * 64) (by rfl) (bv (F.at_ i)) _ (hF.range i) Try.underlying111 rfl (by rw [HL.out]; exact Try.size62) ?_) | (refine wpList_alloc_z (by rfl) 111 (by rfl) Try.zero62 ?_) | (refine wpList_store_new (by rfl) 111 (.tmp 6) (.tmp 21) (by rfl) w _ 111 (by rfl) (bv (F.at_ i)).toArray (by rfl) (by rfl) ?c1 ?c2 ?c3 ?_))
  case c1 => simp [Value.cells, HL.out]
  case c2 => simp only [List.size_toArray, HL.out]; exact Try.size62
  case c3 => exact all_oneCell_toArray (bv_one _)
  go_ret2
  exact ⟨rfl, Blk.new w _ _, (Below.refl _ _).alloc (Nat.le_refl _) _, by simp⟩
theorem read_no {w : World} {base f lb : Nat} {F : FM} {pv : Value} (hF : IsF w base f lb F pv) (i : Int) (hi : i < 0 ∨ (F.n : Int) ≤ i) :
    Calls Try.prog 67 #[.pointer (some ⟨f, 0, none⟩), .int .i64 i] w fun e w' => e = .returned (.tuple #[.slice none 0 0, .int .i64 4]) ∧ w = w' := by
  rcases hi with hi | hi
  · go_enter Try.func67, Try.ntmps67
    go_wp2
    go_ret2
    exact ⟨rfl, rfl⟩
  · have g1 : ¬ i < 0 := by omega
    go_enter Try.func67, Try.ntmps67
    go_wp2_with (go_at_call 59; refine (blocks_any hF).mono ?_; rintro e w' ⟨rfl, rfl⟩)
    go_ret2
    exact ⟨rfl, rfl⟩
end Go.Proofs.Ytpomjaidaignpaa
