/- A file of blocks in memory, and the contracts of block's small methods. -/
import Derived.Test.YtpomjaidaignpaaBz
set_option linter.unusedVariables false
set_option linter.unusedSimpArgs false
namespace Go.Proofs.Ytpomjaidaignpaa
open Go.RowKit Wd

/-- A write that is pending. -/
structure PW where
  at_ : Nat
  was : List UInt8
  now : List UInt8
/-- A file. -/
structure FM where
  n : Nat
  l : List UInt8
  pend : List PW
  set : Bool
  off : Bool
  left : Int
  torn : Int
def pc (p : PW) : List Value := .int .i64 (p.at_ : Int) :: (bv p.was ++ bv p.now)
def pcs (l : List PW) : List Value := l.flatMap pc
def PW.ok (p : PW) (n : Nat) : Prop := p.at_ < n ∧ p.was.length = 64 ∧ p.now.length = 64
structure FM.ok (F : FM) : Prop where
  n1 : 1 ≤ F.n
  n2 : F.n ≤ 4096
  len : F.l.length = 64 * F.n
  pend : ∀ p ∈ F.pend, p.ok F.n
  left : 0 ≤ F.left
  left2 : F.left ≤ 9223372036854775807
  torn : 0 ≤ F.torn
  torn2 : F.torn ≤ 64

/-- The cells of a file's struct. -/
def fcells (lb : Nat) (F : FM) (pv : Value) : List Value := [.slice (some ⟨lb, 0, none⟩) F.n F.n, pv, .bool F.set, .bool F.off, .int .i64 F.left, .int .i64 F.torn]
/-- In the world w the file F lies at block f, its bytes in block lb, all from block base on. -/
structure IsF (w : World) (base f lb : Nat) (F : FM) (pv : Value) : Prop where
  ok : F.ok
  blk : Blk w f 82 (fcells lb F pv)
  row : Blk w lb 111 (bv F.l)
  own : w.ownsRow base 113 129 pv F.pend.length (pcs F.pend)
  hf : base ≤ f
  hl : base ≤ lb

theorem IsF.cells {w : World} {base f lb : Nat} {F : FM} {pv : Value} (h : IsF w base f lb F pv) :
    w.cell? ⟨f, 0, none⟩ = some (.slice (some ⟨lb, 0, none⟩) F.n F.n) ∧ w.cell? ⟨f, 1, none⟩ = some pv ∧ w.cell? ⟨f, 2, none⟩ = some (.bool F.set) ∧ w.cell? ⟨f, 3, none⟩ = some (.bool F.off) ∧
    w.cell? ⟨f, 4, none⟩ = some (.int .i64 F.left) ∧ w.cell? ⟨f, 5, none⟩ = some (.int .i64 F.torn) := by
  refine ⟨?_, ?_, ?_, ?_, ?_, ?_⟩ <;> (rw [h.blk.cell]; rfl)
theorem IsF.ne {w : World} {base f lb : Nat} {F : FM} {pv : Value} (h : IsF w base f lb F pv) : f ≠ lb := h.blk.ne_ h.row (by decide)
theorem IsF.keep {w w' : World} {base f lb : Nat} {F : FM} {pv : Value} {S : Nat → Prop} (h : IsF w base f lb F pv) (hk : Keeps w w' S) (h1 : ¬ S f) (h2 : ¬ S lb) (h3 : ∀ k, pv.ownBlock = some k → ¬ S k) : IsF w' base f lb F pv :=
  ⟨h.ok, hk.blk h.blk h1, hk.blk h.row h2, hk.own h.own h3, h.hf, h.hl⟩
theorem IsF.below {w w' : World} {base f lb : Nat} {F : FM} {pv : Value} (h : IsF w base f lb F pv) (hk : Below w.heap.size w w') : IsF w' base f lb F pv :=
  h.keep (Keeps.of_below hk fun _ => False) id id fun _ _ => id

theorem Try.info62 : (Try.prog.info? 111).map (fun i => (i.zero, i.size, i.bytes)) = some (some (.agg (Array.replicate 64 (.int .u8 0))), 64, 64) := by kernel_rfl

theorem new_no (n : Int) (w : World) (h : n < 1 ∨ 4096 < n) : Calls Try.prog 20 #[.int .i64 n] w fun e w' => e = .returned (.tuple #[.pointer none, .int .i64 1]) ∧ w = w' := by
  rcases h with h | h
  · go_enter Try.func20, Try.ntmps20
    go_wp2
    go_ret2
    exact ⟨rfl, rfl⟩
  · have h' : ¬ n < 1 := by omega
    go_enter Try.func20, Try.ntmps20
    go_wp2
    go_ret2
    exact ⟨rfl, rfl⟩

/-- A fresh file. -/
def FM.new (n : Nat) : FM := ⟨n, List.replicate (64 * n) 0, [], false, false, 0, 0⟩
theorem FM.new_ok (n : Nat) (h1 : 1 ≤ n) (h2 : n ≤ 4096) : (FM.new n).ok := ⟨h1, h2, by simp [FM.new], fun p hp => by simp [FM.new] at hp, by simp [FM.new], by simp [FM.new], by simp [FM.new], by simp [FM.new]⟩
theorem new_yes (n : Nat) (w : World) (h1 : 1 ≤ n) (h2 : n ≤ 4096) : Calls Try.prog 20 #[.int .i64 (n : Int)] w fun e w' =>
    e = .returned (.tuple #[.pointer (some ⟨w.heap.size + 1, 0, none⟩), .int .i64 0]) ∧ IsF w' w.heap.size (w.heap.size + 1) w.heap.size (FM.new n) (.slice none 0 0) ∧ Below w.heap.size w w' ∧ w'.heap.size = w.heap.size + 2 := by
  obtain ⟨i0, hi, hz0, hz1, hz2⟩ := info_parts Try.info62
  have hmk : ∀ w : World, (Instr.makeSlice 79 (.int .i64 (n : Int)) (.int .i64 (n : Int))).run Try.prog w = .ok (.slice (some ⟨w.heap.size, 0, none⟩) n n) (w.alloc (.cells (bv (List.replicate (64 * n) 0)).toArray 111)) := fun w => by
    have := run_make w 79 111 i0 _ Try.underlying79 hi hz0 .i64 .i64 n n (by omega) (by omega) (by rw [hz2]; omega) (by omega)
    rw [this, hz1]
    simp only [Value.cells, Int.toNat_natCast]
    rw [made_same _ (.int .u8 0) 64 rfl (by omega), Nat.mul_comm]
    simp [bv]
  clear hi hz0 hz1 hz2
  have g1 : ¬ (n : Int) < 1 := by omega
  have g2 : ¬ (4096 : Int) < n := by omega
  go_enter Try.func20, Try.ntmps20
  go_wp2
  go_ret2
  refine ⟨rfl, ⟨FM.new_ok n h1 h2, ?_, ?_, World.ownsRow_nil _ _ _ _, by omega, by omega⟩, ?_, by simp⟩
  · have := Blk.new (w.alloc (.cells (bv (List.replicate (64 * n) 0)).toArray 111)) 82 (fcells w.heap.size (FM.new n) (.slice none 0 0))
    simpa [fcells, FM.new] using this
  · exact (Blk.new w 111 _).alloc _
  · exact ((Below.refl _ _).alloc (Nat.le_refl _) _).alloc (by simp) _

theorem blocks_any {w : World} {base f lb : Nat} {F : FM} {pv : Value} (h : IsF w base f lb F pv) :
    Calls Try.prog 59 #[.pointer (some ⟨f, 0, none⟩)] w fun e w' => e = .returned (.int .i64 (F.n : Int)) ∧ w = w' := by
  obtain ⟨c0, -, -, -, -, -⟩ := h.cells
  go_enter Try.func59, Try.ntmps59
  go_wp2
  go_ret
  exact ⟨rfl, rfl⟩
theorem sync_any {w : World} {base f lb : Nat} {F : FM} {pv : Value} (h : IsF w base f lb F pv) :
    Calls Try.prog 52 #[.pointer (some ⟨f, 0, none⟩)] w fun e w' => e = .returned (.tuple #[]) ∧ IsF w' base f lb { F with pend := [] } (.slice none 0 0) ∧ Keeps w w' (· = f) ∧ w'.heap.size = w.heap.size := by
  obtain ⟨-, c1, -, -, -, -⟩ := h.cells
  have hf := h.blk.frozen 1
  have fin : IsF (w.setCell ⟨f, 1, none⟩ (.slice none 0 0)) base f lb { F with pend := [] } (.slice none 0 0) :=
    ⟨{ h.ok with pend := fun p hp => by cases hp }, h.blk.set_ 1 _, h.row.far h.ne.symm _, World.ownsRow_nil _ _ _ _, h.hf, h.hl⟩
  have HF := Lib.hid fin
  clear fin
  go_enter Try.func52, Try.ntmps52
  go_wp2
  go_end0
  exact ⟨rfl, HF.out, Keeps.setCell (p := ⟨f, 1, none⟩) (Keeps.refl w (· = f)) (.inl rfl) _, by simp [World.setCell]⟩
end Go.Proofs.Ytpomjaidaignpaa
