/- What a byte's type is. -/
import Derived.Test.YtepgmebklhemgaaGreatDoorChecked
import Derived.RowKit
import Derived.Test.YtepgmebklhemgaaGreatDoorA1
import Derived.WalkLawsBesides
import Derived.WalkSpells
import Derived.Test.YtepgmebklhemgaaGreatDoorA3
import Derived.ArgAppend
import Derived.Laws.CopyOwn
import Derived.Maps.AppendAt
import Derived.Laws.IdiomStrings
namespace Go.Proofs.YtepgmebklhemgaaGreatDoor
open Go.RowKit
theorem Tryz.info5 : (Tryz.prog.info? 5).map (fun i => (i.zero, i.size, i.bytes)) = some (some (.int .u8 0), 1, 1) := by kernel_rfl
end Go.Proofs.YtepgmebklhemgaaGreatDoor
/- Rows of bytes that are being filled; what a byte's type is. -/
set_option linter.unusedVariables false
set_option linter.unusedSimpArgs false
namespace Go.Proofs.YtepgmebklhemgaaGreatDoor
open Go.RowKit Wd

/-- What a fresh row of n bytes holds when the first k are c. -/
def filling (n : Nat) (c : UInt8) (k : Nat) : List UInt8 := List.replicate k c ++ List.replicate (n - k) 0
theorem filling_full (n : Nat) (c : UInt8) : filling n c n = List.replicate n c := by simp [filling]
theorem filling_zero (n : Nat) (c : UInt8) : filling n c 0 = List.replicate n 0 := by simp [filling]
theorem filling_length (n : Nat) (c : UInt8) (k : Nat) (h : k ≤ n) : (filling n c k).length = n := by simp [filling]; omega
theorem filling_set (n : Nat) (c : UInt8) (k : Nat) (h : k < n) : (filling n c k).set k c = filling n c (k + 1) := by
  unfold filling
  apply List.ext_getElem
  · simp; omega
  · intro j h1 h2
    simp only [List.getElem_set, List.getElem_append, List.length_replicate, List.getElem_replicate]
    split <;> split <;> (try split) <;> first | rfl | omega
theorem made_bv (n : Nat) : madeCells #[.int .u8 0] n = (bv (filling n 0 0)).toArray := by
  apply Array.ext
  · simp [madeCells, bv, filling]
  · intro j h1 h2
    simp [madeCells, bv, filling, Nat.mod_one]

end Go.Proofs.YtepgmebklhemgaaGreatDoor
/- A file of blocks in memory, and the contracts of block's small methods. -/
set_option linter.unusedVariables false
set_option linter.unusedSimpArgs false
namespace Go.Proofs.YtepgmebklhemgaaGreatDoor
open Go.RowKit Wd

/-- A write that is pending. -/
structure PW where
  at_ : Nat
  was : List UInt8
  now : List UInt8
/-- A file. -/
structure FM where
  n : Nat
  l : List UInt8
  pend : List PW
  set : Bool
  off : Bool
  left : Int
  torn : Int
def pc (p : PW) : List Value := .int .i64 (p.at_ : Int) :: (bv p.was ++ bv p.now)
def pcs (l : List PW) : List Value := l.flatMap pc
def PW.ok (p : PW) (n : Nat) : Prop := p.at_ < n ∧ p.was.length = 64 ∧ p.now.length = 64
structure FM.ok (F : FM) : Prop where
  n1 : 1 ≤ F.n
  n2 : F.n ≤ 4096
  len : F.l.length = 64 * F.n
  pend : ∀ p ∈ F.pend, p.ok F.n
  left : 0 ≤ F.left
  left2 : F.left ≤ 9223372036854775807
  torn : 0 ≤ F.torn
  torn2 : F.torn ≤ 64

/-- The cells of a file's struct. -/
def fcells (lb : Nat) (F : FM) (pv : Value) : List Value := [.slice (some ⟨lb, 0, none⟩) F.n F.n, pv, .bool F.set, .bool F.off, .int .i64 F.left, .int .i64 F.torn]
/-- In the world w the file F lies at block f, its bytes in block lb, all from block base on. -/
structure IsF (w : World) (base f lb : Nat) (F : FM) (pv : Value) : Prop where
  ok : F.ok
  blk : Blk w f 95 (fcells lb F pv)
  row : Blk w lb 91 (bv F.l)
  own : w.ownsRow base 162 129 pv F.pend.length (pcs F.pend)
  hf : base ≤ f
  hl : base ≤ lb

theorem IsF.cells {w : World} {base f lb : Nat} {F : FM} {pv : Value} (h : IsF w base f lb F pv) :
    w.cell? ⟨f, 0, none⟩ = some (.slice (some ⟨lb, 0, none⟩) F.n F.n) ∧ w.cell? ⟨f, 1, none⟩ = some pv ∧ w.cell? ⟨f, 2, none⟩ = some (.bool F.set) ∧ w.cell? ⟨f, 3, none⟩ = some (.bool F.off) ∧
    w.cell? ⟨f, 4, none⟩ = some (.int .i64 F.left) ∧ w.cell? ⟨f, 5, none⟩ = some (.int .i64 F.torn) := by
  refine ⟨?_, ?_, ?_, ?_, ?_, ?_⟩ <;> (rw [h.blk.cell]; rfl)
theorem IsF.ne {w : World} {base f lb : Nat} {F : FM} {pv : Value} (h : IsF w base f lb F pv) : f ≠ lb := h.blk.ne_ h.row (by decide)
theorem IsF.keep {w w' : World} {base f lb : Nat} {F : FM} {pv : Value} {S : Nat → Prop} (h : IsF w base f lb F pv) (hk : Keeps w w' S) (h1 : ¬ S f) (h2 : ¬ S lb) (h3 : ∀ k, pv.ownBlock = some k → ¬ S k) : IsF w' base f lb F pv :=
  ⟨h.ok, hk.blk h.blk h1, hk.blk h.row h2, hk.own h.own h3, h.hf, h.hl⟩
theorem IsF.below {w w' : World} {base f lb : Nat} {F : FM} {pv : Value} (h : IsF w base f lb F pv) (hk : Below w.heap.size w w') : IsF w' base f lb F pv :=
  h.keep (Keeps.of_below hk fun _ => False) id id fun _ _ => id

theorem Tryz.info62 : (Tryz.prog.info? 91).map (fun i => (i.zero, i.size, i.bytes)) = some (some (.agg (Array.replicate 64 (.int .u8 0))), 64, 64) := by kernel_rfl

theorem new_no (n : Int) (w : World) (h : n < 1 ∨ 4096 < n) : Calls Tryz.prog 25 #[.int .i64 n] w fun e w' => e = .returned (.tuple #[.pointer none, .int .i64 1]) ∧ w = w' := by
  rcases h with h | h
  · go_enter Tryz.func25, Tryz.ntmps25
    go_wp2
    go_ret2
    exact ⟨rfl, rfl⟩
  · have h' : ¬ n < 1 := by omega
    go_enter Tryz.func25, Tryz.ntmps25
    go_wp2
    go_ret2
    exact ⟨rfl, rfl⟩

/-- A fresh file. -/
def FM.new (n : Nat) : FM := ⟨n, List.replicate (64 * n) 0, [], false, false, 0, 0⟩
theorem FM.new_ok (n : Nat) (h1 : 1 ≤ n) (h2 : n ≤ 4096) : (FM.new n).ok := ⟨h1, h2, by simp [FM.new], fun p hp => by simp [FM.new] at hp, by simp [FM.new], by simp [FM.new], by simp [FM.new], by simp [FM.new]⟩
theorem new_yes (n : Nat) (w : World) (h1 : 1 ≤ n) (h2 : n ≤ 4096) : Calls Tryz.prog 25 #[.int .i64 (n : Int)] w fun e w' =>
    e = .returned (.tuple #[.pointer (some ⟨w.heap.size + 1, 0, none⟩), .int .i64 0]) ∧ IsF w' w.heap.size (w.heap.size + 1) w.heap.size (FM.new n) (.slice none 0 0) ∧ Below w.heap.size w w' ∧ w'.heap.size = w.heap.size + 2 := by
  obtain ⟨i0, hi, hz0, hz1, hz2⟩ := info_parts Tryz.info62
  have hmk : ∀ w : World, (Instr.makeSlice 92 (.int .i64 (n : Int)) (.int .i64 (n : Int))).run Tryz.prog w = .ok (.slice (some ⟨w.heap.size, 0, none⟩) n n) (w.alloc (.cells (bv (List.replicate (64 * n) 0)).toArray 91)) := fun w => by
    have := run_make w 92 91 i0 _ Tryz.underlying92 hi hz0 .i64 .i64 n n (by omega) (by omega) (by rw [hz2]; omega) (by omega)
    rw [this, hz1]
    simp only [Value.cells, Int.toNat_natCast]
    rw [made_same _ (.int .u8 0) 64 rfl (by omega), Nat.mul_comm]
    simp [bv]
  clear hi hz0 hz1 hz2
  have g1 : ¬ (n : Int) < 1 := by omega
  have g2 : ¬ (4096 : Int) < n := by omega
  go_enter Tryz.func25, Tryz.ntmps25
  go_wp2
  go_ret2
  refine ⟨rfl, ⟨FM.new_ok n h1 h2, ?_, ?_, World.ownsRow_nil _ _ _ _, by omega, by omega⟩, ?_, by simp⟩
  · have := Blk.new (w.alloc (.cells (bv (List.replicate (64 * n) 0)).toArray 91)) 95 (fcells w.heap.size (FM.new n) (.slice none 0 0))
    simpa [fcells, FM.new] using this
  · exact (Blk.new w 91 _).alloc _
  · exact ((Below.refl _ _).alloc (Nat.le_refl _) _).alloc (by simp) _

theorem blocks_any {w : World} {base f lb : Nat} {F : FM} {pv : Value} (h : IsF w base f lb F pv) :
    Calls Tryz.prog 33 #[.pointer (some ⟨f, 0, none⟩)] w fun e w' => e = .returned (.int .i64 (F.n : Int)) ∧ w = w' := by
  obtain ⟨c0, -, -, -, -, -⟩ := h.cells
  go_enter Tryz.func33, Tryz.ntmps33
  go_wp2
  go_ret
  exact ⟨rfl, rfl⟩
theorem sync_any {w : World} {base f lb : Nat} {F : FM} {pv : Value} (h : IsF w base f lb F pv) :
    Calls Tryz.prog 58 #[.pointer (some ⟨f, 0, none⟩)] w fun e w' => e = .returned (.tuple #[]) ∧ IsF w' base f lb { F with pend := [] } (.slice none 0 0) ∧ Keeps w w' (· = f) ∧ w'.heap.size = w.heap.size := by
  obtain ⟨-, c1, -, -, -, -⟩ := h.cells
  have hf := h.blk.frozen 1
  have fin : IsF (w.setCell ⟨f, 1, none⟩ (.slice none 0 0)) base f lb { F with pend := [] } (.slice none 0 0) :=
    ⟨{ h.ok with pend := fun p hp => by cases hp }, h.blk.set_ 1 _, h.row.far h.ne.symm _, World.ownsRow_nil _ _ _ _, h.hf, h.hl⟩
  have HF := Lib.hid fin
  clear fin
  go_enter Tryz.func58, Tryz.ntmps58
  go_wp2
  go_end0
  exact ⟨rfl, HF.out, Keeps.setCell (p := ⟨f, 1, none⟩) (Keeps.refl w (· = f)) (.inl rfl) _, by simp [World.setCell]⟩
end Go.Proofs.YtepgmebklhemgaaGreatDoor
/- Contracts of block's Fuse and Read. -/
set_option linter.unusedVariables false
set_option linter.unusedSimpArgs false
namespace Go.Proofs.YtepgmebklhemgaaGreatDoor
open Go.RowKit Wd

def FM.fuse (F : FM) (k t : Int) : FM := { F with set := !F.off, left := max 0 k, torn := min 64 (max 0 t) }
theorem Tryz.zero62 : (Tryz.prog.info? 91).map (fun i => (i.zero, i.size)) = some (some (.agg (Array.replicate 64 (.int .u8 0))), 64) := by kernel_rfl
theorem Tryz.size62 : (Tryz.prog.info? 91).map (·.size) = some 64 := by kernel_rfl

/-- Block i's bytes. -/
def FM.at_ (F : FM) (i : Nat) : List UInt8 := (F.l.drop (64 * i)).take 64
theorem FM.at_length {F : FM} (h : F.ok) {i : Nat} (hi : i < F.n) : (F.at_ i).length = 64 := by
  have := h.len
  simp only [FM.at_, List.length_take, List.length_drop]
  omega
theorem IsF.range {w : World} {base f lb : Nat} {F : FM} {pv : Value} (h : IsF w base f lb F pv) (i : Nat) : w.rangeAt lb (i * 64) (bv (F.at_ i)) :=
  h.row.range (i * 64) 64 _ (by rw [bv_drop, bv_take, Nat.mul_comm]; rfl)

set_option maxRecDepth 100000 in
theorem read_any {w : World} {base f lb : Nat} {F : FM} {pv : Value} (hF : IsF w base f lb F pv) (i : Nat) (hi : i < F.n) :
    Calls Tryz.prog 122 #[.pointer (some ⟨f, 0, none⟩), .int .i64 (i : Int)] w fun e w' =>
      e = .returned (.tuple #[.slice (some ⟨w.heap.size, 0, none⟩) 64 64, .int .i64 0]) ∧ Blk w' w.heap.size 91 (bv (F.at_ i)) ∧ Below w.heap.size w w' ∧ w'.heap.size = w.heap.size + 1 := by
  obtain ⟨c0, -, -, -, -, -⟩ := hF.cells
  have n2 := hF.ok.n2
  have g1 : ¬ (i : Int) < 0 := by omega
  have g2 : (i : Int) < (F.n : Int) := by omega
  have hlen : (bv (F.at_ i)).length = 64 := by rw [bv_length, FM.at_length hF.ok hi]
  have HL := Lib.hid hlen
  clear hlen
  go_enter Tryz.func122, Tryz.ntmps122
  go_wp2_with (first | (go_at_call 33; refine (blocks_any hF).mono ?_; rintro e w' ⟨rfl, rfl⟩) | (refine wpList_load_mid (by rfl) 91 (.tmp 20) (by rfl) lb (i * 64) (by rfl) (bv (F.at_ i)) _ (hF.range i) Tryz.underlying91 rfl (by rw [HL.out]; exact Tryz.size62) ?_) | (refine wpList_alloc_z (by rfl) 91 (by rfl) Tryz.zero62 ?_) | (refine wpList_store_new (by rfl) 91 (.tmp 6) (.tmp 21) (by rfl) w _ 91 (by rfl) (bv (F.at_ i)).toArray (by rfl) (by rfl) ?c1 ?c2 ?c3 ?_))
  case c1 => simp [Value.cells, HL.out]
  case c2 => simp only [List.size_toArray, HL.out]; exact Tryz.size62
  case c3 => exact all_oneCell_toArray (bv_one _)
  go_ret2
  exact ⟨rfl, Blk.new w _ _, (Below.refl _ _).alloc (Nat.le_refl _) _, by simp⟩
theorem read_no {w : World} {base f lb : Nat} {F : FM} {pv : Value} (hF : IsF w base f lb F pv) (i : Int) (hi : i < 0 ∨ (F.n : Int) ≤ i) :
    Calls Tryz.prog 122 #[.pointer (some ⟨f, 0, none⟩), .int .i64 i] w fun e w' => e = .returned (.tuple #[.slice none 0 0, .int .i64 4]) ∧ w = w' := by
  rcases hi with hi | hi
  · go_enter Tryz.func122, Tryz.ntmps122
    go_wp2
    go_ret2
    exact ⟨rfl, rfl⟩
  · have g1 : ¬ i < 0 := by omega
    go_enter Tryz.func122, Tryz.ntmps122
    go_wp2_with (go_at_call 33; refine (blocks_any hF).mono ?_; rintro e w' ⟨rfl, rfl⟩)
    go_ret2
    exact ⟨rfl, rfl⟩
end Go.Proofs.YtepgmebklhemgaaGreatDoor
/- Contract of block's Write. -/
set_option linter.unusedVariables false
set_option linter.unusedSimpArgs false
namespace Go.Proofs.YtepgmebklhemgaaGreatDoor
open Go.RowKit Wd

/-- Bytes behind a store into their midst. -/
def spl (l : List UInt8) (o : Nat) (m : List UInt8) : List UInt8 := l.take o ++ m ++ l.drop (o + m.length)
theorem bv_spl (l : List UInt8) (o : Nat) (m : List UInt8) : bv (spl l o m) = ins (bv l) o (bv m) := by
  simp [spl, ins, bv_append, bv_take, bv_drop, bv_length]
theorem spl_length (l : List UInt8) (o : Nat) (m : List UInt8) (h : o + m.length ≤ l.length) : (spl l o m).length = l.length := by
  simp [spl]; omega
theorem spl_nil (l : List UInt8) (o : Nat) : spl l o [] = l := by simp [spl]
def FM.put (F : FM) (i : Nat) (m : List UInt8) : FM := { F with left := if F.set then F.left - 1 else F.left, pend := F.pend ++ [⟨i, F.at_ i, m⟩], l := spl F.l (64 * i) m }
def FM.fused (F : FM) (i : Nat) (m : List UInt8) : FM := { F with pend := [], set := false, off := true, l := spl F.l (64 * i) (m.take F.torn.toNat) }
def FM.write (F : FM) (i : Nat) (m : List UInt8) : FM := if F.off then F else if F.set && F.left == 0 then F.fused i m else F.put i m

theorem FM.fused_ok {F : FM} (h : F.ok) (i : Nat) (hi : i < F.n) (m : List UInt8) (hm : m.length = 64) : (F.fused i m).ok := by
  have hl := h.len
  exact { h with len := (by show (spl F.l (64 * i) (m.take F.torn.toNat)).length = _; rw [spl_length _ _ _ (by rw [List.length_take]; omega)]; exact hl), pend := fun p hp => by simp [FM.fused] at hp }
theorem FM.put_ok {F : FM} (h : F.ok) (i : Nat) (hi : i < F.n) (m : List UInt8) (hm : m.length = 64) (hl : F.set = true → F.left ≠ 0) : (F.put i m).ok := by
  have hlen := h.len
  have h0 := h.left
  have h1 := h.left2
  refine { h with len := ?_, pend := ?_, left := ?_, left2 := ?_ }
  · show (spl F.l (64 * i) m).length = _
    rw [spl_length _ _ _ (by omega)]
    exact hlen
  · intro p hp
    have hp' : p ∈ F.pend ++ [⟨i, F.at_ i, m⟩] := hp
    rcases List.mem_append.1 hp' with hp' | hp'
    · exact h.pend p hp'
    · rw [List.mem_singleton] at hp'
      subst hp'
      exact ⟨hi, FM.at_length h hi, hm⟩
  · show 0 ≤ (if F.set then F.left - 1 else F.left)
    split
    · rename_i hs; have := hl hs; omega
    · exact h0
  · show (if F.set then F.left - 1 else F.left) ≤ _
    split <;> omega
theorem Tryz.size5 : (Tryz.prog.info? 5).map (·.size) = some 1 := by kernel_rfl
theorem pc_now (p : PW) (h : p.was.length = 64) (n : Nat) : ((pc p).drop 65).take n = (bv p.now).take n := by
  unfold pc
  rw [List.drop_succ_cons, List.drop_left' (by rw [bv_length, h])]
/-- A range of a block that is known whole, as an append's law asks for it. -/
theorem range_news {w : World} {b o : Nat} {cs : List Value} (h : w.rangeAt b o cs) : ∀ j u, cs[j]? = some u → w.cell? ((⟨b, o, none⟩ : Addr).add j) = some u := fun j u hu => by
  rw [Addr.add_mid]; exact h j u hu
theorem Tryz.zero64 : (Tryz.prog.info? 162).map (fun i => (i.zero, i.size)) = some (some (.agg (.int .i64 0 :: List.replicate 128 (.int .u8 0)).toArray), 129) := by kernel_rfl
theorem Tryz.size64 : (Tryz.prog.info? 162).map (·.size) = some 129 := by kernel_rfl
theorem Tryz.info64 : (Tryz.prog.info? 162).map (fun i => (i.zero, i.size, i.bytes)) = some (some (.agg (.int .i64 0 :: List.replicate 128 (.int .u8 0)).toArray), 129, 136) := by kernel_rfl
theorem Tryz.places64 : placesOf Tryz.prog 162 = some [(0, 1), (1, 64), (65, 64)] := by kernel_rfl
theorem Tryz.mixed : Tryz.prog.follows .mixedOrders = true := by kernel_rfl

/-- The cells of a new variable of type 'write'. -/
def zc64 : Array Value := (.int .i64 0 :: List.replicate 128 (.int .u8 0)).toArray
theorem pc_length (p : PW) (n : Nat) (h : p.ok n) : (pc p).length = 129 := by simp [pc, bv_length, h.2.1, h.2.2]

theorem pc_one (p : PW) : ∀ u ∈ pc p, u.oneCell' = true := by
  intro u hu
  simp only [pc, List.mem_cons, List.mem_append] at hu
  rcases hu with rfl | hu | hu
  · rfl
  · exact bv_one _ u hu
  · exact bv_one _ u hu
theorem run_build_write (i : Nat) (was now : List UInt8) (h1 : was.length = 64) (h2 : now.length = 64) (w : World) :
    (Instr.build 162 #[(0, .int .i64 (i : Int)), (1, .agg (bv was).toArray), (2, .agg (bv now).toArray)]).run Tryz.prog w = .ok (.agg (pc ⟨i, was, now⟩).toArray) w := by
  have := run_build3 (n0 := 1) (n1 := 64) (n2 := 64) Tryz.zero64 (by simp [Value.cells]) Tryz.places64 rfl (.int .i64 (i : Int)) (.agg (bv was).toArray) (.agg (bv now).toArray) rfl (by simp [Value.cells, bv_length, h1]) (by simp [Value.cells, bv_length, h2]) w
  rw [this]
  simp [Value.cells, pc]

theorem write_off {w : World} {base f lb : Nat} {F : FM} {pv : Value} (hF : IsF w base f lb F pv) (i : Nat) (hi : i < F.n) (A : Option Addr) (c : Nat) (ho : F.off = true) :
    Calls Tryz.prog 57 #[.pointer (some ⟨f, 0, none⟩), .int .i64 (i : Int), .slice A 64 c] w fun e w' => e = .returned (.int .i64 0) ∧ w = w' := by
  obtain ⟨-, -, -, c3, -, -⟩ := hF.cells
  rw [ho] at c3
  have n2 := hF.ok.n2
  have g1 : ¬ (i : Int) < 0 := by omega
  have g2 : (i : Int) < (F.n : Int) := by omega
  clear ho
  go_enter Tryz.func57, Tryz.ntmps57
  go_wp2_with (go_at_call 33; refine (blocks_any hF).mono ?_; rintro e w' ⟨rfl, rfl⟩)
  go_ret
  exact ⟨rfl, rfl⟩
theorem write_none {w : World} {base f lb : Nat} {F : FM} {pv : Value} (hF : IsF w base f lb F pv) (i : Int) (hi : i < 0 ∨ (F.n : Int) ≤ i) (v : Value) :
    Calls Tryz.prog 57 #[.pointer (some ⟨f, 0, none⟩), .int .i64 i, v] w fun e w' => e = .returned (.int .i64 4) ∧ w = w' := by
  rcases hi with hi | hi
  · go_enter Tryz.func57, Tryz.ntmps57
    go_wp2
    go_ret
    exact ⟨rfl, rfl⟩
  · have g1 : ¬ i < 0 := by omega
    go_enter Tryz.func57, Tryz.ntmps57
    go_wp2_with (go_at_call 33; refine (blocks_any hF).mono ?_; rintro e w' ⟨rfl, rfl⟩)
    go_ret
    exact ⟨rfl, rfl⟩
theorem write_arg {w : World} {base f lb : Nat} {F : FM} {pv : Value} (hF : IsF w base f lb F pv) (i : Nat) (hi : i < F.n) (A : Option Addr) (n c : Nat) (hn : n ≠ 64) :
    Calls Tryz.prog 57 #[.pointer (some ⟨f, 0, none⟩), .int .i64 (i : Int), .slice A n c] w fun e w' => e = .returned (.int .i64 1) ∧ w = w' := by
  have n2 := hF.ok.n2
  have g1 : ¬ (i : Int) < 0 := by omega
  have g2 : (i : Int) < (F.n : Int) := by omega
  have g3 : ((n : Int) != 64) = true := by simp; omega
  go_enter Tryz.func57, Tryz.ntmps57
  go_wp2_with (go_at_call 33; refine (blocks_any hF).mono ?_; rintro e w' ⟨rfl, rfl⟩)
  go_ret
  exact ⟨rfl, rfl⟩

set_option maxRecDepth 100000 in
theorem write_fused {w : World} {base f lb : Nat} {F : FM} {pv : Value} (hF : IsF w base f lb F pv) (i : Nat) (hi : i < F.n) (bb bo c : Nat) (m : List UInt8) (hm : m.length = 64) (hb : w.rangeAt bb bo (bv m)) (hbb : bb < w.heap.size)
    (ho : F.off = false) (hs : F.set = true) (hl : F.left = 0) :
    Calls Tryz.prog 57 #[.pointer (some ⟨f, 0, none⟩), .int .i64 (i : Int), .slice (some ⟨bb, bo, none⟩) 64 c] w fun e w' =>
      e = .returned (.int .i64 0) ∧ IsF w' base f lb (F.fused i m) (.slice none 0 0) ∧ Keeps w w' (fun k => k = f ∨ k = lb) := by
  obtain ⟨c0, c1, c2, c3, c4, c5⟩ := hF.cells
  rw [ho] at c3
  rw [hs] at c2
  rw [hl] at c4
  have n2 := hF.ok.n2
  have g1 : ¬ (i : Int) < 0 := by omega
  have g2 : (i : Int) < (F.n : Int) := by omega
  have g0 : (0 : Int) ≤ (i : Int) := by omega
  have hr := hF.range i
  have hlen := FM.at_length hF.ok hi
  have HL := Lib.hid hlen
  have HM := Lib.hid hm
  have hs2a := arrayAt_ok (P := Tryz.prog) Tryz.underlying91 (some ⟨bb, bo, none⟩) 64 c (Nat.le_refl _)
  have t0 := hF.ok.torn
  have t1 := hF.ok.torn2
  have HO := Lib.hid ho
  have HS := Lib.hid hs
  have HE := Lib.hid hl
  clear ho hs hl hlen hm
  go_enter Tryz.func57, Tryz.ntmps57
  go_wp2_with (go_at_call 33; refine (blocks_any hF).mono ?_; rintro e w' ⟨rfl, rfl⟩)
  refine Pl.wp_plan (fun w' => w'.cell? ⟨f, 0, none⟩ = some (.slice (some ⟨lb, 0, none⟩) F.n F.n) ∧ w'.rangeAt lb (i * 64) (bv (F.at_ i)) ∧ w'.rangeAt bb bo (bv m)) [0, 1, 2, 3, 4, 5, 6, 7, 8, 9, 10, 11] [12] [13] Tryz.mixed (by kernel_rfl) (fun _ _ d _ _ h => by cases d <;> exact h) ⟨by simpa using c0, by simpa using hr, by simpa using hb⟩ ?_
  simp only [Pl.pick, List.drop_succ_cons, List.drop_zero]
  iterate 7 (refine Pl.head_run (v := ?_) (by rfl) ?_ ?_; rotate_left; (focus (intro w' hS; obtain ⟨s0, s1, s2⟩ := hS; go_simp; with_reducible rfl)); simp only [Act.put, List.setIfInBounds_toArray, List.set_cons_zero, List.set_cons_succ])
  (refine Pl.head_load_mid (by rfl) 91 (.tmp 31) (by rfl) lb (i * 64) (by rfl) (bv (F.at_ i)) _ (fun _ h => h.2.1) Tryz.underlying91 rfl (by rw [bv_length, HL.out]; exact Tryz.size62) ?_; simp only [Act.put, List.setIfInBounds_toArray, List.set_cons_zero, List.set_cons_succ])
  iterate 2 (refine Pl.head_run (v := ?_) (by rfl) ?_ ?_; rotate_left; (focus (intro w' hS; obtain ⟨s0, s1, s2⟩ := hS; go_simp; with_reducible rfl)); simp only [Act.put, List.setIfInBounds_toArray, List.set_cons_zero, List.set_cons_succ])
  (refine Pl.head_load_mid (by rfl) 91 (.tmp 34) (by rfl) bb bo (by rfl) (bv m) _ (fun _ h => h.2.2) Tryz.underlying91 rfl (by rw [bv_length, HM.out]; exact Tryz.size62) ?_; simp only [Act.put, List.setIfInBounds_toArray, List.set_cons_zero, List.set_cons_succ])
  (refine Pl.head_build (by rfl) _ _ (by rfl) (pc ⟨i, F.at_ i, m⟩).toArray (fun W => (by simp only [List.map_toArray, List.map_cons, List.map_nil]; exact run_build_write i (F.at_ i) m HL.out HM.out W)) ?_; simp only [Act.put, List.setIfInBounds_toArray, List.set_cons_zero, List.set_cons_succ])
  refine Pl.head_nil ?_
  simp only [Pl.Mid]
  refine wpList_alloc_blk (by rfl) 162 (by rfl) Tryz.zero64 ?_
  intro w1 hn1 hbe1 hsz1
  refine wpList_nil ?_
  refine (⟨⟨?_, ?_, ?_⟩, ?_⟩ : (_ ∧ _ ∧ _) ∧ _)
  · exact (hF.below (hbe1.trans_drew)).cells.1
  · exact (hF.below (hbe1.trans_drew)).range i
  · exact rangeAt_below hb hbe1.trans_drew hbb
  simp only [Act.put, List.setIfInBounds_toArray, List.set_cons_zero, List.set_cons_succ]
  refine wpList_store_blk (by rfl) 162 (.tmp 7) (.tmp 36) (by rfl) w.heap.size 0 (pc ⟨i, F.at_ i, m⟩) (by rfl) (by rfl) 162 _ hn1 ?_ ?_ ?_ ?_
  · rw [pc_length _ F.n ⟨hi, HL.out, HM.out⟩]; simp [Value.cells]
  · rw [pc_length _ F.n ⟨hi, HL.out, HM.out⟩]; exact Tryz.size64
  · exact pc_one _
  intro w2 hn2 hk2 hsz2
  rw [ins_all _ _ (by rw [pc_length _ F.n ⟨hi, HL.out, HM.out⟩]; simp [Value.cells])] at hn2
  have hbe2 : Below w.heap.size w w2 := (hk2.below (B := w.heap.size) hbe1.size (fun k hk => by subst hk; exact Nat.le_refl _)).trans_of hbe1.trans_drew
  have hF2 := hF.below hbe2
  have hwb : w.heap.size < w2.heap.size := hn2.lt
  obtain ⟨d0, d1, d2, d3, d4, d5⟩ := hF2.cells
  clear c0 c1 c2 c3 c4 c5 hn1 hbe1 hsz1 hk2 hsz2 hr hs2a
  rw [HO.out] at d3
  rw [HS.out] at d2
  rw [HE.out] at d4
  have hf1 := hF2.blk.frozen 1
  have hf2 := hF2.blk.frozen 2
  have hf3 := hF2.blk.frozen 3
  go_wp2
  generalize hw3 : ((w2.setCell ⟨f, 1, none⟩ (.slice none 0 0)).setCell ⟨f, 2, none⟩ (.bool false)).setCell ⟨f, 3, none⟩ (.bool true) = w3
  have hb3 : Blk w3 f 95 (fcells lb (F.fused i m) (.slice none 0 0)) := by
    rw [← hw3]
    have := ((hF2.blk.set_ 1 (.slice none 0 0)).set_ 2 (.bool false)).set_ 3 (.bool true)
    simpa [fcells, FM.fused] using this
  have hk3 : Keeps w2 w3 (· = f) := by
    rw [← hw3]
    exact (((Keeps.refl w2 (· = f)).setCell (p := ⟨f, 1, none⟩) (.inl rfl) _).setCell (p := ⟨f, 2, none⟩) (.inl rfl) _).setCell (p := ⟨f, 3, none⟩) (.inl rfl) _
  clear hw3 d0 d1 d2 d3 d4 d5 hf1 hf2 hf3
  have hr3 : Blk w3 lb 91 (bv F.l) := hk3.blk hF2.row hF2.ne.symm
  have hn3 : Blk w3 w.heap.size 162 (pc ⟨i, F.at_ i, m⟩) := hk3.blk hn2 (hn2.ne_ hF2.blk (by decide))
  have d0 : w3.cell? ⟨f, 0, none⟩ = some (.slice (some ⟨lb, 0, none⟩) F.n F.n) := by rw [hb3.cell]; rfl
  have d5 : w3.cell? ⟨f, 5, none⟩ = some (.int .i64 F.torn) := by rw [hb3.cell]; rfl
  refine Pl.wp_plan (fun w' => w'.cell? ⟨f, 0, none⟩ = some (.slice (some ⟨lb, 0, none⟩) F.n F.n) ∧ w'.cell? ⟨f, 5, none⟩ = some (.int .i64 F.torn)) [0, 1, 2, 3, 4, 5, 6, 7, 8, 9, 10, 11, 12] [13] [] Tryz.mixed (by kernel_rfl) (fun _ _ d _ _ h => by cases d <;> exact h) ⟨by simpa using d0, by simpa using d5⟩ ?_
  simp only [Pl.pick, List.drop_succ_cons, List.drop_zero]
  iterate 13 (refine Pl.head_run (v := ?_) (by rfl) ?_ ?_; rotate_left; (focus (intro w' hS; obtain ⟨s0, s1⟩ := hS; go_simp; with_reducible rfl)); simp only [Act.put, List.setIfInBounds_toArray, List.set_cons_zero, List.set_cons_succ])
  refine Pl.head_nil ?_
  simp only [Pl.Mid]
  refine wpList_copy_blk (by rfl) (.tmp 67) (.tmp 69) 30 30 (by rfl) 5 Tryz.underlying30 Tryz.size5 lb (i * 64) F.torn.toNat 64 (some ⟨w.heap.size, 65, none⟩) 64 64 (by rfl) (by rfl) (bv F.l) 91 hr3 (bv (m.take F.torn.toNat)) ?_ ?_ ?_ (bv_one _) ?_
  · rw [bv_length, List.length_take, HM.out]; exact Nat.min_comm _ _
  · intro _
    refine ⟨_, rfl, ?_⟩
    have h1 := (hn3.drew).range 65 F.torn.toNat (bv (m.take F.torn.toNat)) (by rw [pc_now _ HL.out, bv_take])
    exact range_news h1
  · rw [bv_length, bv_length, List.length_take, HM.out, hF.ok.len]; omega
  intro w4 hl4 hk4 hsz4
  refine wpList_nil ?_
  refine (⟨⟨?_, ?_⟩, ?_⟩ : (_ ∧ _) ∧ _)
  · exact (hk4.blk hb3.drew hF.ne).cell 0
  · exact (hk4.blk hb3.drew hF.ne).cell 5
  simp only [Act.put, List.setIfInBounds_toArray, List.set_cons_zero, List.set_cons_succ]
  go_wp2
  go_ret
  have hkk : Keeps w w4 (fun k => k = f ∨ k = lb) :=
    (((Keeps.of_below hbe2 _).trans hk3 (fun k hk => .inl (.inl hk))).drew).trans hk4 (fun k hk => .inl (.inr hk))
  refine ⟨rfl, ⟨F.fused_ok hF.ok i hi m HM.out, hk4.blk hb3.drew hF.ne, ?_, World.ownsRow_nil _ _ _ _, hF.hf, hF.hl⟩, hkk⟩
  rw [show (F.fused i m).l = spl F.l (64 * i) (m.take F.torn.toNat) from rfl, bv_spl, Nat.mul_comm]
  exact hl4

set_option maxRecDepth 100000 in
set_option maxHeartbeats 400000 in
theorem write_put {w : World} {base f lb : Nat} {F : FM} {pv : Value} (hF : IsF w base f lb F pv) (i : Nat) (hi : i < F.n) (bb bo c : Nat) (m : List UInt8) (hm : m.length = 64) (hb : w.rangeAt bb bo (bv m)) (hbb : bb < w.heap.size)
    (ho : F.off = false) (hl : F.set = true → F.left ≠ 0) (hp : F.pend.length < 1000000000) :
    Calls Tryz.prog 57 #[.pointer (some ⟨f, 0, none⟩), .int .i64 (i : Int), .slice (some ⟨bb, bo, none⟩) 64 c] w fun e w' =>
      e = .returned (.int .i64 0) ∧ ∃ pv', IsF w' base f lb (F.put i m) pv' ∧ Keeps w w' (fun k => k = f ∨ k = lb) ∧ (∀ k, pv'.ownBlock = some k → w.heap.size ≤ k) := by
  obtain ⟨c0, c1, c2, c3, c4, c5⟩ := hF.cells
  obtain ⟨A, pcap, hpv, hcap⟩ := own_slice hF.own
  subst hpv
  have hFb := hF.hf
  rw [ho] at c3
  have n2 := hF.ok.n2
  have g1 : ¬ (i : Int) < 0 := by omega
  have g2 : (i : Int) < (F.n : Int) := by omega
  have g0 : (0 : Int) ≤ (i : Int) := by omega
  have hr := hF.range i
  have hlen := FM.at_length hF.ok hi
  have HL := Lib.hid hlen
  have HM := Lib.hid hm
  have hs2a := arrayAt_ok (P := Tryz.prog) Tryz.underlying91 (some ⟨bb, bo, none⟩) 64 c (Nat.le_refl _)
  have p0 : (F.pend.length : Int) ≤ (pcap : Int) := by omega
  have p1 : (0 : Int) ≤ (F.pend.length : Int) := by omega
  have HO := Lib.hid ho
  have HE := Lib.hid hl
  have b0 := hF.ok.left
  have b1 := hF.ok.left2
  clear ho hl hlen hm
  go_enter Tryz.func57, Tryz.ntmps57
  go_wp2_with (go_at_call 33; refine (blocks_any hF).mono ?_; rintro e w' ⟨rfl, rfl⟩)
  refine Pl.wp_plan (fun w' => w'.cell? ⟨f, 0, none⟩ = some (.slice (some ⟨lb, 0, none⟩) F.n F.n) ∧ w'.rangeAt lb (i * 64) (bv (F.at_ i)) ∧ w'.rangeAt bb bo (bv m)) [0, 1, 2, 3, 4, 5, 6, 7, 8, 9, 10, 11] [12] [13] Tryz.mixed (by kernel_rfl) (fun _ _ d _ _ h => by cases d <;> exact h) ⟨by simpa using c0, by simpa using hr, by simpa using hb⟩ ?_
  simp only [Pl.pick, List.drop_succ_cons, List.drop_zero]
  iterate 7 (refine Pl.head_run (v := ?_) (by rfl) ?_ ?_; rotate_left; (focus (intro w' hS; obtain ⟨s0, s1, s2⟩ := hS; go_simp; with_reducible rfl)); simp only [Act.put, List.setIfInBounds_toArray, List.set_cons_zero, List.set_cons_succ])
  (refine Pl.head_load_mid (by rfl) 91 (.tmp 31) (by rfl) lb (i * 64) (by rfl) (bv (F.at_ i)) _ (fun _ h => h.2.1) Tryz.underlying91 rfl (by rw [bv_length, HL.out]; exact Tryz.size62) ?_; simp only [Act.put, List.setIfInBounds_toArray, List.set_cons_zero, List.set_cons_succ])
  iterate 2 (refine Pl.head_run (v := ?_) (by rfl) ?_ ?_; rotate_left; (focus (intro w' hS; obtain ⟨s0, s1, s2⟩ := hS; go_simp; with_reducible rfl)); simp only [Act.put, List.setIfInBounds_toArray, List.set_cons_zero, List.set_cons_succ])
  (refine Pl.head_load_mid (by rfl) 91 (.tmp 34) (by rfl) bb bo (by rfl) (bv m) _ (fun _ h => h.2.2) Tryz.underlying91 rfl (by rw [bv_length, HM.out]; exact Tryz.size62) ?_; simp only [Act.put, List.setIfInBounds_toArray, List.set_cons_zero, List.set_cons_succ])
  (refine Pl.head_build (by rfl) _ _ (by rfl) (pc ⟨i, F.at_ i, m⟩).toArray (fun W => (by simp only [List.map_toArray, List.map_cons, List.map_nil]; exact run_build_write i (F.at_ i) m HL.out HM.out W)) ?_; simp only [Act.put, List.setIfInBounds_toArray, List.set_cons_zero, List.set_cons_succ])
  refine Pl.head_nil ?_
  simp only [Pl.Mid]
  refine wpList_alloc_blk (by rfl) 162 (by rfl) Tryz.zero64 ?_
  intro w1 hn1 hbe1 hsz1
  refine wpList_nil ?_
  refine (⟨⟨?_, ?_, ?_⟩, ?_⟩ : (_ ∧ _ ∧ _) ∧ _)
  · exact (hF.below (hbe1.trans_drew)).cells.1
  · exact (hF.below (hbe1.trans_drew)).range i
  · exact rangeAt_below hb hbe1.trans_drew hbb
  simp only [Act.put, List.setIfInBounds_toArray, List.set_cons_zero, List.set_cons_succ]
  refine wpList_store_blk (by rfl) 162 (.tmp 7) (.tmp 36) (by rfl) w.heap.size 0 (pc ⟨i, F.at_ i, m⟩) (by rfl) (by rfl) 162 _ hn1 ?_ ?_ ?_ ?_
  · rw [pc_length _ F.n ⟨hi, HL.out, HM.out⟩]; simp [Value.cells]
  · rw [pc_length _ F.n ⟨hi, HL.out, HM.out⟩]; exact Tryz.size64
  · exact pc_one _
  intro w2 hn2 hk2 hsz2
  rw [ins_all _ _ (by rw [pc_length _ F.n ⟨hi, HL.out, HM.out⟩]; simp [Value.cells])] at hn2
  have hbe2 : Below w.heap.size w w2 := (hk2.below (B := w.heap.size) hbe1.size (fun k hk => by subst hk; exact Nat.le_refl _)).trans_of hbe1.trans_drew
  have hF2 := hF.below hbe2
  have hwb : w.heap.size < w2.heap.size := hn2.lt
  obtain ⟨d0, d1, d2, d3, d4, d5⟩ := hF2.cells
  clear c0 c1 c2 c3 c4 c5 hn1 hbe1 hsz1 hk2 hsz2 hr hs2a
  rw [HO.out] at d3
  have hf4 := hF2.blk.frozen 4
  have hsz2 : w.heap.size ≤ w2.heap.size := hbe2.size
  have hset : F.set = true ∨ F.set = false := by cases F.set <;> simp
  rcases hset with hs | hs
  · have hl0 : (F.left == 0) = false := by have := HE.out hs; simp [this]
    have HS := Lib.hid hs
    rw [hs] at d2
    clear hs
    go_wp2
    generalize hw3 : w2.setCell ⟨f, 4, none⟩ (.int .i64 (F.left - 1)) = w3
    have hb3 : Blk w3 f 95 (fcells lb { F with left := (F.put i m).left } (.slice A F.pend.length pcap)) := by
      rw [← hw3]
      have := hF2.blk.set_ 4 (.int .i64 (F.left - 1))
      simpa [fcells, FM.put, HS.out] using this
    have hk3 : Keeps w2 w3 (· = f) := by
      rw [← hw3]
      exact (Keeps.refl w2 (· = f)).setCell (p := ⟨f, 4, none⟩) (.inl rfl) _
    have hz3 : w2.heap.size ≤ w3.heap.size := hk3.size
    clear hw3 d0 d1 d2 d3 d4 d5 hf4 HS hl0
    have hr3 : Blk w3 lb 91 (bv F.l) := hk3.blk hF2.row hF2.ne.symm
    have hn3 : Blk w3 w.heap.size 162 (pc ⟨i, F.at_ i, m⟩) := hk3.blk hn2 (hn2.ne_ hF2.blk (by decide))
    have ho3 : w3.ownsRow base 162 129 (.slice A F.pend.length pcap) F.pend.length (pcs F.pend) := hk3.own hF2.own (own_ne hF2.own hF2.blk (by decide))
    have d1 : w3.cell? ⟨f, 1, none⟩ = some (.slice A F.pend.length pcap) := by rw [hb3.cell]; rfl
    refine Pl.wp_plan (fun w' => w'.cell? ⟨f, 1, none⟩ = some (.slice A F.pend.length pcap) ∧ Blk w' w.heap.size 162 (pc ⟨i, F.at_ i, m⟩)) [0, 1, 2, 3, 4, 5, 6, 7, 8, 9, 10, 11, 12, 13, 14, 15, 16] [17, 18] [19, 20, 21] Tryz.mixed (by kernel_rfl) (fun _ _ d _ _ h => by cases d <;> exact h) ⟨by simpa using d1, hn3.drew⟩ ?_
    simp only [Pl.pick, List.drop_succ_cons, List.drop_zero]
    iterate 16 (refine Pl.head_run (v := ?_) (by rfl) ?_ ?_; rotate_left; (focus (intro w' hS; obtain ⟨s0, s1⟩ := hS; go_simp; with_reducible rfl)); simp only [Act.put, List.setIfInBounds_toArray, List.set_cons_zero, List.set_cons_succ])
    (refine Pl.head_load_mid (by rfl) 162 (.tmp 7) (by rfl) w.heap.size 0 (by rfl) (pc ⟨i, F.at_ i, m⟩) _ (fun _ h => h.2.range 0 129 _ (by rw [List.drop_zero, List.take_of_length_le (by rw [pc_length _ F.n ⟨hi, HL.out, HM.out⟩]; exact Nat.le_refl _)])) Tryz.underlying162 rfl (by rw [pc_length _ F.n ⟨hi, HL.out, HM.out⟩]; exact Tryz.size64) ?_; simp only [Act.put, List.setIfInBounds_toArray, List.set_cons_zero, List.set_cons_succ])
    refine Pl.head_nil ?_
    simp only [Pl.Mid]
    refine wpList_buildSlice_blk (by rfl) 93 (.tmp 98) (by rfl) Tryz.underlying93 Tryz.zero64 (by simp [Value.cells]) (by omega) (by omega) (pc ⟨i, F.at_ i, m⟩) (by rfl) (pc_length _ F.n ⟨hi, HL.out, HM.out⟩) ?_
    intro w4 hn4 hbe4 hsz4
    refine wpList_nil ?_
    refine (⟨⟨?_, ?_⟩, ?_⟩ : (_ ∧ _) ∧ _)
    · exact (Blk.below (w := w3.drew) hb3 hbe4 hb3.lt).cell 1
    · exact Blk.below (w := w3.drew) hn3 hbe4 hn3.lt
    simp only [Act.put, List.setIfInBounds_toArray, List.set_cons_zero, List.set_cons_succ]
    obtain ⟨i0, hi0, hz0, hz1, hz2⟩ := info_parts Tryz.info64
    have ho4 : w4.ownsRow base 162 129 (.slice A F.pend.length pcap) F.pend.length (pcs F.pend) := (Keeps.of_below (w := w3.drew) hbe4 (fun _ => False)).own ho3 (fun _ _ h => h)
    refine wpList_append_grows w4 (by rfl) (.tmp 97) (.tmp 99) 93 (by rfl) 162 i0 _ 129 136 Tryz.underlying93 hi0 hz0 hz1 hz2 (by simp [Value.cells]) (by omega) A F.pend.length F.pend.length (pcs F.pend) (by rfl) (fun h => ⟨own_none ho4 h, own_none ho4 h⟩) ho4.1 (own_holds ho4) ⟨w3.drew.heap.size, 0, none⟩ 1 1 (pc ⟨i, F.at_ i, m⟩) (by rfl) (by rw [pc_length _ F.n ⟨hi, HL.out, HM.out⟩]) ?_ (pc_one _) (by omega) (by unfold maxLen; omega) (by omega) ?_
    · exact range_news (hn4.range 0 129 _ (by rw [List.drop_zero, List.take_of_length_le (by rw [pc_length _ F.n ⟨hi, HL.out, HM.out⟩]; exact Nat.le_refl _)]))
    intro pv5 w5 ho5 hg5
    have hk5 : Keeps w3 w5 (fun _ => False) := ((Keeps.refl w3 (fun _ => False)).drew.then_below hbe4).grown hg5 (fun k hk => by cases hk)
    have hb5 : Blk w5 f 95 _ := hk5.blk hb3 id
    have hn5 : Blk w5 w.heap.size 162 _ := hk5.blk hn3 id
    have hr5 : Blk w5 lb 91 _ := hk5.blk hr3 id
    refine wpList_nil ?_
    refine (⟨⟨hb5.cell 1, hn5⟩, ?_⟩ : (_ ∧ _) ∧ _)
    obtain ⟨A5, pcap5, hpv5, hcap5⟩ := own_slice ho5
    subst hpv5
    have hfr : ∀ k, (Value.slice A5 (F.pend.length + 1) pcap5).ownBlock = some k → w.heap.size ≤ k := fun k hk => by
      have h0 := (ho5.lt k hk).1
      have h1 := hbe2.size
      have h2 := hbe4.size
      have h3 : w3.drew.heap.size = w3.heap.size := rfl
      have h4 := hk3.size
      omega
    have HFR := Lib.hid hfr
    clear hfr
    have ho5' : w5.ownsRow base 162 129 (.slice A5 (F.pend.length + 1) pcap5) (F.pend.length + 1) (pcs F.pend ++ pc ⟨i, F.at_ i, m⟩) := own_mono ho5 (by have h1 := hF.blk.lt; have h2 := hbe4.size; have h3 : w3.drew.heap.size = w3.heap.size := rfl; omega)
    clear ho5 hg5 hn4 hbe4 hsz4 ho4 ho3 hr3 hn3 d1
    simp only [Act.put, List.setIfInBounds_toArray, List.set_cons_zero, List.set_cons_succ]
    have e1 : w5.cell? ⟨f, 1, none⟩ = some (.slice A F.pend.length pcap) := by rw [hb5.cell]; rfl
    have e2 := hb5.frozen 1
    go_wp2
    generalize hw6 : w5.setCell ⟨f, 1, none⟩ (.slice A5 (F.pend.length + 1) pcap5) = w6
    have hb6 : Blk w6 f 95 (fcells lb { F with left := (F.put i m).left } (.slice A5 (F.pend.length + 1) pcap5)) := by
      rw [← hw6]
      have := hb5.set_ 1 (.slice A5 (F.pend.length + 1) pcap5)
      simpa [fcells] using this
    have hk6 : Keeps w5 w6 (· = f) := by
      rw [← hw6]
      exact (Keeps.refl w5 (· = f)).setCell (p := ⟨f, 1, none⟩) (.inl rfl) _
    have hr6 : Blk w6 lb 91 (bv F.l) := hk6.blk hr5 hF2.ne.symm
    have hn6 : Blk w6 w.heap.size 162 (pc ⟨i, F.at_ i, m⟩) := hk6.blk hn5 (hn2.ne_ hF2.blk (by decide))
    have ho6 := hk6.own ho5' (own_ne ho5' hb5 (by decide))
    have d0 : w6.cell? ⟨f, 0, none⟩ = some (.slice (some ⟨lb, 0, none⟩) F.n F.n) := by rw [hb6.cell]; rfl
    clear hw6 e1 e2 hr5 hn5 hb5
    refine Pl.wp_plan (fun w' => w'.cell? ⟨f, 0, none⟩ = some (.slice (some ⟨lb, 0, none⟩) F.n F.n) ∧ Blk w' w.heap.size 162 (pc ⟨i, F.at_ i, m⟩)) [0, 1, 2, 3, 4, 5, 6] [] [7, 8] Tryz.mixed (by kernel_rfl) (fun _ _ d _ _ h => by cases d <;> exact h) ⟨by simpa using d0, hn6.drew⟩ ?_
    simp only [Pl.pick, List.drop_succ_cons, List.drop_zero]
    iterate 6 (refine Pl.head_run (v := ?_) (by rfl) ?_ ?_; rotate_left; (focus (intro w' hS; obtain ⟨s0, s1⟩ := hS; go_simp; with_reducible rfl)); simp only [Act.put, List.setIfInBounds_toArray, List.set_cons_zero, List.set_cons_succ])
    (refine Pl.head_load_mid (by rfl) 91 (.tmp 108) (by rfl) w.heap.size 65 (by rfl) (bv m) _ (fun _ h => h.2.range 65 64 _ (by rw [pc_now _ HL.out, bv_take, List.take_of_length_le (by rw [HM.out]; exact Nat.le_refl _)])) Tryz.underlying91 rfl (by rw [bv_length, HM.out]; exact Tryz.size62) ?_; simp only [Act.put, List.setIfInBounds_toArray, List.set_cons_zero, List.set_cons_succ])
    refine Pl.head_nil ?_
    simp only [Pl.Mid]
    have hr6' := hr6.drew
    have hsz : (bv m).length = 64 := by rw [bv_length, HM.out]
    have HSZ := Lib.hid hsz
    clear hsz
    go_wp2_with (refine wpList_store_blk (by rfl) 91 (.tmp 110) (.tmp 109) (by rfl) lb (i * 64) (bv m) (by rfl) (by rfl) 91 (bv F.l) hr6' (by rw [HSZ.out, bv_length, hF.ok.len]; omega) (by rw [HSZ.out]; exact Tryz.size62) (bv_one _) ?_; intro w7 hl7 hk7 hsz7)
    go_ret
    have hkk : Keeps w w7 (fun k => k = f ∨ k = lb) :=
      ((((Keeps.of_below hbe2 _).trans hk3 (fun k hk => .inl (.inl hk))).trans hk5 (fun k hk => hk.elim)).trans hk6 (fun k hk => .inl (.inl hk))).drew.trans hk7 (fun k hk => .inl (.inr hk))
    refine ⟨rfl, .slice A5 (F.pend.length + 1) pcap5, ⟨FM.put_ok hF.ok i hi m HM.out HE.out, ?_, ?_, ?_, hF.hf, hF.hl⟩, hkk, HFR.out⟩
    · exact (hk7.blk hb6.drew hF.ne)
    · rw [show (F.put i m).l = spl F.l (64 * i) m from rfl, bv_spl, Nat.mul_comm]
      exact hl7
    · have h1 := hk7.own (w := w6.drew) ho6 (own_ne ho6 hr6 (by decide))
      rw [show (F.put i m).pend = F.pend ++ [⟨i, F.at_ i, m⟩] from rfl, List.length_append, List.length_singleton, show pcs (F.pend ++ [⟨i, F.at_ i, m⟩]) = pcs F.pend ++ pc ⟨i, F.at_ i, m⟩ from by simp [pcs]]
      exact h1
  · have HS := Lib.hid hs
    rw [hs] at d2
    clear hs
    go_wp2
    obtain ⟨w3, hw3⟩ : ∃ w3, w3 = w2 := ⟨_, rfl⟩
    have hb3 : Blk w3 f 95 (fcells lb { F with left := (F.put i m).left } (.slice A F.pend.length pcap)) := by
      rw [hw3]
      have := hF2.blk
      simpa [fcells, FM.put, HS.out] using this
    have hk3 : Keeps w2 w3 (· = f) := by
      rw [hw3]
      exact Keeps.refl w2 (· = f)
    have hz3 : w2.heap.size ≤ w3.heap.size := hk3.size
    rw [← hw3]
    clear hw3 d0 d1 d2 d3 d4 d5 hf4 HS
    have hr3 : Blk w3 lb 91 (bv F.l) := hk3.blk hF2.row hF2.ne.symm
    have hn3 : Blk w3 w.heap.size 162 (pc ⟨i, F.at_ i, m⟩) := hk3.blk hn2 (hn2.ne_ hF2.blk (by decide))
    have ho3 : w3.ownsRow base 162 129 (.slice A F.pend.length pcap) F.pend.length (pcs F.pend) := hk3.own hF2.own (own_ne hF2.own hF2.blk (by decide))
    have d1 : w3.cell? ⟨f, 1, none⟩ = some (.slice A F.pend.length pcap) := by rw [hb3.cell]; rfl
    refine Pl.wp_plan (fun w' => w'.cell? ⟨f, 1, none⟩ = some (.slice A F.pend.length pcap) ∧ Blk w' w.heap.size 162 (pc ⟨i, F.at_ i, m⟩)) [0, 1, 2, 3, 4, 5, 6, 7, 8, 9, 10, 11, 12, 13, 14, 15, 16] [17, 18] [19, 20, 21] Tryz.mixed (by kernel_rfl) (fun _ _ d _ _ h => by cases d <;> exact h) ⟨by simpa using d1, hn3.drew⟩ ?_
    simp only [Pl.pick, List.drop_succ_cons, List.drop_zero]
    iterate 16 (refine Pl.head_run (v := ?_) (by rfl) ?_ ?_; rotate_left; (focus (intro w' hS; obtain ⟨s0, s1⟩ := hS; go_simp; with_reducible rfl)); simp only [Act.put, List.setIfInBounds_toArray, List.set_cons_zero, List.set_cons_succ])
    (refine Pl.head_load_mid (by rfl) 162 (.tmp 7) (by rfl) w.heap.size 0 (by rfl) (pc ⟨i, F.at_ i, m⟩) _ (fun _ h => h.2.range 0 129 _ (by rw [List.drop_zero, List.take_of_length_le (by rw [pc_length _ F.n ⟨hi, HL.out, HM.out⟩]; exact Nat.le_refl _)])) Tryz.underlying162 rfl (by rw [pc_length _ F.n ⟨hi, HL.out, HM.out⟩]; exact Tryz.size64) ?_; simp only [Act.put, List.setIfInBounds_toArray, List.set_cons_zero, List.set_cons_succ])
    refine Pl.head_nil ?_
    simp only [Pl.Mid]
    refine wpList_buildSlice_blk (by rfl) 93 (.tmp 98) (by rfl) Tryz.underlying93 Tryz.zero64 (by simp [Value.cells]) (by omega) (by omega) (pc ⟨i, F.at_ i, m⟩) (by rfl) (pc_length _ F.n ⟨hi, HL.out, HM.out⟩) ?_
    intro w4 hn4 hbe4 hsz4
    refine wpList_nil ?_
    refine (⟨⟨?_, ?_⟩, ?_⟩ : (_ ∧ _) ∧ _)
    · exact (Blk.below (w := w3.drew) hb3 hbe4 hb3.lt).cell 1
    · exact Blk.below (w := w3.drew) hn3 hbe4 hn3.lt
    simp only [Act.put, List.setIfInBounds_toArray, List.set_cons_zero, List.set_cons_succ]
    obtain ⟨i0, hi0, hz0, hz1, hz2⟩ := info_parts Tryz.info64
    have ho4 : w4.ownsRow base 162 129 (.slice A F.pend.length pcap) F.pend.length (pcs F.pend) := (Keeps.of_below (w := w3.drew) hbe4 (fun _ => False)).own ho3 (fun _ _ h => h)
    refine wpList_append_grows w4 (by rfl) (.tmp 97) (.tmp 99) 93 (by rfl) 162 i0 _ 129 136 Tryz.underlying93 hi0 hz0 hz1 hz2 (by simp [Value.cells]) (by omega) A F.pend.length F.pend.length (pcs F.pend) (by rfl) (fun h => ⟨own_none ho4 h, own_none ho4 h⟩) ho4.1 (own_holds ho4) ⟨w3.drew.heap.size, 0, none⟩ 1 1 (pc ⟨i, F.at_ i, m⟩) (by rfl) (by rw [pc_length _ F.n ⟨hi, HL.out, HM.out⟩]) ?_ (pc_one _) (by omega) (by unfold maxLen; omega) (by omega) ?_
    · exact range_news (hn4.range 0 129 _ (by rw [List.drop_zero, List.take_of_length_le (by rw [pc_length _ F.n ⟨hi, HL.out, HM.out⟩]; exact Nat.le_refl _)]))
    intro pv5 w5 ho5 hg5
    have hk5 : Keeps w3 w5 (fun _ => False) := ((Keeps.refl w3 (fun _ => False)).drew.then_below hbe4).grown hg5 (fun k hk => by cases hk)
    have hb5 : Blk w5 f 95 _ := hk5.blk hb3 id
    have hn5 : Blk w5 w.heap.size 162 _ := hk5.blk hn3 id
    have hr5 : Blk w5 lb 91 _ := hk5.blk hr3 id
    refine wpList_nil ?_
    refine (⟨⟨hb5.cell 1, hn5⟩, ?_⟩ : (_ ∧ _) ∧ _)
    obtain ⟨A5, pcap5, hpv5, hcap5⟩ := own_slice ho5
    subst hpv5
    have hfr : ∀ k, (Value.slice A5 (F.pend.length + 1) pcap5).ownBlock = some k → w.heap.size ≤ k := fun k hk => by
      have h0 := (ho5.lt k hk).1
      have h1 := hbe2.size
      have h2 := hbe4.size
      have h3 : w3.drew.heap.size = w3.heap.size := rfl
      have h4 := hk3.size
      omega
    have HFR := Lib.hid hfr
    clear hfr
    have ho5' : w5.ownsRow base 162 129 (.slice A5 (F.pend.length + 1) pcap5) (F.pend.length + 1) (pcs F.pend ++ pc ⟨i, F.at_ i, m⟩) := own_mono ho5 (by have h1 := hF.blk.lt; have h2 := hbe4.size; have h3 : w3.drew.heap.size = w3.heap.size := rfl; omega)
    clear ho5 hg5 hn4 hbe4 hsz4 ho4 ho3 hr3 hn3 d1
    simp only [Act.put, List.setIfInBounds_toArray, List.set_cons_zero, List.set_cons_succ]
    have e1 : w5.cell? ⟨f, 1, none⟩ = some (.slice A F.pend.length pcap) := by rw [hb5.cell]; rfl
    have e2 := hb5.frozen 1
    go_wp2
    generalize hw6 : w5.setCell ⟨f, 1, none⟩ (.slice A5 (F.pend.length + 1) pcap5) = w6
    have hb6 : Blk w6 f 95 (fcells lb { F with left := (F.put i m).left } (.slice A5 (F.pend.length + 1) pcap5)) := by
      rw [← hw6]
      have := hb5.set_ 1 (.slice A5 (F.pend.length + 1) pcap5)
      simpa [fcells] using this
    have hk6 : Keeps w5 w6 (· = f) := by
      rw [← hw6]
      exact (Keeps.refl w5 (· = f)).setCell (p := ⟨f, 1, none⟩) (.inl rfl) _
    have hr6 : Blk w6 lb 91 (bv F.l) := hk6.blk hr5 hF2.ne.symm
    have hn6 : Blk w6 w.heap.size 162 (pc ⟨i, F.at_ i, m⟩) := hk6.blk hn5 (hn2.ne_ hF2.blk (by decide))
    have ho6 := hk6.own ho5' (own_ne ho5' hb5 (by decide))
    have d0 : w6.cell? ⟨f, 0, none⟩ = some (.slice (some ⟨lb, 0, none⟩) F.n F.n) := by rw [hb6.cell]; rfl
    clear hw6 e1 e2 hr5 hn5 hb5
    refine Pl.wp_plan (fun w' => w'.cell? ⟨f, 0, none⟩ = some (.slice (some ⟨lb, 0, none⟩) F.n F.n) ∧ Blk w' w.heap.size 162 (pc ⟨i, F.at_ i, m⟩)) [0, 1, 2, 3, 4, 5, 6] [] [7, 8] Tryz.mixed (by kernel_rfl) (fun _ _ d _ _ h => by cases d <;> exact h) ⟨by simpa using d0, hn6.drew⟩ ?_
    simp only [Pl.pick, List.drop_succ_cons, List.drop_zero]
    iterate 6 (refine Pl.head_run (v := ?_) (by rfl) ?_ ?_; rotate_left; (focus (intro w' hS; obtain ⟨s0, s1⟩ := hS; go_simp; with_reducible rfl)); simp only [Act.put, List.setIfInBounds_toArray, List.set_cons_zero, List.set_cons_succ])
    (refine Pl.head_load_mid (by rfl) 91 (.tmp 108) (by rfl) w.heap.size 65 (by rfl) (bv m) _ (fun _ h => h.2.range 65 64 _ (by rw [pc_now _ HL.out, bv_take, List.take_of_length_le (by rw [HM.out]; exact Nat.le_refl _)])) Tryz.underlying91 rfl (by rw [bv_length, HM.out]; exact Tryz.size62) ?_; simp only [Act.put, List.setIfInBounds_toArray, List.set_cons_zero, List.set_cons_succ])
    refine Pl.head_nil ?_
    simp only [Pl.Mid]
    have hr6' := hr6.drew
    have hsz : (bv m).length = 64 := by rw [bv_length, HM.out]
    have HSZ := Lib.hid hsz
    clear hsz
    go_wp2_with (refine wpList_store_blk (by rfl) 91 (.tmp 110) (.tmp 109) (by rfl) lb (i * 64) (bv m) (by rfl) (by rfl) 91 (bv F.l) hr6' (by rw [HSZ.out, bv_length, hF.ok.len]; omega) (by rw [HSZ.out]; exact Tryz.size62) (bv_one _) ?_; intro w7 hl7 hk7 hsz7)
    go_ret
    have hkk : Keeps w w7 (fun k => k = f ∨ k = lb) :=
      ((((Keeps.of_below hbe2 _).trans hk3 (fun k hk => .inl (.inl hk))).trans hk5 (fun k hk => hk.elim)).trans hk6 (fun k hk => .inl (.inl hk))).drew.trans hk7 (fun k hk => .inl (.inr hk))
    refine ⟨rfl, .slice A5 (F.pend.length + 1) pcap5, ⟨FM.put_ok hF.ok i hi m HM.out HE.out, ?_, ?_, ?_, hF.hf, hF.hl⟩, hkk, HFR.out⟩
    · exact (hk7.blk hb6.drew hF.ne)
    · rw [show (F.put i m).l = spl F.l (64 * i) m from rfl, bv_spl, Nat.mul_comm]
      exact hl7
    · have h1 := hk7.own (w := w6.drew) ho6 (own_ne ho6 hr6 (by decide))
      rw [show (F.put i m).pend = F.pend ++ [⟨i, F.at_ i, m⟩] from rfl, List.length_append, List.length_singleton, show pcs (F.pend ++ [⟨i, F.at_ i, m⟩]) = pcs F.pend ++ pc ⟨i, F.at_ i, m⟩ from by simp [pcs]]
      exact h1
end Go.Proofs.YtepgmebklhemgaaGreatDoor
/- Contract of block's Write, all cases together; of Crash. -/
set_option linter.unusedVariables false
set_option linter.unusedSimpArgs false
namespace Go.Proofs.YtepgmebklhemgaaGreatDoor
open Go.RowKit Wd

theorem write_any {w : World} {base f lb : Nat} {F : FM} {pv : Value} (hF : IsF w base f lb F pv) (i : Nat) (hi : i < F.n) (bb bo c : Nat) (m : List UInt8) (hm : m.length = 64) (hb : w.rangeAt bb bo (bv m)) (hbb : bb < w.heap.size) (hp : F.pend.length < 1000000000) :
    Calls Tryz.prog 57 #[.pointer (some ⟨f, 0, none⟩), .int .i64 (i : Int), .slice (some ⟨bb, bo, none⟩) 64 c] w fun e w' =>
      e = .returned (.int .i64 0) ∧ ∃ pv', IsF w' base f lb (F.write i m) pv' ∧ Keeps w w' (fun k => k = f ∨ k = lb) := by
  unfold FM.write
  by_cases ho : F.off = true
  · rw [if_pos ho]
    exact (write_off hF i hi _ c ho).mono fun e w' ⟨he, hw⟩ => ⟨he, pv, by subst hw; exact hF, by subst hw; exact Keeps.refl _ _⟩
  · rw [if_neg ho]
    have ho' : F.off = false := by simpa using ho
    by_cases hs : (F.set && F.left == 0) = true
    · rw [if_pos hs]
      simp only [Bool.and_eq_true, beq_iff_eq] at hs
      exact (write_fused hF i hi bb bo c m hm hb hbb ho' hs.1 hs.2).mono fun e w' ⟨he, h1, h2⟩ => ⟨he, _, h1, h2⟩
    · rw [if_neg hs]
      refine (write_put hF i hi bb bo c m hm hb hbb ho' (fun h1 h2 => hs (by simp [h1, h2])) hp).mono fun e w' ⟨he, pv', h1, h2, _⟩ => ⟨he, pv', h1, h2⟩

/-- The same; and where the pending writes lie. -/
theorem write_anyF {w : World} {base f lb : Nat} {F : FM} {pv : Value} (hF : IsF w base f lb F pv) (i : Nat) (hi : i < F.n) (bb bo c : Nat) (m : List UInt8) (hm : m.length = 64) (hb : w.rangeAt bb bo (bv m)) (hbb : bb < w.heap.size) (hp : F.pend.length < 1000000000) :
    Calls Tryz.prog 57 #[.pointer (some ⟨f, 0, none⟩), .int .i64 (i : Int), .slice (some ⟨bb, bo, none⟩) 64 c] w fun e w' =>
      e = .returned (.int .i64 0) ∧ ∃ pv', IsF w' base f lb (F.write i m) pv' ∧ Keeps w w' (fun k => k = f ∨ k = lb) ∧ (∀ k, pv'.ownBlock = some k → pv.ownBlock = some k ∨ w.heap.size ≤ k) := by
  unfold FM.write
  by_cases ho : F.off = true
  · rw [if_pos ho]
    exact (write_off hF i hi _ c ho).mono fun e w' ⟨he, hw⟩ => ⟨he, pv, by subst hw; exact hF, by subst hw; exact Keeps.refl _ _, fun k hk => .inl hk⟩
  · rw [if_neg ho]
    have ho' : F.off = false := by simpa using ho
    by_cases hs : (F.set && F.left == 0) = true
    · rw [if_pos hs]
      simp only [Bool.and_eq_true, beq_iff_eq] at hs
      exact (write_fused hF i hi bb bo c m hm hb hbb ho' hs.1 hs.2).mono fun e w' ⟨he, h1, h2⟩ => ⟨he, _, h1, h2, fun k hk => by cases hk⟩
    · rw [if_neg hs]
      exact (write_put hF i hi bb bo c m hm hb hbb ho' (fun h1 h2 => hs (by simp [h1, h2])) hp).mono fun e w' ⟨he, pv', h1, h2, h3⟩ => ⟨he, pv', h1, h2, fun k hk => .inr (h3 k hk)⟩

/-- The bytes behind the undoing of writes, the last one first. -/
def undo (l : List UInt8) : List PW → List UInt8
  | [] => l
  | p :: r => spl (undo l r) (64 * p.at_) p.was
/-- The bytes behind a crash that lets k writes last, and T bytes of the next one. -/
def crashed (l : List UInt8) (ps : List PW) (k T : Nat) : List UInt8 := match ps.drop k with
  | [] => l
  | p :: r => spl (undo l (p :: r)) (64 * p.at_) (p.now.take T)
def FM.crash (F : FM) (k t : Int) : FM := { F with set := false, off := false, pend := [], l := crashed F.l F.pend (max 0 k).toNat (min 64 (max 0 t)).toNat }

theorem undo_length (l : List UInt8) (n : Nat) (hl : l.length = 64 * n) : ∀ ps : List PW, (∀ p ∈ ps, p.ok n) → (undo l ps).length = 64 * n
  | [], _ => hl
  | p :: r, h => by
    have hp := h p List.mem_cons_self
    have ih := undo_length l n hl r fun q hq => h q (List.mem_cons_of_mem _ hq)
    unfold undo
    rw [spl_length _ _ _ (by have := hp.1; have := hp.2.1; omega), ih]
theorem crashed_length (l : List UInt8) (n : Nat) (hl : l.length = 64 * n) (ps : List PW) (hp : ∀ p ∈ ps, p.ok n) (k T : Nat) : (crashed l ps k T).length = 64 * n := by
  unfold crashed
  split
  · exact hl
  · rename_i p r he
    have hall : ∀ q ∈ p :: r, q.ok n := fun q hq => hp q (List.mem_of_mem_drop (by rw [he]; exact hq))
    have h1 := undo_length l n hl (p :: r) hall
    have h2 := hall p List.mem_cons_self
    rw [spl_length _ _ _ (by have := h2.1; have := h2.2.2; rw [List.length_take]; omega), h1]
theorem FM.crash_ok {F : FM} (h : F.ok) (k t : Int) : (F.crash k t).ok :=
  { h with len := crashed_length F.l F.n h.len F.pend h.pend _ _, pend := fun p hp => by simp [FM.crash] at hp }

/-- The bytes when the writes from j on have been undone; at k the first bytes of that write stand. -/
def atCrash (l : List UInt8) (ps : List PW) (k T j : Nat) : List UInt8 := if j ≤ k then crashed l ps k T else undo l (ps.drop j)
theorem atCrash_start (l : List UInt8) (ps : List PW) (k T : Nat) : atCrash l ps k T ps.length = l := by
  unfold atCrash crashed
  split
  · rename_i h
    rw [List.drop_eq_nil_of_le h]
  · rw [List.drop_length]; rfl
theorem atCrash_end (l : List UInt8) (ps : List PW) (k T j : Nat) (h : j ≤ k) : atCrash l ps k T j = crashed l ps k T := if_pos h
theorem undo_step (l : List UInt8) (ps : List PW) (q : Nat) (hq : q < ps.length) : undo l (ps.drop q) = spl (undo l (ps.drop (q + 1))) (64 * (ps[q]).at_) (ps[q]).was := by
  rw [List.drop_eq_getElem_cons hq]; rfl
theorem atCrash_mid (l : List UInt8) (ps : List PW) (k T q : Nat) (hq : q < ps.length) (h : k < q) : atCrash l ps k T q = spl (atCrash l ps k T (q + 1)) (64 * (ps[q]).at_) (ps[q]).was := by
  unfold atCrash
  rw [if_neg (by omega), if_neg (by omega), undo_step l ps q hq]
theorem atCrash_last (l : List UInt8) (ps : List PW) (k T q : Nat) (hq : q < ps.length) (h : q = k) : atCrash l ps k T q = spl (spl (atCrash l ps k T (q + 1)) (64 * (ps[q]).at_) (ps[q]).was) (64 * (ps[q]).at_) ((ps[q]).now.take T) := by
  subst h
  unfold atCrash crashed
  rw [if_pos (Nat.le_refl _), if_neg (by omega), List.drop_eq_getElem_cons hq]
  rfl
theorem atCrash_length (l : List UInt8) (n : Nat) (hl : l.length = 64 * n) (ps : List PW) (hp : ∀ p ∈ ps, p.ok n) (k T j : Nat) : (atCrash l ps k T j).length = 64 * n := by
  unfold atCrash
  split
  · exact crashed_length l n hl ps hp k T
  · exact undo_length l n hl _ fun p h => hp p (List.mem_of_mem_drop h)
theorem pcs_get (n : Nat) : ∀ (ps : List PW) (q : Nat) (hq : q < ps.length), (∀ p ∈ ps, p.ok n) → ((pcs ps).drop (q * 129)).take 129 = pc (ps[q])
  | [], q, hq, _ => by simp at hq
  | p :: r, 0, _, h => by
    show (((pc p ++ pcs r)).drop (0 * 129)).take 129 = pc p
    rw [Nat.zero_mul, List.drop_zero, List.take_left' (pc_length p n (h p List.mem_cons_self))]
  | p :: r, q + 1, hq, h => by
    have hl := pc_length p n (h p List.mem_cons_self)
    have e : (q + 1) * 129 = (pc p).length + q * 129 := by omega
    show (((pc p ++ pcs r)).drop ((q + 1) * 129)).take 129 = _
    rw [e, List.drop_length_add_append]
    exact pcs_get n r q (by simpa using hq) fun x hx => h x (List.mem_cons_of_mem _ hx)
theorem pc_was (p : PW) (h : p.was.length = 64) : ((pc p).drop 1).take 64 = bv p.was := by
  unfold pc
  rw [List.drop_succ_cons, List.drop_zero, List.take_left' (by rw [bv_length, h])]
theorem own_range {w : World} {base n c : Nat} {e : TypeId} {size : Nat} {A : Option Addr} {xs : List Value} (h : w.ownsRow base e size (.slice A n c) n xs) (hn : 0 < n) : ∃ g, A = some ⟨g, 0, none⟩ ∧ w.rangeAt g 0 xs := by
  obtain ⟨g, cap, hv, _, _⟩ := h.form hn
  injection hv with hv _ _
  subst hv
  exact ⟨g, rfl, fun j v hj => by have := own_holds h _ rfl j v hj; rwa [Addr.add_mid] at this⟩
theorem range_part {w : World} {b : Nat} {xs : List Value} (h : w.rangeAt b 0 xs) (o n : Nat) (m : List Value) (hm : (xs.drop o).take n = m) : w.rangeAt b o m := by
  intro j v hj
  subst hm
  rw [List.getElem?_take] at hj
  split at hj
  · rw [List.getElem?_drop] at hj
    have := h _ v hj
    rwa [Nat.zero_add] at this
  · cases hj

end Go.Proofs.YtepgmebklhemgaaGreatDoor
/- Contracts of block's Dump and Load. -/
set_option linter.unusedVariables false
set_option linter.unusedSimpArgs false
namespace Go.Proofs.YtepgmebklhemgaaGreatDoor
open Go.RowKit Wd

theorem take_row (l : List UInt8) (k : Nat) : l.take (64 * (k + 1)) = l.take (64 * k) ++ (l.drop (64 * k)).take 64 := by
  rw [show 64 * (k + 1) = 64 * k + 64 from by omega, List.take_add]
set_option maxRecDepth 100000 in
theorem dump_any {w : World} {base f lb : Nat} {F : FM} {pv : Value} (hF : IsF w base f lb F pv) :
    Calls Tryz.prog 10 #[.pointer (some ⟨f, 0, none⟩)] w fun e w' =>
      ∃ g c, e = .returned (.slice (some ⟨g, 0, none⟩) (64 * F.n) c) ∧ w'.ownsRow w.heap.size 5 1 (.slice (some ⟨g, 0, none⟩) (64 * F.n) c) (64 * F.n) (bv F.l) ∧ Below w.heap.size w w' := by
  obtain ⟨i0, hi, hz0, hz1, hz2⟩ := info_parts Tryz.info5
  have n1 := hF.ok.n1
  have n2 := hF.ok.n2
  have hlen := hF.ok.len
  have HLen := Lib.hid hlen
  clear hlen
  go_enter Tryz.func10, Tryz.ntmps10
  go_wp2_with (go_at_call 33; refine (blocks_any hF).mono ?_; rintro e w' ⟨rfl, rfl⟩)
  go_loopw [3, 4, 7] (fun v _ i wr => ∃ k : Nat, k ≤ F.n ∧ i = .int .i64 k ∧ wr.ownsRow w.heap.size 5 1 v (64 * k) (bv (F.l.take (64 * k))) ∧ Below w.heap.size w wr) (fun _ _ i _ => F.n - (intOf i).toNat)
  case atStart => exact ⟨0, by omega, rfl, by simpa [bv] using World.ownsRow_nil _ _ _ _, Below.refl _ _⟩
  case round =>
    obtain ⟨k, hk, rfl, hown, hbe⟩ := hrel
    have hFr := hF.below hbe
    obtain ⟨c0, -, -, -, -, -⟩ := hFr.cells
    have hr := hFr.range k
    by_cases hlt : k < F.n
    · have hat := FM.at_length hF.ok hlt
      have HA := Lib.hid hat
      clear hat
      go_wp2_with (at_builtin; refine wpList_append_own _ rfl _ _ 30 rfl w.heap.size 5 i0 (.int .u8 0) 1 1 Tryz.underlying30 hi hz0 hz1 hz2 rfl (by decide) _ _ _ rfl hown ⟨lb, k * 64, none⟩ 64 64 (bv (F.at_ k)) (by rfl) ?c1 (range_news hr) (bv_one _) ?c3 ?c4 ?c5 ?_)
      case c1 => rw [bv_length, HA.out]
      case c3 => unfold maxLen; omega
      case c4 => omega
      case c5 => exact hbe.size
      intro v' w1 hown1 hgrow _
      go_wp2
      go_roundw
      case rel =>
        refine ⟨k + 1, by omega, by go_num, ?_, hbe.grown hgrow hbe.size (fun g hg => (hown.lt g hg).1)⟩
        rw [take_row, bv_append]
        exact hown1
      case measure => simp [intOf]; omega
    · obtain rfl : k = F.n := by omega
      go_wp2
      go_ret
      obtain ⟨g, c, hv, _, _⟩ := hown.form (by omega)
      subst hv
      rw [← HLen.out, List.take_length] at hown
      rw [HLen.out] at hown
      exact ⟨g, c, rfl, hown, hbe⟩

/-- A file that has bytes. -/
def FM.load (l : List UInt8) : FM := ⟨l.length / 64, l, [], false, false, 0, 0⟩
/-- What the first k rows of a loaded file hold. -/
def loading (l : List UInt8) (n k : Nat) : List UInt8 := l.take (64 * k) ++ List.replicate (64 * (n - k)) 0
theorem loading_zero (l : List UInt8) (n : Nat) : loading l n 0 = List.replicate (64 * n) 0 := by simp [loading]
theorem loading_full (l : List UInt8) (n : Nat) (h : l.length = 64 * n) : loading l n n = l := by simp [loading, ← h]
theorem loading_length (l : List UInt8) (n k : Nat) (h : l.length = 64 * n) (hk : k ≤ n) : (loading l n k).length = 64 * n := by simp [loading]; omega
theorem loading_step (l : List UInt8) (n k : Nat) (h : l.length = 64 * n) (hk : k < n) : spl (loading l n k) (64 * k) ((l.drop (64 * k)).take 64) = loading l n (k + 1) := by
  have e1 : (l.take (64 * k)).length = 64 * k := by simp; omega
  have e2 : ((l.drop (64 * k)).take 64).length = 64 := by simp; omega
  unfold spl loading
  have e3 : (l.take (64 * k) ++ List.replicate (64 * (n - k)) (0 : UInt8)).drop (64 * k + 64) = List.replicate (64 * (n - (k + 1))) 0 := by
    rw [List.drop_append, e1, List.drop_eq_nil_of_le (by omega), List.nil_append, List.drop_replicate]
    congr 1
    omega
  rw [take_row, List.take_left' e1, e2, e3]

end Go.Proofs.YtepgmebklhemgaaGreatDoor
/- A file's model: what a write turns. -/
set_option linter.unusedVariables false
set_option linter.unusedSimpArgs false
namespace Go.Proofs.YtepgmebklhemgaaGreatDoor
open Go.RowKit Wd

theorem FM.write_n (F : FM) (i : Nat) (m : List UInt8) : (F.write i m).n = F.n := by
  unfold FM.write
  split
  · rfl
  · split <;> rfl
theorem FM.write_pend (F : FM) (i : Nat) (m : List UInt8) : (F.write i m).pend.length ≤ F.pend.length + 1 := by
  unfold FM.write
  split
  · omega
  · split
    · simp [FM.fused]
    · simp [FM.put]

theorem Wd.Blk.whole {w : World} {g : Nat} {t : TypeId} {cs : List Value} (h : Blk w g t cs) : w.rangeAt g 0 cs := fun j v hj => by rw [Nat.zero_add, h.cell]; exact hj
end Go.Proofs.YtepgmebklhemgaaGreatDoor
/- Words: a slice of bytes as a string; a file's blocks behind a write. -/
set_option linter.unusedVariables false
set_option linter.unusedSimpArgs false
namespace Go.Proofs.YtepgmebklhemgaaGreatDoor
open Go.RowKit Wd

theorem conv_range {P : Program} {w : World} {src dst e : TypeId} {b o c n : Nat} {l : List UInt8} (hs : P.underlying src = some (.slice e)) (he : P.underlying e = some (.int .u8)) (hd : P.underlying dst = some .string)
    (h : w.rangeAt b o (bv l)) (hn : n = l.length) : (convert src dst (.slice (some ⟨b, o, none⟩) n c)).run P w = .ok (.string ⟨l.toArray⟩) w := by
  subst hn
  refine run_convert_bytes_back w src dst e ⟨b, o, none⟩ c l hs he hd fun j hj => ?_
  rw [Addr.add_mid]
  refine h j _ ?_
  rw [bv_get, List.getElem?_eq_getElem hj]
  rfl
theorem conv_nil {P : Program} {w : World} {src dst e : TypeId} {A : Option Addr} {c : Nat} (hs : P.underlying src = some (.slice e)) (he : P.underlying e = some (.int .u8)) (hd : P.underlying dst = some .string) :
    (convert src dst (.slice A 0 c)).run P w = .ok (.string ⟨#[]⟩) w := by
  cases A with
  | none =>
    rw [run_convert_bytes_string w src dst e none 0 c hs he hd]
    simp [Conv.bytesToString, Sem.run_pure]
    rfl
  | some a => exact run_convert_bytes_back w src dst e a c [] hs he hd fun j hj => absurd hj (by simp)
theorem conv_RB {P : Program} {w : World} {src dst e : TypeId} {A : Option Addr} {c n : Nat} {l : List UInt8} (hs : P.underlying src = some (.slice e)) (he : P.underlying e = some (.int .u8)) (hd : P.underlying dst = some .string)
    (h : RB w A l) (hn : n = l.length) : (convert src dst (.slice A n c)).run P w = .ok (.string ⟨l.toArray⟩) w := by
  by_cases hl : l = []
  · subst hl; subst hn; exact conv_nil hs he hd
  · obtain ⟨b, o, rfl, _, hr⟩ := h hl
    exact conv_range hs he hd hr hn

theorem FM.at_eq (F : FM) (i : Nat) : F.at_ i = (F.l.drop (64 * i)).take 64 := rfl
theorem spl_at (l m : List UInt8) (i : Nat) (hm : m.length = 64) (hl : 64 * i + 64 ≤ l.length) : ((spl l (64 * i) m).drop (64 * i)).take 64 = m := by
  unfold spl
  rw [List.append_assoc, List.drop_left' (by simp; omega), List.take_left' hm]
theorem spl_at_ne (l m : List UInt8) (i j : Nat) (hm : m.length ≤ 64) (hl : 64 * i + 64 ≤ l.length) (hij : j ≠ i) : ((spl l (64 * i) m).drop (64 * j)).take 64 = (l.drop (64 * j)).take 64 := by
  unfold spl
  apply List.ext_getElem?
  intro k
  rw [List.getElem?_take, List.getElem?_take]
  split
  · rw [List.getElem?_drop, List.getElem?_drop]
    rcases Nat.lt_or_gt_of_ne hij with h | h
    · rw [List.append_assoc, List.getElem?_append_left (by simp; omega), List.getElem?_take_of_lt (by omega)]
    · rw [List.getElem?_append_right (by simp; omega), List.getElem?_drop]
      congr 1
      simp
      omega
  · rfl
theorem FM.write_new {n : Nat} (h1 : 1 ≤ n) (m : List UInt8) (hm : m.length = 64) : ((FM.new n).write 0 m).at_ 0 = m := by
  have : (FM.new n).write 0 m = (FM.new n).put 0 m := by simp [FM.write, FM.new]
  rw [this]
  exact spl_at _ _ 0 hm (by simp [FM.new]; omega)
end Go.Proofs.YtepgmebklhemgaaGreatDoor
/- A file of blocks as entries of memory: the contracts of its methods in this form. -/
set_option linter.unusedVariables false
set_option linter.unusedSimpArgs false
namespace Go.Proofs.YtepgmebklhemgaaGreatDoor
open Go.RowKit Wd

/-- The blocks of a file. -/
def ef (f lb : Nat) (F : FM) (pv : Value) (L : List Ent) : List Ent := eb f 95 (fcells lb F pv) :: eb lb 91 (bv F.l) :: er 162 129 pv F.pend.length (pcs F.pend) :: L
/-- The file F lies at f; beside it, L. -/
def FS (w0 w : World) (M : Mem) (f : Nat) (F : FM) (L : List Ent) : Prop := F.ok ∧ ∃ lb pv, St w0 w M (ef f lb F pv L)
theorem FM.write_ok {F : FM} (h : F.ok) (i : Nat) (hi : i < F.n) (m : List UInt8) (hm : m.length = 64) : (F.write i m).ok := by
  unfold FM.write
  split
  · exact h
  · split
    · exact FM.fused_ok h i hi m hm
    · rename_i hs
      exact FM.put_ok h i hi m hm fun h1 h2 => hs (by simp [h1, h2])
section
variable {w0 w w' : World} {M M' : Mem} {L : List Ent} {f lb : Nat} {F F' : FM} {pv pv' : Value}
theorem isF_of (H : St w0 w M (ef f lb F pv L)) (ok : F.ok) : IsF w w0.heap.size f lb F pv :=
  ⟨ok, H.blk 0 rfl, H.blk 1 rfl, H.own 2 rfl, H.base (Ent.holds_lt (H.get 0 rfl) rfl).1 (H.lt 0 rfl), H.base (Ent.holds_lt (H.get 1 rfl) rfl).1 (H.lt 1 rfl)⟩
/-- What a method leaves that turns the file's blocks alone. -/
theorem ef_turn (H : St w0 w M (ef f lb F pv L)) (hF : IsF w' w0.heap.size f lb F' pv') (hk : Keeps w w' (fun k => k = f ∨ k = lb)) (hv : ∀ k, pv'.ownBlock = some k → pv.ownBlock = some k ∨ w.heap.size ≤ k) : St w0 w' M (ef f lb F' pv' L) := by
  have a0 := Ent.holds_lt (H.get 0 rfl) (g := f) rfl
  have a1 := Ent.holds_lt (H.get 1 rfl) (g := lb) rfl
  have p0 := List.pairwise_cons.1 H.apart
  have p1 := List.pairwise_cons.1 p0.2
  have p2 := List.pairwise_cons.1 p1.2
  have hfl : f ≠ lb := fun e => p0.1 (eb lb 91 (bv F.l)) (by simp) f rfl (by rw [e]; rfl)
  have hL : St w0 w' M L := by
    refine H.d0.d0.d0.keep hk (fun e he g hg hs => ?_) (fun g hs => ?_)
    · rcases hs with rfl | rfl
      · exact p0.1 e (by simp [he]) _ rfl hg
      · exact p1.1 e (by simp [he]) _ rfl hg
    · rcases hs with rfl | rfl
      · exact a0.1
      · exact a1.1
  have hcase : ∀ k, pv'.ownBlock = some k → M k = none := fun k hk' => by
    rcases hv k hk' with h | h
    · exact (Ent.holds_lt (H.get 2 rfl) (g := k) h).1
    · exact H.fresh h
  refine ⟨hL.below, hL.old, hL.agr, ?_, ?_⟩
  · intro e he
    simp only [ef, List.mem_cons] at he
    rcases he with rfl | rfl | rfl | he
    · exact eb_holds.2 ⟨a0.1, hF.blk⟩
    · exact eb_holds.2 ⟨a1.1, hF.row⟩
    · exact er_mk hF.own hcase
    · exact hL.holds e he
  · have hnf : ∀ k, pv'.ownBlock = some k → k ≠ f ∧ k ≠ lb ∧ ∀ e ∈ L, e.foot ≠ some k := fun k hk' => by
      rcases hv k hk' with h | h
      · refine ⟨fun e => ?_, fun e => ?_, fun e he => p2.1 e he k h⟩
        · subst e; exact p0.1 (er 162 129 pv F.pend.length (pcs F.pend)) (by simp) _ rfl h
        · subst e; exact p1.1 (er 162 129 pv F.pend.length (pcs F.pend)) (by simp) _ rfl h
      · refine ⟨by omega, by omega, fun e he hf => ?_⟩
        have := (Ent.holds_lt (H.holds e (by simp [ef, he])) hf).2
        omega
    refine List.Pairwise.cons ?_ (List.Pairwise.cons ?_ (List.Pairwise.cons ?_ p2.2))
    · intro e he g hg hg'
      have hg2 : some f = some g := hg
      injection hg2 with hg2
      subst hg2
      simp only [List.mem_cons] at he
      rcases he with rfl | rfl | he
      · have : some lb = some f := hg'
        injection this with this
        exact hfl this.symm
      · exact (hnf f hg').1 rfl
      · exact p0.1 e (by simp [he]) f rfl hg'
    · intro e he g hg hg'
      have hg2 : some lb = some g := hg
      injection hg2 with hg2
      subst hg2
      simp only [List.mem_cons] at he
      rcases he with rfl | he
      · exact (hnf lb hg').2.1 rfl
      · exact p1.1 e (by simp [he]) lb rfl hg'
    · intro e he g hg hg'
      exact (hnf g hg).2.2 e he hg'

theorem fs_write (H : FS w0 w M f F L) (i : Nat) (hi : i < F.n) {A : Option Addr} {c : Nat} {m : List UInt8} (hm : m.length = 64) (hr : RB w A m) (hp : F.pend.length < 1000000000) :
    Calls Tryz.prog 57 #[.pointer (some ⟨f, 0, none⟩), .int .i64 (i : Int), .slice A 64 c] w fun e w' => e = .returned (.int .i64 0) ∧ FS w0 w' M f (F.write i m) L := by
  obtain ⟨ok, lb, pv, H⟩ := H
  obtain ⟨b, o, rfl, hlt, hrg⟩ := hr (by rintro rfl; simp at hm)
  refine (write_anyF (isF_of H ok) i hi b o c m hm hrg hlt hp).mono ?_
  rintro e w' ⟨rfl, pv', h1, h2, h3⟩
  exact ⟨rfl, FM.write_ok ok i hi m hm, lb, pv', ef_turn H h1 h2 h3⟩
theorem fs_write_none (H : FS w0 w M f F L) (i : Int) (hi : i < 0 ∨ (F.n : Int) ≤ i) (v : Value) :
    Calls Tryz.prog 57 #[.pointer (some ⟨f, 0, none⟩), .int .i64 i, v] w fun e w' => e = .returned (.int .i64 4) ∧ w = w' := by
  obtain ⟨ok, lb, pv, H⟩ := H
  exact write_none (isF_of H ok) i hi v
theorem fs_write_arg (H : FS w0 w M f F L) (i : Nat) (hi : i < F.n) (A : Option Addr) (n c : Nat) (hn : n ≠ 64) :
    Calls Tryz.prog 57 #[.pointer (some ⟨f, 0, none⟩), .int .i64 (i : Int), .slice A n c] w fun e w' => e = .returned (.int .i64 1) ∧ w = w' := by
  obtain ⟨ok, lb, pv, H⟩ := H
  exact write_arg (isF_of H ok) i hi A n c hn
theorem fs_sync (H : FS w0 w M f F L) : Calls Tryz.prog 58 #[.pointer (some ⟨f, 0, none⟩)] w fun e w' => e = .returned (.tuple #[]) ∧ FS w0 w' M f { F with pend := [] } L := by
  obtain ⟨ok, lb, pv, H⟩ := H
  refine (sync_any (isF_of H ok)).mono ?_
  rintro e w' ⟨rfl, h1, h2, _⟩
  exact ⟨rfl, h1.ok, lb, _, ef_turn H h1 (h2.imp fun k _ h => .inl h) fun k hk => by cases hk⟩
theorem fs_blocks (H : FS w0 w M f F L) : Calls Tryz.prog 33 #[.pointer (some ⟨f, 0, none⟩)] w fun e w' => e = .returned (.int .i64 (F.n : Int)) ∧ w = w' := by
  obtain ⟨ok, lb, pv, H⟩ := H
  exact blocks_any (isF_of H ok)
theorem ef_new (H : St w0 w M L) (hb : Below w.heap.size w w') (hF : IsF w' w.heap.size f lb F pv) (hp : pv = .slice none 0 0) : FS w0 w' M f F L := by
  have H' := H.belowK hb
  have hne := hF.ne
  subst hp
  refine ⟨hF.ok, lb, .slice none 0 0, H'.below, H'.old, H'.agr, ?_, ?_⟩
  · intro e he
    simp only [ef, List.mem_cons] at he
    rcases he with rfl | rfl | rfl | he
    · exact eb_holds.2 ⟨H.fresh hF.hf, hF.blk⟩
    · exact eb_holds.2 ⟨H.fresh hF.hl, hF.row⟩
    · exact er_mk hF.own fun g hg => by cases hg
    · exact H'.holds e he
  · have far : ∀ g, w.heap.size ≤ g → ∀ e ∈ L, e.foot ≠ some g := fun g hg e he hf => by have := (Ent.holds_lt (H.holds e he) hf).2; omega
    refine List.Pairwise.cons ?_ (List.Pairwise.cons ?_ (List.Pairwise.cons ?_ H.apart))
    · intro e he g hg hg'
      have hg2 : some f = some g := hg
      injection hg2 with hg2
      subst hg2
      simp only [List.mem_cons] at he
      rcases he with rfl | rfl | he
      · have : some lb = some f := hg'
        injection this with this
        exact hne this.symm
      · cases hg'
      · exact far f hF.hf e he hg'
    · intro e he g hg hg'
      have hg2 : some lb = some g := hg
      injection hg2 with hg2
      subst hg2
      simp only [List.mem_cons] at he
      rcases he with rfl | he
      · cases hg'
      · exact far lb hF.hl e he hg'
    · intro e he g hg hg'
      cases hg
theorem fs_new (H : St w0 w M L) (n : Nat) (h1 : 1 ≤ n) (h2 : n ≤ 4096) : Calls Tryz.prog 25 #[.int .i64 (n : Int)] w fun e w' => ∃ f, e = .returned (.tuple #[.pointer (some ⟨f, 0, none⟩), .int .i64 0]) ∧ FS w0 w' M f (FM.new n) L := by
  refine (new_yes n w h1 h2).mono ?_
  rintro e w' ⟨rfl, hF, hb, _⟩
  exact ⟨_, rfl, ef_new H hb hF rfl⟩
theorem fs_add {e : Ent} {Z : List Ent} (h : Z = ef f lb F pv L) (H : St w0 w M (e :: Z)) : St w0 w M (ef f lb F pv (e :: L)) := by subst h; exact H.b3
theorem fs_read (H : FS w0 w M f F L) (i : Nat) (hi : i < F.n) :
    Calls Tryz.prog 122 #[.pointer (some ⟨f, 0, none⟩), .int .i64 (i : Int)] w fun e w' => ∃ g, e = .returned (.tuple #[.slice (some ⟨g, 0, none⟩) 64 64, .int .i64 0]) ∧ FS w0 w' M f F (eb g 91 (bv (F.at_ i)) :: L) := by
  obtain ⟨ok, lb, pv, H⟩ := H
  refine (read_any (isF_of H ok) i hi).mono ?_
  rintro e w' ⟨rfl, h1, h2, _⟩
  exact ⟨_, rfl, ok, lb, pv, fs_add rfl (H.addBlk h2 h1 (Nat.le_refl _))⟩
theorem fs_read_no (H : FS w0 w M f F L) (i : Int) (hi : i < 0 ∨ (F.n : Int) ≤ i) :
    Calls Tryz.prog 122 #[.pointer (some ⟨f, 0, none⟩), .int .i64 i] w fun e w' => e = .returned (.tuple #[.slice none 0 0, .int .i64 4]) ∧ w = w' := by
  obtain ⟨ok, lb, pv, H⟩ := H
  exact read_no (isF_of H ok) i hi
theorem fs_dump (H : FS w0 w M f F L) : Calls Tryz.prog 10 #[.pointer (some ⟨f, 0, none⟩)] w fun e w' =>
    ∃ g c, e = .returned (.slice (some ⟨g, 0, none⟩) (64 * F.n) c) ∧ FS w0 w' M f F (er 5 1 (.slice (some ⟨g, 0, none⟩) (64 * F.n) c) (64 * F.n) (bv F.l) :: L) := by
  obtain ⟨ok, lb, pv, H⟩ := H
  refine (dump_any (isF_of H ok)).mono ?_
  rintro e w' ⟨g, c, rfl, h1, h2⟩
  exact ⟨g, c, rfl, ok, lb, pv, fs_add rfl (H.addRow h2 h1)⟩
/-- What lies beside the file. -/
theorem FS.rest (H : FS w0 w M f F L) : St w0 w M L := by
  obtain ⟨ok, lb, pv, H⟩ := H
  exact H.d0.d0.d0
theorem FS.map {L' : List Ent} (H : FS w0 w M f F L) (h : ∀ Z : List Ent, Z.length = 3 → St w0 w M (Z ++ L) → St w0 w' M' (Z ++ L')) : FS w0 w' M' f F L' := by
  obtain ⟨ok, lb, pv, H⟩ := H
  exact ⟨ok, lb, pv, h [_, _, _] rfl H⟩
theorem FS.drew (H : FS w0 w M f F L) : FS w0 w.drew M f F L := by
  obtain ⟨ok, lb, pv, H⟩ := H
  exact ⟨ok, lb, pv, H.drew⟩
theorem FS.drop {e : Ent} (H : FS w0 w M f F (e :: L)) : FS w0 w M f F L := H.map fun Z _ h => h.sub (List.Sublist.append (List.Sublist.refl Z) (List.sublist_cons_self e L))
theorem FS.belowK (H : FS w0 w M f F L) (k : Below w.heap.size w w') : FS w0 w' M f F L := H.map fun Z _ h => h.belowK k
theorem FS.newg (H : FS w0 w M f F L) (cs : List Value) (t : TypeId) {g : Nat} (hg : g = w.heap.size) : FS w0 (w.alloc (.cells cs.toArray t)) M f F (eb g t cs :: L) := by
  obtain ⟨ok, lb, pv, H⟩ := H
  exact ⟨ok, lb, pv, fs_add rfl (H.newg cs t hg)⟩
theorem FS.cell (H : FS w0 w M f F L) {g : Nat} {t : TypeId} {cs : List Value} (i : Nat) (hi : L[i]? = some (eb g t cs)) (o : Nat) : w.cell? ⟨g, o, none⟩ = cs[o]? := H.rest.cell i hi o
theorem FS.frozen (H : FS w0 w M f F L) {g : Nat} {t : TypeId} {cs : List Value} (i : Nat) (hi : L[i]? = some (eb g t cs)) (o : Nat) : w.frozen? ⟨g, o, none⟩ = false := H.rest.frozen i hi o
/-- The file behind the entry. -/
theorem FS.out {e : Ent} (H : FS w0 w M f F (e :: L)) : ∃ Z : List Ent, St w0 w M (e :: Z) ∧ ∀ w' M' e', St w0 w' M' (e' :: Z) → FS w0 w' M' f F (e' :: L) := by
  obtain ⟨ok, lb, pv, H⟩ := H
  exact ⟨ef f lb F pv L, H.f3, fun w' M' e' h => ⟨ok, lb, pv, fs_add rfl h⟩⟩
theorem FS.out0 (H : FS w0 w M f F L) : ∃ Z : List Ent, St w0 w M Z ∧ (∀ w' M', St w0 w' M' Z → FS w0 w' M' f F L) ∧ ∀ w' M' e', St w0 w' M' (e' :: Z) → FS w0 w' M' f F (e' :: L) := by
  obtain ⟨ok, lb, pv, H⟩ := H
  exact ⟨ef f lb F pv L, H, fun w' M' h => ⟨ok, lb, pv, h⟩, fun w' M' e' h => ⟨ok, lb, pv, fs_add rfl h⟩⟩
end
end Go.Proofs.YtepgmebklhemgaaGreatDoor
