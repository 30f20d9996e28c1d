/- Words for memory that all contracts of this seat use: bytes as values, blocks that are known whole, frames. No program is in sight. -/
import Derived.WalkKit
import Derived.ProofKit
import Derived.Deep.Draws
import Derived.Deep.MidRow
import Derived.Deep.WholeRow
import Derived.Deep.AppendLies
import Derived.Lib.Hide
import Derived.Laws.CopyOwn
import Derived.Maps.AppendAt
import Derived.Laws.OwnMore
import Derived.ArgAppend
import Derived.Deep.Upon
import Derived.Lib.AppendStr
import Derived.Lib.ConvBytes
import Derived.Lib.AppendZerosOnto
set_option linter.unusedVariables false
set_option linter.unusedSimpArgs false
namespace Go.Proofs.YtepgmebklhemgaaGreatDoor.Wd
open Go.RowKit

/-- Bytes as the values of cells. -/
def bv (l : List UInt8) : List Value := l.map fun x => .int .u8 (x.toNat : Int)
theorem bv_length (l : List UInt8) : (bv l).length = l.length := by simp [bv]
theorem bv_append (l m : List UInt8) : bv (l ++ m) = bv l ++ bv m := by simp [bv]
theorem bv_take (l : List UInt8) (n : Nat) : (bv l).take n = bv (l.take n) := by simp [bv, List.map_take]
theorem bv_drop (l : List UInt8) (n : Nat) : (bv l).drop n = bv (l.drop n) := by simp [bv, List.map_drop]
theorem bv_get (l : List UInt8) (j : Nat) : (bv l)[j]? = l[j]?.map fun x => .int .u8 (x.toNat : Int) := by simp [bv]
theorem bv_one (l : List UInt8) : ∀ u ∈ bv l, u.oneCell' = true := by
  intro u hu
  obtain ⟨x, _, rfl⟩ := List.mem_map.1 hu
  rfl
theorem bv_set (l : List UInt8) (j : Nat) (x : UInt8) : (bv l).set j (.int .u8 (x.toNat : Int)) = bv (l.set j x) := by simp [bv, List.map_set]

/-- Block g is just the cells cs, of element type t; none is frozen. -/
def Blk (w : World) (g : Nat) (t : TypeId) (cs : List Value) : Prop := w.heap[g]? = some (.cells cs.toArray t (0, 0))
section
variable {w w' : World} {g : Nat} {t : TypeId} {cs : List Value}
theorem Blk.lt (h : Blk w g t cs) : g < w.heap.size := by
  rcases Nat.lt_or_ge g w.heap.size with hlt | hge
  · exact hlt
  · unfold Blk at h; rw [Array.getElem?_eq_none hge] at h; cases h
theorem Blk.cell (h : Blk w g t cs) (i : Nat) : w.cell? ⟨g, i, none⟩ = cs[i]? := by
  rw [cell_of_row w g i _ t (0, 0) h]; simp
theorem Blk.frozen (h : Blk w g t cs) (i : Nat) : w.frozen? ⟨g, i, none⟩ = false := by
  unfold Blk at h
  simp [World.frozen?, h]
theorem Blk.new (w : World) (t : TypeId) (cs : List Value) : Blk (w.alloc (.cells cs.toArray t)) w.heap.size t cs := heap_alloc_new w _
theorem Blk.drew (h : Blk w g t cs) : Blk w.drew g t cs := h
theorem Blk.drewN (h : Blk w g t cs) (n : Nat) : Blk (w.drewN n) g t cs := h
theorem Blk.alloc (h : Blk w g t cs) (o : Obj) : Blk (w.alloc o) g t cs := (Below.heap_alloc w o g h.lt).trans h
theorem Blk.set_ (h : Blk w g t cs) (i : Nat) (u : Value) : Blk (w.setCell ⟨g, i, none⟩ u) g t (cs.set i u) := by
  unfold Blk at h ⊢
  simp [World.setCell, Array.getElem?_modify, h]
theorem Blk.far (h : Blk w g t cs) {p : Addr} (hp : g ≠ p.block) (u : Value) : Blk (w.setCell p u) g t cs := (Below.heap_setCell w p u g hp).trans h
theorem Blk.below {B : Nat} (h : Blk w g t cs) (hb : Below B w w') (hg : g < B) : Blk w' g t cs := (hb.block g hg).trans h
theorem Blk.grown {row : Option Nat} (h : Blk w g t cs) (hb : w.grownBy w' row) (hg : some g ≠ row) : Blk w' g t cs := (hb.block g h.lt hg).trans h
theorem Blk.ne_ {g' : Nat} {t' : TypeId} {cs' : List Value} (h : Blk w g t cs) (h' : Blk w g' t' cs') (hne : t ≠ t') : g ≠ g' := by
  rintro rfl
  unfold Blk at h h'
  rw [h] at h'
  injection h' with h'
  injection h' with _ ht
  exact hne ht
theorem Blk.range (h : Blk w g t cs) (o n : Nat) (m : List Value) (hm : (cs.drop o).take n = m) : w.rangeAt g o m := by
  intro j v hj
  subst hm
  rw [h.cell]
  rw [List.getElem?_take] at hj
  split at hj
  · rw [List.getElem?_drop] at hj; exact hj
  · cases hj
end
theorem below_drewN {B : Nat} {a w : World} (h : Below B a w) (n : Nat) : Below B a (w.drewN n) := ⟨h.os, h.tape, h.output, h.size, h.block⟩

theorem _root_.Go.RowKit.Below.trans_drew {B : Nat} {a w : World} (h : Below B a.drew w) : Below B a w := ⟨h.os, h.tape, h.output, h.size, h.block⟩
theorem _root_.Go.RowKit.Below.trans_of {B : Nat} {a b c : World} (k : Below B b c) (h : Below B a b) : Below B a c := h.trans k

/-- The slice value that begins at A reads as the bytes l: nothing is asked of an empty one. -/
def RB (w : World) (A : Option Addr) (l : List UInt8) : Prop := l ≠ [] → ∃ b o, A = some ⟨b, o, none⟩ ∧ b < w.heap.size ∧ w.rangeAt b o (bv l)
theorem rangeAt_below {w w' : World} {b o : Nat} {cs : List Value} (h : w.rangeAt b o cs) {B : Nat} (hb : Below B w w') (hB : b < B) : w'.rangeAt b o cs :=
  fun j v hj => (hb.cell (p := ⟨b, o + j, none⟩) hB).trans (h j v hj)
theorem RB.below {w w' : World} {A : Option Addr} {l : List UInt8} (h : RB w A l) (hb : Below w.heap.size w w') : RB w' A l := fun hl => by
  obtain ⟨b, o, rfl, hlt, hr⟩ := h hl
  exact ⟨b, o, rfl, Nat.lt_of_lt_of_le hlt hb.size, rangeAt_below hr hb hlt⟩

/-- Only the blocks of S, and what is new, have turned. -/
structure Keeps (w w' : World) (S : Nat → Prop) : Prop where
  os : w'.os = w.os
  tape : w'.tape = w.tape
  output : w'.output = w.output
  size : w.heap.size ≤ w'.heap.size
  block : ∀ k, k < w.heap.size → ¬ S k → w'.heap[k]? = w.heap[k]?
section
variable {w w' w'' : World} {S S' : Nat → Prop}
theorem Keeps.refl (w : World) (S : Nat → Prop) : Keeps w w S := ⟨rfl, rfl, rfl, Nat.le_refl _, fun _ _ _ => rfl⟩
theorem Keeps.of_below (h : Below w.heap.size w w') (S : Nat → Prop) : Keeps w w' S := ⟨h.os, h.tape, h.output, h.size, fun k hk _ => h.block k hk⟩
theorem Keeps.imp (h : Keeps w w' S) (hS : ∀ k, k < w.heap.size → S k → S' k) : Keeps w w' S' := ⟨h.os, h.tape, h.output, h.size, fun k hk hn => h.block k hk fun hs => hn (hS k hk hs)⟩
/-- Two steps: what the second turns is what the first may, or new. -/
theorem Keeps.trans (h : Keeps w w' S) (k : Keeps w' w'' S') (hS : ∀ i, S' i → S i ∨ w.heap.size ≤ i) : Keeps w w'' S :=
  ⟨k.os.trans h.os, k.tape.trans h.tape, k.output.trans h.output, Nat.le_trans h.size k.size, fun i hi hn =>
    (k.block i (Nat.lt_of_lt_of_le hi h.size) fun hs => by
      rcases hS i hs with h1 | h1
      · exact hn h1
      · omega).trans (h.block i hi hn)⟩
theorem Keeps.then_below (h : Keeps w w' S) (k : Below w'.heap.size w' w'') : Keeps w w'' S := h.trans (Keeps.of_below k fun _ => False) fun _ hf => hf.elim
theorem Keeps.alloc (h : Keeps w w' S) (o : Obj) : Keeps w (w'.alloc o) S := h.then_below ((Below.refl _ _).alloc (Nat.le_refl _) o)
theorem Keeps.drew (h : Keeps w w' S) : Keeps w w'.drew S := ⟨h.os, h.tape, h.output, h.size, h.block⟩
theorem Keeps.drewN (h : Keeps w w' S) (n : Nat) : Keeps w (w'.drewN n) S := ⟨h.os, h.tape, h.output, h.size, h.block⟩
theorem Keeps.setCell (h : Keeps w w' S) {p : Addr} (hp : S p.block ∨ w.heap.size ≤ p.block) (u : Value) : Keeps w (w'.setCell p u) S :=
  h.trans (S' := fun i => i = p.block) ⟨rfl, rfl, rfl, by simp [World.setCell], fun k _ hn => Below.heap_setCell w' p u k hn⟩ fun i hi => by subst hi; exact hp
theorem Keeps.grown {row : Option Nat} (h : Keeps w w' S) (hg : w'.grownBy w'' row) (hr : ∀ k, row = some k → S k ∨ w.heap.size ≤ k) : Keeps w w'' S :=
  h.trans (S' := fun i => row = some i) ⟨hg.os, hg.tape, hg.output, hg.size, fun k hk hn => hg.block k hk fun e => hn e.symm⟩ fun i hi => hr i hi
theorem Keeps.below {B : Nat} (h : Keeps w w' S) (hB : B ≤ w.heap.size) (hS : ∀ k, S k → B ≤ k) : Below B w w' :=
  ⟨h.os, h.tape, h.output, h.size, fun k hk => h.block k (by omega) fun hs => by have := hS k hs; omega⟩
theorem Keeps.blk {g : Nat} {t : TypeId} {cs : List Value} (h : Keeps w w' S) (hb : Blk w g t cs) (hn : ¬ S g) : Blk w' g t cs := (h.block g hb.lt hn).trans hb
theorem Keeps.own {base : Nat} {e : TypeId} {size n : Nat} {v : Value} {xs : List Value} (h : Keeps w w' S) (ho : w.ownsRow base e size v n xs) (hn : ∀ k, v.ownBlock = some k → ¬ S k) : w'.ownsRow base e size v n xs := by
  refine ⟨ho.1, ?_⟩
  rcases ho.2 with h0 | ⟨g, cap, cur, rfl, hb, hgg, rest⟩
  · exact .inl h0
  · exact .inr ⟨g, cap, cur, rfl, hb, (h.block g (Array.getElem?_eq_some_iff.1 hgg).1 (hn g rfl)).trans hgg, rest⟩
end
/-- The row of an owned slice is no block that is known whole of another element type. -/
theorem own_ne {w : World} {g : Nat} {t : TypeId} {cs : List Value} {base : Nat} {e : TypeId} {size n : Nat} {v : Value} {xs : List Value} (h : w.ownsRow base e size v n xs) (hg : Blk w g t cs) (hne : e ≠ t) : ∀ k, v.ownBlock = some k → k ≠ g := by
  rintro k hk rfl
  rcases h.2 with ⟨rfl, _⟩ | ⟨g', cap, cur, rfl, _, hh, _⟩
  · simp [Value.ownBlock] at hk
  · have : g' = k := by simpa [Value.ownBlock] using hk
    subst this
    unfold Blk at hg
    rw [hh] at hg
    injection hg with hg
    injection hg with _ ht
    exact hne ht
theorem own_slice {w : World} {base n : Nat} {e : TypeId} {size : Nat} {v : Value} {xs : List Value} (h : w.ownsRow base e size v n xs) : ∃ A c, v = .slice A n c ∧ n ≤ c := by
  rcases h.2 with ⟨rfl, rfl⟩ | ⟨g, cap, cur, rfl, _, _, hc, _⟩
  · exact ⟨_, _, rfl, Nat.le_refl _⟩
  · exact ⟨_, _, rfl, hc⟩
theorem own_mono {w : World} {base base' n : Nat} {e : TypeId} {size : Nat} {v : Value} {xs : List Value} (h : w.ownsRow base e size v n xs) (hb : base' ≤ base) : w.ownsRow base' e size v n xs := by
  refine ⟨h.1, ?_⟩
  rcases h.2 with h0 | ⟨g, cap, cur, rfl, hg, rest⟩
  · exact .inl h0
  · exact .inr ⟨g, cap, cur, rfl, by omega, rest⟩
/-- 'make' of elements whose cells are all alike. -/
theorem made_same (z : Array Value) (v : Value) (m : Nat) (hz : z = Array.replicate m v) (hm : 0 < m) (n : Nat) : madeCells z n = Array.replicate n v := by
  subst hz
  apply Array.ext
  · simp [madeCells]
  · intro j h1 h2
    have hj : j % m < m := Nat.mod_lt _ hm
    simp [madeCells, hj]

/-! ### Arrays: a new variable, a store into it, a store into the midst of a block -/
section
variable {P : Program} {ops : Array Oper} {rest : List Oper} {op : Oper} {a : Act} {w : World} {Q : Exit → Act → World → Prop}
/-- A new variable whose zero value is known: its cells are not looked into. -/
theorem run_alloc_z {t : TypeId} {z : Value} {m : Nat} (hz : (P.info? t).map (fun i => (i.zero, i.size)) = some (some z, m)) (w : World) :
    (Instr.alloc t true (.tuple #[])).run P w = .ok (.pointer (some ⟨w.heap.size, 0, none⟩)) (w.alloc (.cells z.cells t)) := by
  have h := (zero_of_info hz).1 w
  simp only [Instr.alloc, Sem.run_bind, h, Result.andThen_ok]
  rfl
theorem wpList_alloc_z (hgd : op.guard = none) (t : TypeId) (ho : op.op = .alloc t) {z : Value} {m : Nat} (hz : (P.info? t).map (fun i => (i.zero, i.size)) = some (some z, m))
    (h : wpList P ops Q rest (a.put op.dst (.pointer (some ⟨w.heap.size, 0, none⟩))) (w.alloc (.cells z.cells t))) : wpList P ops Q (op :: rest) a w :=
  wpList_plain hgd fun K hK => by
    unfold Oper.wp execOp
    simp only [ho, Sem.run_bind, run_alloc_z hz, Result.andThen_ok]
    exact hK _ _ h
theorem wpList_store_new (hgd : op.guard = none) (ty : TypeId) (x y : Operand) (ho : op.op = .store ty x y) (W : World) (c : Array Value) (t : TypeId) (hw : w = W.alloc (.cells c t)) (cells : Array Value)
    (hx : a.eval x = .pointer (some ⟨W.heap.size, 0, none⟩)) (hy : a.eval y = .agg cells) (hc : c.size = cells.size) (hi : (P.info? ty).map (·.size) = some cells.size) (h1 : cells.all (·.oneCell') = true)
    (h : wpList P ops Q rest (a.put op.dst undef) (W.alloc (.cells cells t))) : wpList P ops Q (op :: rest) a w :=
  wpList_plain hgd fun K hK => by
    subst hw
    unfold Oper.wp execOp
    have hst : (storeVar ty ⟨W.heap.size, 0, none⟩ (.agg cells)).run P (W.alloc (.cells c t)) = .ok () (W.alloc (.cells cells t)) := by
      rw [run_storeVar_row _ _ t ty c cells (heap_alloc_last W _) hi hc h1, World.setRow_alloc_new]
    simp only [ho, hx, hy, Instr.storeAt, Instr.sureAddr, Sem.run_bind, Sem.run_pure, Result.andThen_ok, hst]
    exact hK _ _ h
end
/-- A row behind a store into its midst. -/
def ins (l : List Value) (o : Nat) (m : List Value) : List Value := l.take o ++ m ++ l.drop (o + m.length)
theorem Blk.setCells {w : World} {g : Nat} {t : TypeId} {cs : List Value} (h : Blk w g t cs) (o : Nat) (m : List Value) (hm : o + m.length ≤ cs.length) : Blk (w.setCells g o m) g t (ins cs o m) := by
  induction m generalizing w cs o with
  | nil => simpa [World.setCells, ins] using h
  | cons v m ih =>
    have h1 := ih (h.set_ o v) (o + 1) (by simp at hm ⊢; omega)
    simp only [World.setCells]
    refine cast ?_ h1
    congr 1
    have hl : o < cs.length := by simp at hm; omega
    unfold ins
    apply List.ext_getElem?
    intro j
    simp only [List.getElem?_append, List.getElem?_take, List.getElem?_drop, List.getElem?_set, List.length_append, List.length_take, List.length_set, List.length_cons, List.getElem?_cons]
    rcases Nat.lt_trichotomy j o with hj | hj | hj
    · grind
    · grind
    · grind
theorem Keeps.setCells {w w' : World} {S : Nat → Prop} (h : Keeps w w' S) {g : Nat} (hg : S g ∨ w.heap.size ≤ g) (o : Nat) (m : List Value) : Keeps w (w'.setCells g o m) S := by
  induction m generalizing w' o with
  | nil => simpa [World.setCells] using h
  | cons v m ih =>
    simp only [World.setCells]
    exact ih (h.setCell (p := ⟨g, o, none⟩) hg v) (o + 1)
theorem size_setCells (w : World) (g o : Nat) (m : List Value) : (w.setCells g o m).heap.size = w.heap.size := by
  induction m generalizing w o with
  | nil => simp [World.setCells]
  | cons v m ih => simp only [World.setCells]; rw [ih]; simp [World.setCell]

end Go.Proofs.YtepgmebklhemgaaGreatDoor.Wd
/- Structs and arrays with parts of many cells: built, sliced, their fields. No program is in sight. -/
set_option linter.unusedVariables false
set_option linter.unusedSimpArgs false
namespace Go.Proofs.YtepgmebklhemgaaGreatDoor.Wd
open Go.RowKit
section
variable {P : Program}
/-- Where a struct's fields lie, and how many cells each has. -/
def placesL (P : Program) : List Field → Option (List (Nat × Nat))
  | [] => some []
  | f :: r => match (P.info? f.type).map (·.size), placesL P r with
    | some n, some l => some ((f.offset, n) :: l)
    | _, _ => none
def placesOf (P : Program) (t : TypeId) : Option (List (Nat × Nat)) := match P.underlying t with
  | some (.struct fs) => placesL P fs.toList
  | _ => none
theorem run_places : ∀ (fs : List Field) (l : List (Nat × Nat)) (w : World), placesL P fs = some l → (fs.mapM fun f => (do pure (f.offset, ← sizeOf f.type) : Sem (Nat × Nat))).run P w = .ok l w
  | [], l, w, h => by
    simp only [placesL, Option.some.injEq] at h
    subst h
    rfl
  | f :: r, l, w, h => by
    simp only [placesL] at h
    split at h
    · rename_i n l' hn hl
      simp only [Option.some.injEq] at h
      subst h
      have ih := run_places r l' w hl
      cases hq : P.info? f.type with
      | none => simp [hq] at hn
      | some i =>
        have hs : i.size = n := by simpa [hq] using hn
        rw [List.mapM_cons, Sem.run_bind, Sem.run_bind]
        have h1 : (sizeOf f.type).run P w = .ok n w := by simp [sizeOf, typeInfo, hq, hs]
        rw [h1]
        simp only [Result.andThen_ok, Sem.run_pure, Sem.run_bind]
        rw [ih]
        rfl
    · cases h
/-- A part laid over cells. -/
theorem fold_splice (v : List Value) : ∀ (off k : Nat) (cs : Array Value), off + k + v.length ≤ cs.size →
    (v.toArray.zipIdx k).foldl (fun cs (c, j) => cs.setIfInBounds (off + j) c) cs = (ins cs.toList (off + k) v).toArray := by
  induction v with
  | nil =>
    intro off k cs _
    have e : (([] : List Value).toArray.zipIdx k) = #[] := by simp
    rw [e]
    simp [ins]
  | cons x v ih =>
    intro off k cs hl
    have e : ((x :: v).toArray.zipIdx k) = #[(x, k)] ++ v.toArray.zipIdx (k + 1) := by
      apply Array.ext'
      simp [List.zipIdx_cons]
    rw [e, Array.foldl_append]
    have h1 := ih off (k + 1) (cs.setIfInBounds (off + k) x) (by simp at hl ⊢; omega)
    simp only [List.foldl_toArray', List.foldl_cons, List.foldl_nil]
    refine h1.trans ?_
    apply congrArg List.toArray
    simp only [List.length_cons] at hl
    unfold ins
    apply List.ext_getElem?
    intro j
    simp only [Array.toList_setIfInBounds, List.getElem?_append, List.getElem?_take, List.getElem?_drop, List.getElem?_set, List.length_append, List.length_take, List.length_set, List.length_cons, List.getElem?_cons, Array.length_toList]
    rcases Nat.lt_trichotomy j (off + k) with hj | hj | hj <;> grind
theorem fill_step (place : Nat → Option (Nat × Nat)) (cells : Array Value) (i off : Nat) (v : Value) (rest : List (Nat × Value)) (hp : place i = some (off, v.cells.size)) (hl : off + v.cells.size ≤ cells.size) :
    Instr.fill place cells ((i, v) :: rest) = Instr.fill place (ins cells.toList off v.cells.toList).toArray rest := by
  have h := fold_splice v.cells.toList off 0 cells (by simpa using hl)
  simp only [Nat.add_zero] at h
  rw [Instr.fill, hp]
  simp only
  rw [if_neg (by simp; omega), ← h]
/-- 'T{a, b, ..}' whose parts are whatever: its cells, out of 'fill'. -/
theorem run_build {t : TypeId} {z : Value} {n : Nat} {l : List (Nat × Nat)} (hz : (P.info? t).map (fun i => (i.zero, i.size)) = some (some z, n)) (hp : placesOf P t = some l) (parts : Array (Nat × Value)) (cells : Array Value)
    (hf : Instr.fill (l.toArray[·]?) z.cells parts.toList = some cells) (w : World) : (Instr.build t parts).run P w = .ok (.agg cells) w := by
  have h0 := (zero_of_info hz).1 w
  unfold placesOf at hp
  split at hp
  · rename_i fs hu
    have h1 := run_places fs.toList l w hp
    have h2 : (fs.mapM fun f => (do pure (f.offset, ← sizeOf f.type) : Sem (Nat × Nat))).run P w = .ok l.toArray w := by
      rw [Array.mapM_eq_mapM_toList, ← bind_pure_comp, Sem.run_bind, h1]
      rfl
    unfold Instr.build
    rw [Sem.run_bind, h0, Result.andThen_ok, Sem.run_bind, run_underlying hu, Result.andThen_ok]
    simp only
    rw [Sem.run_bind, h2, Result.andThen_ok]
    simp only [hf]
    rfl
  · cases hp
/-- A struct of three parts. -/
theorem run_build3 {t : TypeId} {z : Value} {n n0 n1 n2 : Nat} (hz : (P.info? t).map (fun i => (i.zero, i.size)) = some (some z, n)) (hzs : z.cells.size = n) (hp : placesOf P t = some [(0, n0), (n0, n1), (n0 + n1, n2)]) (hn : n = n0 + n1 + n2)
    (x y u : Value) (hx : x.cells.size = n0) (hy : y.cells.size = n1) (hu : u.cells.size = n2) (w : World) :
    (Instr.build t #[(0, x), (1, y), (2, u)]).run P w = .ok (.agg (x.cells.toList ++ y.cells.toList ++ u.cells.toList).toArray) w := by
  refine run_build hz hp _ _ ?_ w
  subst hx hy hu
  rw [fill_step _ _ 0 0 x _ rfl (by omega)]
  rw [fill_step _ _ 1 _ y _ rfl (by simp [ins]; omega)]
  rw [fill_step _ _ 2 _ u _ rfl (by simp [ins]; omega)]
  simp only [Instr.fill, Option.some.injEq]
  congr 1
  have hl : z.cells.toList.length = x.cells.toList.length + y.cells.toList.length + u.cells.toList.length := by simp; omega
  generalize z.cells.toList = Z at hl
  rw [show x.cells.size = x.cells.toList.length from by simp, show y.cells.size = y.cells.toList.length from by simp]
  generalize x.cells.toList = X at hl ⊢
  generalize y.cells.toList = Y at hl ⊢
  generalize u.cells.toList = U at hl ⊢
  unfold ins
  apply List.ext_getElem?
  intro j
  simp only [List.getElem?_append, List.getElem?_take, List.getElem?_drop, List.length_append, List.length_take, List.length_drop]
  grind
/-- A slice as an array's place. -/
theorem arrayAt_ok {t e : TypeId} {n : Nat} (hu : P.underlying t = some (.array n e)) (A : Option Addr) (len c : Nat) (h : n ≤ len) (w : World) : (Instr.arrayAt t (.slice A len c)).run P w = .ok (.pointer A) w := by
  have h' : ¬ len < n := by omega
  simp [Instr.arrayAt, run_underlying hu, h']
end
section
variable {P : Program} {ops : Array Oper} {rest : List Oper} {op : Oper} {a : Act} {w : World} {Q : Exit → Act → World → Prop}
theorem blk_setRow {w : World} {g : Nat} {t : TypeId} {cur : List Value} (h : Blk w g t cur) (cs : List Value) : Blk (w.setRow g cs.toArray) g t cs := setRow_heap w g _ _ t _ h
theorem keeps_setRow {w w0 : World} {S : Nat → Prop} (h : Keeps w0 w S) {g : Nat} (hg : S g ∨ w0.heap.size ≤ g) (cs : Array Value) : Keeps w0 (w.setRow g cs) S :=
  h.trans (S' := fun i => i = g) ⟨rfl, rfl, rfl, by simp [World.setRow], fun k _ hn => setRow_other w g k cs hn⟩ fun i hi => by subst hi; exact hg
/-- copy into a block that is known whole: the world behind it is a letter. -/
theorem wpList_copy_blk (hgd : op.guard = none) (d s : Operand) (dT sT : TypeId) (ho : op.op = .call { callee := .builtin .copy, args := #[d, s], argTypes := #[dT, sT] }) (elem : TypeId) (hu : P.underlying dT = some (.slice elem)) (hsz : (P.info? elem).map (·.size) = some 1)
    (g off dLen dCap : Nat) (sp : Option Addr) (sLen sCap : Nat) (hd : a.eval d = .slice (some ⟨g, off, none⟩) dLen dCap) (hs : a.eval s = .slice sp sLen sCap) (cur : List Value) (t : TypeId) (hg : Blk w g t cur) (cs : List Value) (hn : cs.length = Nat.min sLen dLen)
    (hsrc : 0 < cs.length → ∃ ad, sp = some ad ∧ ∀ j v, cs[j]? = some v → w.cell? (ad.add j) = some v) (hfit : off + cs.length ≤ cur.length) (h1 : ∀ v ∈ cs, v.oneCell' = true)
    (h : ∀ w', Blk w' g t (ins cur off cs) → Keeps w w' (· = g) → w'.heap.size = w.heap.size → wpList P ops Q rest (a.put op.dst (goInt cs.length)) w') : wpList P ops Q (op :: rest) a w := by
  by_cases h0 : cs.length = 0
  · obtain rfl : cs = [] := List.eq_nil_of_length_eq_zero h0
    refine wpList_copy_nothing hgd d s dT sT ho elem hu hsz _ sp dLen dCap sLen sCap hd hs (by simpa using hn.symm) ?_
    exact h w (by simpa [ins] using hg) (Keeps.refl _ _) rfl
  · obtain ⟨ad, rfl, hsrc2⟩ := hsrc (by omega)
    refine wpList_copy_own hgd d s dT sT ho elem hu hsz g off dLen dCap ad sLen sCap hd hs cur.toArray t hg cs hn hsrc2 (by simpa using hfit) h1 ?_
    refine h _ ?_ (keeps_setRow (Keeps.refl w (· = g)) (.inl rfl) _) (by simp [World.setRow])
    have := blk_setRow hg (ins cur off cs)
    simpa [ins] using this
/-- A whole array stored into the midst of a block that is known whole. -/
theorem wpList_store_blk (hgd : op.guard = none) (ty : TypeId) (x y : Operand) (ho : op.op = .store ty x y) (b o : Nat) (cs : List Value) (hx : a.eval x = .pointer (some ⟨b, o, none⟩)) (hy : a.eval y = .agg cs.toArray)
    (t : TypeId) (cur : List Value) (hb : Blk w b t cur) (hfit : o + cs.length ≤ cur.length) (hi : (P.info? ty).map (·.size) = some cs.length) (h1 : ∀ v ∈ cs, v.oneCell' = true)
    (h : ∀ w', Blk w' b t (ins cur o cs) → Keeps w w' (· = b) → w'.heap.size = w.heap.size → wpList P ops Q rest (a.put op.dst undef) w') : wpList P ops Q (op :: rest) a w := by
  refine wpList_store_mid hgd ty x y ho b o cs.toArray hx hy (fun j hj => ?_) (by simpa using hi) (all_oneCell_toArray h1) ?_
  · rw [hb.cell, hb.frozen]
    simp only [List.size_toArray] at hj
    rw [List.getElem?_eq_getElem (by omega)]
    exact ⟨rfl, rfl⟩
  · exact h _ (by simpa using hb.setCells o cs hfit) (by simpa using (Keeps.refl w (· = b)).setCells (.inl rfl) o cs) (size_setCells _ _ _ _)
/-- A new variable whose zero value is known: the world behind it is a letter. -/
theorem wpList_alloc_blk (hgd : op.guard = none) (t : TypeId) (ho : op.op = .alloc t) {z : Value} {m : Nat} (hz : (P.info? t).map (fun i => (i.zero, i.size)) = some (some z, m))
    (h : ∀ w', Blk w' w.heap.size t z.cells.toList → Below w.heap.size w w' → w'.heap.size = w.heap.size + 1 → wpList P ops Q rest (a.put op.dst (.pointer (some ⟨w.heap.size, 0, none⟩))) w') : wpList P ops Q (op :: rest) a w :=
  wpList_alloc_z hgd t ho hz (h _ (by simpa using Blk.new w t z.cells.toList) ((Below.refl _ _).alloc (Nat.le_refl _) _) (by simp))
end
section
variable {P : Program} {ops : Array Oper} {rest : List Oper} {op : Oper} {a : Act} {w : World} {Q : Exit → Act → World → Prop}
/-- '[]T{x}' whose element is whatever. -/
theorem run_buildSlice_one {t e : TypeId} {z : Value} {n : Nat} (hu : P.underlying t = some (.slice e)) (hz : (P.info? e).map (fun i => (i.zero, i.size)) = some (some z, n)) (hzs : z.cells.size = n) (hn : 0 < n) (hn2 : n ≤ 16777216) (v : Value) (hv : v.cells.size = n) (w : World) :
    (Instr.buildSlice t 1 #[(0, v)]).run P w = .ok (.slice (some ⟨w.heap.size, 0, none⟩) 1 1) (w.alloc (.cells v.cells e)) := by
  have h0 := (zero_of_info hz).1 w
  have hs : (sizeOf e).run P w = .ok n w := by
    have := (zero_of_info hz).2
    cases hq : P.info? e with
    | none => simp [hq] at this
    | some i =>
      have hi : i.size = n := by simpa [hq] using this
      simp [sizeOf, typeInfo, hq, hi]
  have hf : Instr.fill (fun i => some (i * n, n)) ((Array.range (1 * n)).map (z.cells[· % z.cells.size]!)) [(0, v)] = some v.cells := by
    rw [fill_step _ _ 0 0 v _ (by simp [hv]) (by simp [hv])]
    simp only [Instr.fill, Option.some.injEq]
    apply Array.ext'
    simp only [List.toList_toArray]
    unfold ins
    simp [hv]
  unfold Instr.buildSlice
  rw [Sem.run_bind, run_underlying hu, Result.andThen_ok]
  simp only
  rw [Sem.run_bind, hs, Result.andThen_ok, if_neg (by omega), if_neg (by omega), Sem.run_bind, h0, Result.andThen_ok, Sem.run_bind, Sem.run_pure, Result.andThen_ok]
  simp only [hf]
  rfl
theorem wpList_buildSlice_blk (hgd : op.guard = none) (t : TypeId) (x : Operand) (ho : op.op = .buildSlice t 1 #[(0, x)]) {e : TypeId} {z : Value} {n : Nat} (hu : P.underlying t = some (.slice e)) (hz : (P.info? e).map (fun i => (i.zero, i.size)) = some (some z, n)) (hzs : z.cells.size = n) (hn : 0 < n) (hn2 : n ≤ 16777216)
    (cs : List Value) (hx : a.eval x = .agg cs.toArray) (hl : cs.length = n)
    (h : ∀ w', Blk w' w.heap.size e cs → Below w.heap.size w w' → w'.heap.size = w.heap.size + 1 → wpList P ops Q rest (a.put op.dst (.slice (some ⟨w.heap.size, 0, none⟩) 1 1)) w') : wpList P ops Q (op :: rest) a w :=
  wpList_plain hgd fun K hK => by
    have hrun := run_buildSlice_one hu hz hzs hn hn2 (.agg cs.toArray) (by simpa [Value.cells] using hl) w
    unfold Oper.wp execOp
    simp only [ho, List.map_toArray, List.map_cons, List.map_nil, hx, Sem.run_bind, hrun, Result.andThen_ok]
    exact hK _ _ (h _ (by simpa [Value.cells] using Blk.new w e cs) ((Below.refl _ _).alloc (Nat.le_refl _) _) (by simp))
end
theorem own_none {w : World} {base n c : Nat} {e : TypeId} {size : Nat} {A : Option Addr} {xs : List Value} (h : w.ownsRow base e size (.slice A n c) n xs) (hA : A = none) : n = 0 := by
  subst hA
  rcases h.2 with ⟨_, h0⟩ | ⟨g, cap, cur, hv, _⟩
  · exact h0
  · cases hv
theorem own_holds {w : World} {base n c : Nat} {e : TypeId} {size : Nat} {A : Option Addr} {xs : List Value} (h : w.ownsRow base e size (.slice A n c) n xs) : ∀ b, A = some b → ∀ j u, xs[j]? = some u → w.cell? (b.add j) = some u := by
  intro b hA j u hu
  subst hA
  have hc := h.cells (g := b.block) rfl j u hu
  rcases h.2 with ⟨hv, _⟩ | ⟨g, cap, cur, hv, _⟩
  · cases hv
  · injection hv with hv _ _
    injection hv with hv
    subst hv
    exact hc
theorem Keeps.of_grown {w w' : World} {row : Option Nat} (h : w.grownBy w' row) : Keeps w w' (fun k => row = some k) := ⟨h.os, h.tape, h.output, h.size, fun k hk hn => h.block k hk fun e => hn e.symm⟩
theorem ins_all (l m : List Value) (h : m.length = l.length) : ins l 0 m = m := by
  unfold ins
  rw [List.take_zero, List.nil_append, Nat.zero_add, h, List.drop_length, List.append_nil]
end Go.Proofs.YtepgmebklhemgaaGreatDoor.Wd
/- Words: bytes appended, whatever slice they come from, onto a row of the call's own. No program is in sight. -/
set_option linter.unusedVariables false
set_option linter.unusedSimpArgs false
namespace Go.Proofs.YtepgmebklhemgaaGreatDoor
open Go.RowKit Wd
section
variable {P : Program} {ops : Array Oper} {rest : List Oper} {o : Oper} {a : Act} {w : World} {Q : Exit → Act → World → Prop}
theorem wpList_append_rb (hgd : o.guard = none) (s x : Operand) (t e : TypeId) (ho : o.op = .call { callee := .builtin .append, args := #[s, x], argTypes := #[t, t] }) (i5 : (P.info? e).map (fun i => (i.zero, i.size, i.bytes)) = some (some (.int .u8 0), 1, 1)) (ht : P.underlying t = some (.slice e))
    (base : Nat) (v : Value) (n : Nat) (xs : List Value) (hs : a.eval s = v) (hown : w.ownsRow base e 1 v n xs) (A : Option Addr) (m c : Nat) (l : List UInt8) (hx : a.eval x = .slice A m c) (hm : m = l.length) (hA : A = none → c = 0) (hr : RB w A l)
    (hb : n + m ≤ 140737488355328) (hbase : base ≤ w.heap.size)
    (h : ∀ v' w', w'.ownsRow base e 1 v' (n + m) (xs ++ bv l) → w.grownBy w' v.ownBlock → (v'.ownBlock = v.ownBlock ∨ v'.ownBlock = some w.heap.size) → wpList P ops Q rest (a.put o.dst v') w') : wpList P ops Q (o :: rest) a w := by
  obtain ⟨i0, hi, hz0, hz1, hz2⟩ := info_parts i5
  have hmax : n + m ≤ maxLen := by unfold maxLen; omega
  have some_ : ∀ ad : Addr, A = some ad → (∀ j u, (bv l)[j]? = some u → w.cell? (ad.add j) = some u) → wpList P ops Q (o :: rest) a w := fun ad hA2 hc => by
    subst hA2
    exact wpList_append_own_at (w := w) (hgd := hgd) (s := s) (x := x) (t := t) (ho := ho) base e i0 (.int .u8 0) 1 1 ht hi hz0 hz1 hz2 rfl (by decide) v n xs hs hown ad m c (bv l) hx (by rw [bv_length, hm, Nat.mul_one]) hc (bv_one l) hmax (by omega) hbase
      fun v' w' h1 h2 _ h4 => h v' w' h1 h2 h4
  by_cases hl : l = []
  · subst hl
    cases A with
    | some ad => exact some_ ad rfl fun j u hu => by simp [bv] at hu
    | none =>
      obtain rfl := hA rfl
      have hm0 : m = 0 := hm
      subst hm0
      refine wpList_plain hgd fun K hK => ?_
      have hr := run_append_owned_none (P := P) (w := w) base t o.type e i0 1 ht hi v n xs hown
      unfold Oper.wp execOp
      simp only [ho, resolve, invoke, builtin, Sem.run_bind, Sem.run_pure, Result.andThen_ok, List.map_toArray, List.map_cons, List.map_nil, hs, hx, hr]
      refine hK _ _ (h v w ?_ (World.grownBy.refl _ _) (.inl rfl))
      simpa [bv] using hown
  · obtain ⟨b, off, rfl, _, hrg⟩ := hr hl
    exact some_ _ rfl (fun j u hu => by rw [Addr.add_mid]; exact hrg j u hu)
end
theorem own_rangeA {w : World} {base n c : Nat} {e : TypeId} {size : Nat} {A : Option Addr} {xs : List Value} (h : w.ownsRow base e size (.slice A n c) n xs) (hn : 0 < n) : ∃ g, A = some ⟨g, 0, none⟩ ∧ w.rangeAt g 0 xs := by
  obtain ⟨g, cap, hv, _, _⟩ := h.form hn
  injection hv with hv _ _
  subst hv
  exact ⟨g, rfl, fun j v hj => by have := own_holds h _ rfl j v hj; rwa [Addr.add_mid] at this⟩
theorem range_partA {w : World} {b : Nat} {xs : List Value} (h : w.rangeAt b 0 xs) (o n : Nat) (m : List Value) (hm : (xs.drop o).take n = m) : w.rangeAt b o m := by
  intro j v hj
  subst hm
  rw [List.getElem?_take] at hj
  split at hj
  · rw [List.getElem?_drop] at hj
    have := h _ v hj
    rwa [Nat.zero_add] at this
  · cases hj
end Go.Proofs.YtepgmebklhemgaaGreatDoor
/- Memory as ONE fact: 'St w0 w M L': below the old heap's end w is as w0 was; what M tells of blocks is so and stays so (old memory, and what was laid and is never written again); each entry of L holds; no two share a block, nor one of M's. No program is in sight. -/
set_option linter.unusedVariables false
set_option linter.unusedSimpArgs false
namespace Go.Proofs.YtepgmebklhemgaaGreatDoor.Wd
open Go.RowKit

/-- Memory that is never written: what some blocks hold. -/
abbrev Mem := Nat → Option Obj
def Mem.le (M M' : Mem) : Prop := ∀ g o, M g = some o → M' g = some o
theorem Mem.le.refl (M : Mem) : M.le M := fun _ _ h => h
theorem Mem.le.trans {M M' M'' : Mem} (h : M.le M') (k : M'.le M'') : M.le M'' := fun g o hg => k g o (h g o hg)
def Agr (M : Mem) (w : World) : Prop := ∀ g o, M g = some o → w.heap[g]? = some o
theorem Agr.le {M M' : Mem} {w : World} (h : Agr M' w) (hm : M.le M') : Agr M w := fun g o hg => h g o (hm g o hg)
/-- What is said of one block (or, where there is none, of no memory at all). -/
structure Ent where
  foot : Option Nat
  prop : Option Obj → Prop
def Ent.holds (e : Ent) (M : Mem) (w : World) : Prop :=
  match e.foot with
  | none => e.prop none
  | some g => M g = none ∧ g < w.heap.size ∧ e.prop w.heap[g]?
def Ent.off (a b : Ent) : Prop := ∀ g, a.foot = some g → b.foot ≠ some g
theorem Ent.off.symm {a b : Ent} (h : a.off b) : b.off a := fun g hb ha => h g ha hb
structure St (w0 w : World) (M : Mem) (L : List Ent) : Prop where
  below : Below w0.heap.size w0 w
  old : ∀ g, g < w0.heap.size → M g = w0.heap[g]?
  agr : Agr M w
  holds : ∀ e ∈ L, e.holds M w
  apart : L.Pairwise Ent.off

/-- Block g is just these cells. -/
def eb (g : Nat) (t : TypeId) (cs : List Value) : Ent := ⟨some g, fun o => o = some (.cells cs.toArray t (0, 0))⟩
def RowP (e : TypeId) (size : Nat) (v : Value) (n : Nat) (xs : List Value) (o : Option Obj) : Prop :=
  xs.length = n * size ∧ ((v = .slice none 0 0 ∧ n = 0) ∨ ∃ g cap cur, v = .slice (some ⟨g, 0, none⟩) n cap ∧ o = some (.cells cur e (0, 0)) ∧ n ≤ cap ∧ cap ≤ maxLen ∧ cur.size = cap * size ∧ cur.toList.take (n * size) = xs)
/-- The slice v owns the cells xs. -/
def er (e : TypeId) (size : Nat) (v : Value) (n : Nat) (xs : List Value) : Ent := ⟨v.ownBlock, RowP e size v n xs⟩

section
variable {w0 w w' : World} {M M' : Mem} {L L' F : List Ent} {a b c d : Ent} {g : Nat} {t e : TypeId} {sz n : Nat} {v : Value} {cs xs : List Value}
theorem RowP.own {B : Nat} (h : RowP e sz v n xs (v.ownBlock.bind (w.heap[·]?))) (hb : ∀ g, v.ownBlock = some g → B ≤ g) : w.ownsRow B e sz v n xs := by
  obtain ⟨h1, h2⟩ := h
  refine ⟨h1, ?_⟩
  rcases h2 with h2 | ⟨g, cap, cur, rfl, h3⟩
  · exact .inl h2
  · exact .inr ⟨g, cap, cur, rfl, hb g rfl, h3⟩
theorem RowP.of_own {B : Nat} (h : w.ownsRow B e sz v n xs) : RowP e sz v n xs (v.ownBlock.bind (w.heap[·]?)) := by
  obtain ⟨h1, h2⟩ := h
  refine ⟨h1, ?_⟩
  rcases h2 with h2 | ⟨g, cap, cur, rfl, _, h3⟩
  · exact .inl h2
  · exact .inr ⟨g, cap, cur, rfl, h3⟩
theorem Ent.holds_lt (h : a.holds M w) (hf : a.foot = some g) : M g = none ∧ g < w.heap.size := by
  unfold Ent.holds at h
  rw [hf] at h
  exact ⟨h.1, h.2.1⟩
theorem eb_holds : (eb g t cs).holds M w ↔ M g = none ∧ Blk w g t cs :=
  ⟨fun h => ⟨h.1, h.2.2⟩, fun h => ⟨h.1, Blk.lt h.2, h.2⟩⟩
theorem er_bind (h : (er e sz v n xs).holds M w) : RowP e sz v n xs (v.ownBlock.bind (w.heap[·]?)) := by
  unfold Ent.holds er at h
  simp only at h
  split at h
  · rename_i hv; rw [hv]; exact h
  · rename_i hv; rw [hv]; exact h.2.2
theorem er_mk {B : Nat} (h : w.ownsRow B e sz v n xs) (hm : ∀ g, v.ownBlock = some g → M g = none) : (er e sz v n xs).holds M w := by
  have h1 := RowP.of_own h
  unfold Ent.holds er
  simp only
  split
  · rename_i hv; rw [hv] at h1; exact h1
  · rename_i g hv; rw [hv] at h1; exact ⟨hm g hv, (h.lt g hv).2, h1⟩
theorem Ent.holds_same (h : a.holds M w) (hs : w.heap.size ≤ w'.heap.size) (hb : ∀ g, a.foot = some g → w'.heap[g]? = w.heap[g]?) : a.holds M w' := by
  unfold Ent.holds at h ⊢
  cases hf : a.foot with
  | none => rw [hf] at h; exact h
  | some g => rw [hf] at h; exact ⟨h.1, Nat.lt_of_lt_of_le h.2.1 hs, (hb g hf).symm ▸ h.2.2⟩
theorem Ent.holds_mem (h : a.holds M w) (hm : ∀ g, a.foot = some g → M' g = none) : a.holds M' w := by
  unfold Ent.holds at h ⊢
  cases hf : a.foot with
  | none => rw [hf] at h; exact h
  | some g => rw [hf] at h; exact ⟨hm g hf, h.2⟩

theorem St.base (h : St w0 w M L) (hm : M g = none) (hl : g < w.heap.size) : w0.heap.size ≤ g := by
  rcases Nat.lt_or_ge g w0.heap.size with h1 | h1
  · rw [h.old g h1, Array.getElem?_eq_getElem h1] at hm; cases hm
  · exact h1
theorem St.size (h : St w0 w M L) : w0.heap.size ≤ w.heap.size := h.below.size
theorem St.start (w0 : World) : St w0 w0 (w0.heap[·]?) [] := ⟨Below.refl _ _, fun _ _ => rfl, fun _ _ h => h, fun _ h => absurd h (by simp), List.Pairwise.nil⟩
theorem St.drew (h : St w0 w M L) : St w0 w.drew M L := ⟨h.below.drew, h.old, h.agr, fun e he => Ent.holds_same (h.holds e he) (Nat.le_refl _) fun _ _ => rfl, h.apart⟩
theorem St.drewN (h : St w0 w M L) (n : Nat) : St w0 (w.drewN n) M L := ⟨below_drewN h.below n, h.old, h.agr, fun e he => Ent.holds_same (h.holds e he) (Nat.le_refl _) fun _ _ => rfl, h.apart⟩
theorem St.perm (h : St w0 w M L) (hp : L.Perm L') : St w0 w M L' := ⟨h.below, h.old, h.agr, fun e he => h.holds e (hp.mem_iff.2 he), hp.pairwise h.apart Ent.off.symm⟩
theorem St.sub (h : St w0 w M L) (hs : L'.Sublist L) : St w0 w M L' := ⟨h.below, h.old, h.agr, fun e he => h.holds e (hs.subset he), h.apart.sublist hs⟩
theorem St.f1 (h : St w0 w M (a :: b :: L)) : St w0 w M (b :: a :: L) := h.perm (List.Perm.swap _ _ _)
theorem St.f2 (h : St w0 w M (a :: b :: c :: L)) : St w0 w M (c :: a :: b :: L) := h.perm ((List.Perm.cons a (List.Perm.swap _ _ _)).trans (List.Perm.swap _ _ _))
theorem St.f3 (h : St w0 w M (a :: b :: c :: d :: L)) : St w0 w M (d :: a :: b :: c :: L) := h.perm ((List.Perm.cons a ((List.Perm.cons b (List.Perm.swap _ _ _)).trans (List.Perm.swap _ _ _))).trans (List.Perm.swap _ _ _))
theorem St.f4 {x : Ent} (h : St w0 w M (a :: b :: c :: d :: x :: L)) : St w0 w M (x :: a :: b :: c :: d :: L) :=
  h.perm ((List.Perm.cons a ((List.Perm.cons b ((List.Perm.cons c (List.Perm.swap _ _ _)).trans (List.Perm.swap _ _ _))).trans (List.Perm.swap _ _ _))).trans (List.Perm.swap _ _ _))
theorem St.f5 {x y : Ent} (h : St w0 w M (a :: b :: c :: d :: x :: y :: L)) : St w0 w M (y :: a :: b :: c :: d :: x :: L) := by
  have h1 : (b :: c :: d :: x :: y :: L).Perm (y :: b :: c :: d :: x :: L) := (List.Perm.cons b ((List.Perm.cons c ((List.Perm.cons d (List.Perm.swap _ _ _)).trans (List.Perm.swap _ _ _))).trans (List.Perm.swap _ _ _))).trans (List.Perm.swap _ _ _)
  exact h.perm ((List.Perm.cons a h1).trans (List.Perm.swap _ _ _))
/-- The first entry back behind 2, 3 others. -/
theorem St.b2 (h : St w0 w M (c :: a :: b :: L)) : St w0 w M (a :: b :: c :: L) := h.perm ((List.Perm.swap _ _ _).trans (List.Perm.cons a (List.Perm.swap _ _ _)))
theorem St.b3 (h : St w0 w M (d :: a :: b :: c :: L)) : St w0 w M (a :: b :: c :: d :: L) := h.perm ((List.Perm.swap _ _ _).trans (List.Perm.cons a ((List.Perm.swap _ _ _).trans (List.Perm.cons b (List.Perm.swap _ _ _)))))
theorem St.d0 (h : St w0 w M (a :: L)) : St w0 w M L := h.sub (List.sublist_cons_self _ _)
theorem St.d1 (h : St w0 w M (a :: b :: L)) : St w0 w M (a :: L) := h.f1.d0
theorem St.get (h : St w0 w M L) (i : Nat) (hi : L[i]? = some a) : a.holds M w := h.holds a (List.mem_of_getElem? hi)
theorem St.blk (h : St w0 w M L) (i : Nat) (hi : L[i]? = some (eb g t cs)) : Blk w g t cs := (eb_holds.1 (h.get i hi)).2
theorem St.blkm (h : St w0 w M L) (hi : eb g t cs ∈ L) : Blk w g t cs := (eb_holds.1 (h.holds _ hi)).2
theorem St.ownOf (h : St w0 w M L) (hi : (er e sz v n xs).holds M w) : w.ownsRow w0.heap.size e sz v n xs :=
  RowP.own (er_bind hi) fun g hg => by
    have h1 := Ent.holds_lt hi (g := g) hg
    exact h.base h1.1 h1.2
theorem St.own (h : St w0 w M L) (i : Nat) (hi : L[i]? = some (er e sz v n xs)) : w.ownsRow w0.heap.size e sz v n xs := h.ownOf (h.get i hi)
theorem St.ownm (h : St w0 w M L) (hi : er e sz v n xs ∈ L) : w.ownsRow w0.heap.size e sz v n xs := h.ownOf (h.holds _ hi)
theorem St.cell (h : St w0 w M L) (i : Nat) (hi : L[i]? = some (eb g t cs)) (o : Nat) : w.cell? ⟨g, o, none⟩ = cs[o]? := (h.blk i hi).cell o
theorem St.frozen (h : St w0 w M L) (i : Nat) (hi : L[i]? = some (eb g t cs)) (o : Nat) : w.frozen? ⟨g, o, none⟩ = false := (h.blk i hi).frozen o
theorem St.shape (h : St w0 w M L) (i : Nat) (hi : L[i]? = some (er e sz v n xs)) : ∃ A c, v = .slice A n c ∧ n ≤ c := own_slice (h.own i hi)
theorem St.shape' (h : St w0 w M L) (i : Nat) (hi : L[i]? = some (er e sz v n xs)) : ∃ A c, v = .slice A n c ∧ n ≤ c ∧ (A = none → c = 0) := by
  have ho := h.own i hi
  rcases ho.2 with ⟨rfl, rfl⟩ | ⟨g, cap, cur, rfl, _, _, hc, _⟩
  · exact ⟨_, _, rfl, Nat.le_refl _, fun _ => rfl⟩
  · exact ⟨_, _, rfl, hc, fun h => by cases h⟩
theorem St.len (h : St w0 w M L) (i : Nat) (hi : L[i]? = some (er e sz v n xs)) : xs.length = n * sz := (h.own i hi).1
theorem St.lt (h : St w0 w M L) (i : Nat) (hi : L[i]? = some (eb g t cs)) : g < w.heap.size := (h.blk i hi).lt
theorem agr_lt (h : Agr M w) {o : Obj} (hm : M g = some o) : g < w.heap.size := (Array.getElem?_eq_some_iff.1 (h g o hm)).1

theorem St.ne_ {g' : Nat} {t' : TypeId} {cs' : List Value} (h : St w0 w M L) (i j : Nat) (hi : L[i]? = some (eb g t cs)) (hj : L[j]? = some (eb g' t' cs')) (hij : i < j) : g ≠ g' := by
  rintro rfl
  obtain ⟨hi1, hi2⟩ := List.getElem?_eq_some_iff.1 hi
  obtain ⟨hj1, hj2⟩ := List.getElem?_eq_some_iff.1 hj
  have h1 := List.pairwise_iff_getElem.1 h.apart i j hi1 hj1 hij
  rw [hi2, hj2] at h1
  exact h1 g rfl rfl
/-- A step that turns none of L's blocks, nor M's. -/
theorem St.keep (h : St w0 w M L) {S : Nat → Prop} (k : Keeps w w' S) (hn : ∀ e ∈ L, ∀ g, e.foot = some g → ¬ S g) (h0 : ∀ g, S g → M g = none) : St w0 w' M L :=
  ⟨(Below.trans h.below ⟨k.os, k.tape, k.output, k.size, fun i hi => k.block i (Nat.lt_of_lt_of_le hi h.size) fun hs => by
      have h1 := h0 i hs; rw [h.old i hi, Array.getElem?_eq_getElem hi] at h1; cases h1⟩), h.old,
   fun g o hg => (k.block g (agr_lt h.agr hg) fun hs => by have h1 := h0 g hs; rw [hg] at h1; cases h1).trans (h.agr g o hg),
   fun e he => Ent.holds_same (h.holds e he) k.size fun g hg => k.block g (Ent.holds_lt (h.holds e he) hg).2 (hn e he g hg), h.apart⟩
theorem St.belowK (h : St w0 w M L) (k : Below w.heap.size w w') : St w0 w' M L := h.keep (Keeps.of_below k fun _ => False) (fun _ _ _ _ hf => hf) (fun _ hf => hf.elim)
theorem St.fresh (h : St w0 w M L) (hg : w.heap.size ≤ g) : M g = none := by
  cases hm : M g with
  | none => rfl
  | some o => have := agr_lt h.agr hm; omega
/-- A new entry, of what lay beyond all. -/
theorem St.add (h : St w0 w M L) (k : Below w.heap.size w w') (ha : a.holds M w') (hf : ∀ g, a.foot = some g → w.heap.size ≤ g) : St w0 w' M (a :: L) := by
  have h' := h.belowK k
  refine ⟨h'.below, h'.old, h'.agr, ?_, List.Pairwise.cons ?_ h.apart⟩
  · intro e he
    rcases List.mem_cons.1 he with rfl | he
    · exact ha
    · exact h'.holds e he
  · intro e he g hg hg'
    have h1 := hf g hg
    have h2 := (Ent.holds_lt (h.holds e he) hg').2
    omega
theorem St.addRow (h : St w0 w M L) (k : Below w.heap.size w w') (ha : w'.ownsRow w.heap.size e sz v n xs) : St w0 w' M (er e sz v n xs :: L) :=
  h.add k (er_mk ha fun g hg => h.fresh (ha.lt g hg).1) fun g hg => (ha.lt g hg).1
theorem St.addBlk (h : St w0 w M L) (k : Below w.heap.size w w') (ha : Blk w' g t cs) (hg : w.heap.size ≤ g) : St w0 w' M (eb g t cs :: L) :=
  h.add k (eb_holds.2 ⟨h.fresh hg, ha⟩) fun g' hg' => by have : some g = some g' := hg'; injection this with this; omega
theorem St.addNil (h : St w0 w M L) (e : TypeId) (sz : Nat) : St w0 w M (er e sz (.slice none 0 0) 0 [] :: L) := h.addRow (Below.refl _ _) (World.ownsRow_nil _ _ _ _)
theorem St.alloc (h : St w0 w M L) (o : Obj) : St w0 (w.alloc o) M L := h.belowK ((Below.refl _ _).alloc (Nat.le_refl _) o)
theorem St.new (h : St w0 w M L) (cs : List Value) (t : TypeId) : St w0 (w.alloc (.cells cs.toArray t)) M (eb w.heap.size t cs :: L) := h.addBlk ((Below.refl _ _).alloc (Nat.le_refl _) _) (Blk.new w t cs) (Nat.le_refl _)
theorem St.newg (h : St w0 w M L) (cs : List Value) (t : TypeId) {g : Nat} (hg : g = w.heap.size) : St w0 (w.alloc (.cells cs.toArray t)) M (eb g t cs :: L) := by subst hg; exact h.new cs t
theorem St.lit (h : St w0 w M L) (cs : List Value) (t : TypeId) (hm : cs.length ≤ maxLen) : St w0 (w.alloc (.cells cs.toArray t)) M (er t 1 (.slice (some ⟨w.heap.size, 0, none⟩) cs.length cs.length) cs.length cs :: L) := by
  have h1 := World.ownsRow_lit (base := w.heap.size) (e := t) (size := 1) w cs.toArray cs.length (Nat.le_refl _) hm (by simp)
  exact h.addRow ((Below.refl _ _).alloc (Nat.le_refl _) _) (by simpa using h1)
theorem St.lit00 (h : St w0 w M L) (t : TypeId) (sz : Nat) : St w0 (w.alloc (.cells #[] t)) M (er t sz (.slice (some ⟨w.heap.size, 0, none⟩) 0 0) 0 [] :: L) := by
  have h1 := World.ownsRow_lit (base := w.heap.size) (e := t) (size := sz) w #[] 0 (Nat.le_refl _) (Nat.zero_le _) (by simp)
  exact h.addRow ((Below.refl _ _).alloc (Nat.le_refl _) _) (by simpa using h1)
theorem St.lit0 (h : St w0 w M L) (t : TypeId) : St w0 (w.alloc (.cells #[] t)) M (er t 1 (.slice (some ⟨w.heap.size, 0, none⟩) 0 0) 0 [] :: L) := h.lit [] t (Nat.zero_le _)
/-- The first entry turns; no other block. -/
theorem St.turn (h : St w0 w M (a :: L)) (k : Keeps w w' (fun k => a.foot = some k)) (hb : b.holds M w') (hf : ∀ g, b.foot = some g → a.foot = some g ∨ w.heap.size ≤ g) : St w0 w' M (b :: L) := by
  have hL := List.pairwise_cons.1 h.apart
  have h' := h.d0.keep k (fun e he g hg hg' => hL.1 e he g hg' hg) (fun g hg => (Ent.holds_lt (h.holds a (by simp)) hg).1)
  refine ⟨h'.below, h'.old, h'.agr, ?_, List.Pairwise.cons ?_ hL.2⟩
  · intro e he
    rcases List.mem_cons.1 he with rfl | he
    · exact hb
    · exact h'.holds e he
  · intro e he g hg hg'
    rcases hf g hg with h1 | h1
    · exact hL.1 e he g h1 hg'
    · have h2 := (Ent.holds_lt (h.holds e (List.mem_cons_of_mem _ he)) hg').2
      omega
theorem St.set (h : St w0 w M (eb g t cs :: L)) (i : Nat) (u : Value) : St w0 (w.setCell ⟨g, i, none⟩ u) M (eb g t (cs.set i u) :: L) :=
  h.turn ((Keeps.refl w (fun k => (eb g t cs).foot = some k)).setCell (p := ⟨g, i, none⟩) (.inl rfl) u) (eb_holds.2 ⟨(eb_holds.1 (h.get 0 rfl)).1, (h.blk 0 rfl).set_ i u⟩) (fun _ h => .inl h)
theorem St.turnBlk (h : St w0 w M (eb g t cs :: L)) {cs' : List Value} (k : Keeps w w' (· = g)) (hb : Blk w' g t cs') : St w0 w' M (eb g t cs' :: L) :=
  h.turn (k.imp fun j _ hj => by subst hj; rfl) (eb_holds.2 ⟨(eb_holds.1 (h.get 0 rfl)).1, hb⟩) (fun _ h => .inl h)
theorem St.turnRow {n' : Nat} {v' : Value} {xs' : List Value} (h : St w0 w M (er e sz v n xs :: L)) (hg : w.grownBy w' v.ownBlock) (hv : v'.ownBlock = v.ownBlock ∨ v'.ownBlock = some w.heap.size) (ho : w'.ownsRow w0.heap.size e sz v' n' xs') : St w0 w' M (er e sz v' n' xs' :: L) := by
  have hcase : ∀ g, v'.ownBlock = some g → v.ownBlock = some g ∨ w.heap.size ≤ g := fun g hg' => by
    rcases hv with h1 | h1
    · exact .inl (h1.symm.trans hg')
    · rw [h1] at hg'
      injection hg' with hg'
      exact .inr (by omega)
  refine h.turn ⟨hg.os, hg.tape, hg.output, hg.size, fun k hk hn => hg.block k hk fun he => hn he.symm⟩ (er_mk ho fun g hg' => ?_) hcase
  rcases hcase g hg' with h1 | h1
  · exact (Ent.holds_lt (h.get 0 rfl) h1).1
  · exact h.fresh h1
/-- A store into an owned row. -/
theorem St.store {cap : Nat} (h : St w0 w M (er e 1 (.slice (some ⟨g, 0, none⟩) n cap) n xs :: L)) (i : Nat) (u : Value) : St w0 (w.setCell ⟨g, i, none⟩ u) M (er e 1 (.slice (some ⟨g, 0, none⟩) n cap) n (xs.set i u) :: L) := by
  have h1 := (h.own 0 rfl).stored i u
  exact h.turnRow h1.2 (.inl rfl) h1.1

/-! ### What is never written again -/
/-- Whatever world agrees with M: P holds in it. -/
def In (M : Mem) (P : World → Prop) : Prop := ∀ W, Agr M W → P W
theorem In.le {P : World → Prop} (h : In M P) (hm : M.le M') : In M' P := fun W hW => h W (hW.le hm)
theorem In.now {P : World → Prop} (h : In M P) (H : St w0 w M L) : P w := h w H.agr
theorem In.imp {P Q : World → Prop} (h : In M P) (hi : ∀ W, P W → Q W) : In M Q := fun W hW => hi W (h W hW)
theorem In.oldBlk (H : St w0 w M L) (hb : Blk w0 g t cs) : In M fun W => Blk W g t cs := fun W hW => hW g _ ((H.old g hb.lt).trans hb)
theorem In.oldRB (H : St w0 w M L) {A : Option Addr} {l : List UInt8} (hb : RB w0 A l) : In M fun W => RB W A l := fun W hW hl => by
  obtain ⟨b, o, rfl, hlt, hr⟩ := hb hl
  have he : W.heap[b]? = w0.heap[b]? := by
    have h1 := H.old b hlt
    rw [Array.getElem?_eq_getElem hlt] at h1 ⊢
    exact hW b _ h1
  refine ⟨b, o, rfl, ?_, fun j v hj => (World.cell?_of_block (w := w0) he).trans (hr j v hj)⟩
  rw [Array.getElem?_eq_getElem hlt] at he
  exact (Array.getElem?_eq_some_iff.1 he).1
theorem In.oldCell (H : St w0 w M L) {p : Addr} {v : Value} (hc : w0.cell? p = some v) : In M fun W => W.cell? p = some v := fun W hW => by
  have hlt := World.block_lt_of_cell? w0 p hc
  have he : W.heap[p.block]? = w0.heap[p.block]? := by
    have h1 := H.old p.block hlt
    rw [Array.getElem?_eq_getElem hlt] at h1 ⊢
    exact hW p.block _ h1
  exact (World.cell?_of_block (w := w0) he).trans hc
/-- M and, of block g, what w holds there. -/
def Mem.with (M : Mem) (g : Nat) (w : World) : Mem := fun i => if i = g then w.heap[g]? else M i
theorem St.with_ (h : St w0 w M L) (hg : M g = none) (hl : g < w.heap.size) (hn : ∀ e ∈ L, e.foot ≠ some g) : St w0 w (M.with g w) L ∧ M.le (M.with g w) := by
  refine ⟨⟨h.below, fun i hi => ?_, fun i o hi => ?_, fun e he => Ent.holds_mem (h.holds e he) fun i hi => ?_, h.apart⟩, fun i o hi => ?_⟩
  · unfold Mem.with
    split
    · rename_i hig; subst hig; rw [← h.old i hi, hg] ; have h1 := h.old i hi; rw [hg, Array.getElem?_eq_getElem hi] at h1; cases h1
    · exact h.old i hi
  · unfold Mem.with at hi
    split at hi
    · rename_i hig; subst hig; exact hi
    · exact h.agr i o hi
  · unfold Mem.with
    split
    · rename_i hig; subst hig; exact absurd hi (hn e he)
    · exact (Ent.holds_lt (h.holds e he) hi).1
  · unfold Mem.with
    split
    · rename_i hig; subst hig; rw [hg] at hi; cases hi
    · exact hi
/-- Lent: the first entry is never written while it is part of M; it comes back as it was. -/
theorem St.lend (h : St w0 w M (a :: L)) : ∃ M', M.le M' ∧ St w0 w M' L ∧ (In M' fun W => a.holds (fun _ => none) W) ∧ ∀ w' L', St w0 w' M' L' → St w0 w' M (a :: L') := by
  have ha := h.get 0 rfl
  have hL := List.pairwise_cons.1 h.apart
  cases hf : a.foot with
  | none =>
    have h0 : a.prop none := by unfold Ent.holds at ha; rw [hf] at ha; exact ha
    refine ⟨M, Mem.le.refl _, h.d0, fun W _ => ?_, fun w' L' h' => ⟨h'.below, h'.old, h'.agr, ?_, List.Pairwise.cons (fun e he g hg => ?_) h'.apart⟩⟩
    · unfold Ent.holds; rw [hf]; exact h0
    · intro e he
      rcases List.mem_cons.1 he with rfl | he
      · unfold Ent.holds; rw [hf]; exact h0
      · exact h'.holds e he
    · rw [hf] at hg; cases hg
  | some g =>
    have h1 : M g = none ∧ g < w.heap.size ∧ a.prop w.heap[g]? := by unfold Ent.holds at ha; rw [hf] at ha; exact ha
    have hw := h.d0.with_ (g := g) h1.1 h1.2.1 fun e he => hL.1 e he g hf
    have hMg : M.with g w g = some w.heap[g] := by unfold Mem.with; rw [if_pos rfl, Array.getElem?_eq_getElem h1.2.1]
    have hsame : ∀ W, Agr (M.with g w) W → W.heap[g]? = w.heap[g]? := fun W hW => by rw [hW g _ hMg, Array.getElem?_eq_getElem h1.2.1]
    have hMM : ∀ i, i ≠ g → M.with g w i = M i := fun i hi => by unfold Mem.with; rw [if_neg hi]
    refine ⟨M.with g w, hw.2, hw.1, fun W hW => ?_, fun w' L' h' => ⟨h'.below, fun i hi => ?_, h'.agr.le hw.2, ?_, List.Pairwise.cons (fun e he i hi hi' => ?_) h'.apart⟩⟩
    · unfold Ent.holds
      rw [hf]
      exact ⟨rfl, agr_lt hW hMg, (hsame W hW).symm ▸ h1.2.2⟩
    · exact h.old i hi
    · intro e he
      rcases List.mem_cons.1 he with rfl | he
      · unfold Ent.holds
        rw [hf]
        exact ⟨h1.1, agr_lt h'.agr hMg, (hsame w' h'.agr).symm ▸ h1.2.2⟩
      · refine Ent.holds_mem (h'.holds e he) fun i hi => ?_
        have h2 := (Ent.holds_lt (h'.holds e he) hi).1
        cases hm : M i with
        | none => rfl
        | some o => have := hw.2 i o hm; rw [h2] at this; cases this
    · rw [hf] at hi
      injection hi with hi
      subst hi
      have h2 := (Ent.holds_lt (h'.holds e he) hi').1
      rw [hMg] at h2
      cases h2
/-- A row that is never written again. -/
theorem er_RB {A : Option Addr} {c : Nat} {l : List UInt8} (h : (er e 1 (.slice A n c) n (bv l)).holds M w) : RB w A l := by
  have ho : w.ownsRow 0 e 1 (.slice A n c) n (bv l) := RowP.own (er_bind h) fun _ _ => Nat.zero_le _
  intro hl
  obtain ⟨g', rfl, hr⟩ := own_rangeA ho (by have h2 := ho.1; rw [bv_length] at h2; cases l with | nil => exact absurd rfl hl | cons _ _ => simp at h2; omega)
  exact ⟨g', 0, rfl, (ho.lt g' rfl).2, hr⟩
theorem St.lendRow {A : Option Addr} {c : Nat} {l : List UInt8} (h : St w0 w M (er e 1 (.slice A n c) n (bv l) :: L)) : ∃ M', M.le M' ∧ St w0 w M' L ∧ (In M' fun W => RB W A l) ∧ ∀ w' L', St w0 w' M' L' → St w0 w' M (er e 1 (.slice A n c) n (bv l) :: L') := by
  obtain ⟨M', h1, h2, h3, h4⟩ := h.lend
  exact ⟨M', h1, h2, h3.imp fun W hW => er_RB hW, h4⟩
theorem St.lendBlk (h : St w0 w M (eb g t cs :: L)) : ∃ M', M.le M' ∧ St w0 w M' L ∧ (In M' fun W => Blk W g t cs) ∧ ∀ w' L', St w0 w' M' L' → St w0 w' M (eb g t cs :: L') := by
  obtain ⟨M', h1, h2, h3, h4⟩ := h.lend
  exact ⟨M', h1, h2, h3.imp fun W hW => (eb_holds.1 hW).2, h4⟩
theorem Blk.RB {l : List UInt8} {o : Nat} (hb : Blk w g t cs) (hr : (cs.drop o).take l.length = bv l) : RB w (some ⟨g, o, none⟩) l := fun _ => ⟨g, o, rfl, hb.lt, hb.range o l.length _ hr⟩
theorem RB.sub {b o k m : Nat} {l : List UInt8} (h : RB w (some ⟨b, o, none⟩) l) : RB w (some ⟨b, o + k, none⟩) ((l.drop k).take m) := fun hne => by
  obtain ⟨b', o', he, hlt, hr⟩ := h (fun hl => hne (by subst hl; simp))
  injection he with he
  injection he with h1 h2
  subst h1 h2
  refine ⟨b, o + k, rfl, hlt, fun j u hj => ?_⟩
  rw [Nat.add_assoc]
  refine hr (k + j) u ?_
  rw [bv_get, List.getElem?_take] at hj
  split at hj
  · rw [List.getElem?_drop] at hj; rw [bv_get]; exact hj
  · cases hj
theorem RB.at {A : Option Addr} {l : List UInt8} (h : RB w A l) (k : Nat) (hk : k < l.length) : ∃ b o, A = some ⟨b, o, none⟩ ∧ w.cell? ⟨b, o + k, none⟩ = some (.int .u8 ((l[k]).toNat : Int)) := by
  obtain ⟨b, o, rfl, _, hr⟩ := h (by rintro rfl; simp at hk)
  exact ⟨b, o, rfl, hr k _ (by rw [bv_get, List.getElem?_eq_getElem hk]; rfl)⟩
theorem RB.take {A : Option Addr} {l : List UInt8} (h : RB w A l) (k : Nat) : RB w A (l.take k) := fun hne => by
  obtain ⟨b, o, rfl, hlt, hr⟩ := h (fun hl => hne (by subst hl; simp))
  refine ⟨b, o, rfl, hlt, fun j u hj => hr j u ?_⟩
  rw [bv_get, List.getElem?_take] at hj
  split at hj
  · rw [bv_get]; exact hj
  · cases hj
/-- The slice at A reads as l wherever F and M hold. -/
def Sr (w0 : World) (M : Mem) (F : List Ent) (A : Option Addr) (l : List UInt8) : Prop := ∀ w' M', M.le M' → St w0 w' M' F → RB w' A l
theorem Sr.of_in {A : Option Addr} {l : List UInt8} (h : In M (RB · A l)) : Sr w0 M F A l := fun w' M' hM H => (h.le hM).now H
theorem Sr.le {A : Option Addr} {l : List UInt8} (h : Sr w0 M F A l) (hm : M.le M') : Sr w0 M' F A l := fun w' M'' hM H => h w' M'' (hm.trans hM) H
theorem Sr.cons {A : Option Addr} {l : List UInt8} (h : Sr w0 M F A l) (e : Ent) : Sr w0 M (e :: F) A l := fun w' M' hM H => h w' M' hM H.d0
theorem Sr.take {A : Option Addr} {l : List UInt8} (h : Sr w0 M F A l) (k : Nat) : Sr w0 M F A (l.take k) := fun w' M' hM H => (h w' M' hM H).take k
theorem Sr.now {A : Option Addr} {l : List UInt8} (h : Sr w0 M F A l) (H : St w0 w M F) : RB w A l := h w M (Mem.le.refl M) H
theorem Sr.blk {l : List UInt8} {o : Nat} (i : Nat) (hi : F[i]? = some (eb g t cs)) (hr : (cs.drop o).take l.length = bv l) : Sr w0 M F (some ⟨g, o, none⟩) l := fun w' M' hM H => (H.blk i hi).RB hr
theorem Sr.row {A : Option Addr} {c : Nat} {l : List UInt8} (i : Nat) (hi : F[i]? = some (er e 1 (.slice A n c) n (bv l))) : Sr w0 M F A l := fun w' M' hM H => er_RB (H.get i hi)
/-- Cells in a row from A on. -/
def RA (w : World) (A : Option Addr) (cs : List Value) : Prop := cs ≠ [] → ∃ b o, A = some ⟨b, o, none⟩ ∧ b < w.heap.size ∧ w.rangeAt b o cs
theorem RB.ra {A : Option Addr} {l : List UInt8} (h : RB w A l) : RA w A (bv l) := fun hne => h (fun h0 => hne (by rw [h0]; rfl))
theorem Blk.ra (h : Blk w g t cs) (o n : Nat) (m : List Value) (hm : (cs.drop o).take n = m) : RA w (some ⟨g, o, none⟩) m := fun _ => ⟨g, o, rfl, h.lt, h.range o n m hm⟩
theorem er_RA {A : Option Addr} {c : Nat} (h : (er e sz (.slice A n c) n xs).holds M w) : RA w A xs := by
  have ho : w.ownsRow 0 e sz (.slice A n c) n xs := RowP.own (er_bind h) fun _ _ => Nat.zero_le _
  intro hl
  have hn : 0 < n := by
    rcases Nat.eq_zero_or_pos n with h0 | h0
    · have := ho.1; rw [h0, Nat.zero_mul] at this; exact absurd (List.eq_nil_of_length_eq_zero this) hl
    · exact h0
  obtain ⟨g', rfl, hr⟩ := own_rangeA ho hn
  exact ⟨g', 0, rfl, (ho.lt g' rfl).2, hr⟩
theorem St.lendRowA {A : Option Addr} {c : Nat} (h : St w0 w M (er e sz (.slice A n c) n xs :: L)) : ∃ M', M.le M' ∧ St w0 w M' L ∧ (In M' fun W => RA W A xs) ∧ ∀ w' L', St w0 w' M' L' → St w0 w' M (er e sz (.slice A n c) n xs :: L') := by
  obtain ⟨M', h1, h2, h3, h4⟩ := h.lend
  exact ⟨M', h1, h2, h3.imp fun W hW => er_RA hW, h4⟩
/-- An owned row's cell, and that it may be written. -/
theorem St.at_ {A : Option Addr} {c : Nat} (h : St w0 w M (er e 1 (.slice A n c) n xs :: L)) (k : Nat) (hk : k < n) : ∃ g, A = some ⟨g, 0, none⟩ ∧ w.cell? ⟨g, k, none⟩ = xs[k]? ∧ w.frozen? ⟨g, k, none⟩ = false := by
  have ho := h.own 0 rfl
  obtain ⟨g, rfl, hr⟩ := own_rangeA ho (by omega)
  have hl : k < xs.length := by have := ho.1; omega
  refine ⟨g, rfl, ?_, ?_⟩
  · have := hr k _ (List.getElem?_eq_getElem hl)
    rw [Nat.zero_add] at this
    rw [this, List.getElem?_eq_getElem hl]
  · rcases ho.2 with ⟨h', _⟩ | ⟨g', cap', cur, h', _, hh, _⟩
    · cases h'
    · have : g = g' := by injection h' with h'; injection h' with h'; injection h' with h'
      subst this
      simp [World.frozen?, hh]
/-- All that is new since w is never written again. -/
def Mem.all (M : Mem) (w w' : World) : Mem := fun i => if w.heap.size ≤ i then w'.heap[i]? else M i
theorem St.freeze (h : St w0 w M L) (k : Below w.heap.size w w') : St w0 w' (M.all w w') L ∧ M.le (M.all w w') := by
  have h' := h.belowK k
  have hle : M.le (M.all w w') := fun i o hi => by
    unfold Mem.all
    rw [if_neg (by have := agr_lt h.agr hi; omega)]
    exact hi
  refine ⟨⟨h'.below, fun i hi => ?_, fun i o hi => ?_, fun e he => Ent.holds_mem (h'.holds e he) fun i hi => ?_, h'.apart⟩, hle⟩
  · unfold Mem.all; rw [if_neg (by have := h.size; omega)]; exact h.old i hi
  · unfold Mem.all at hi
    split at hi
    · exact hi
    · exact h'.agr i o hi
  · have h1 := (Ent.holds_lt (h.holds e he) hi)
    unfold Mem.all; rw [if_neg (by omega)]; exact h1.1
end
/-! ### Operations -/
section
variable {P : Program} {ops : Array Oper} {rest : List Oper} {op : Oper} {a : Act} {w0 w : World} {M : Mem} {Q : Exit → Act → World → Prop} {F : List Ent}
theorem wpList_alloc_st (H : St w0 w M F) (hgd : op.guard = none) (t : TypeId) (ho : op.op = .alloc t) {z : Value} {m : Nat} (hz : (P.info? t).map (fun i => (i.zero, i.size)) = some (some z, m))
    (h : ∀ g w', St w0 w' M (eb g t z.cells.toList :: F) → wpList P ops Q rest (a.put op.dst (.pointer (some ⟨g, 0, none⟩))) w') : wpList P ops Q (op :: rest) a w :=
  wpList_alloc_blk hgd t ho hz fun w' hb hbe _ => h _ w' (H.addBlk hbe hb (Nat.le_refl _))
theorem wpList_store_st {g : Nat} {t : TypeId} {cur : List Value} (H : St w0 w M (eb g t cur :: F)) (hgd : op.guard = none) (ty : TypeId) (x y : Operand) (ho : op.op = .store ty x y) (o : Nat) (cs : List Value) (hx : a.eval x = .pointer (some ⟨g, o, none⟩)) (hy : a.eval y = .agg cs.toArray)
    (hfit : o + cs.length ≤ cur.length) (hi : (P.info? ty).map (·.size) = some cs.length) (h1 : ∀ v ∈ cs, v.oneCell' = true)
    (h : ∀ w', St w0 w' M (eb g t (ins cur o cs) :: F) → wpList P ops Q rest (a.put op.dst undef) w') : wpList P ops Q (op :: rest) a w :=
  wpList_store_blk hgd ty x y ho g o cs hx hy t cur (H.blk 0 rfl) hfit hi h1 fun w' hb hk _ => h w' (H.turnBlk hk hb)
/-- Bytes appended to a row of bytes, whatever they come from. -/
theorem wpList_append_st {e : TypeId} {v : Value} {n : Nat} {xs : List Value} (H : St w0 w M (er e 1 v n xs :: F)) (hgd : op.guard = none) (s x : Operand) (t : TypeId) (ho : op.op = .call { callee := .builtin .append, args := #[s, x], argTypes := #[t, t] })
    (i5 : (P.info? e).map (fun i => (i.zero, i.size, i.bytes)) = some (some (.int .u8 0), 1, 1)) (ht : P.underlying t = some (.slice e)) (hs : a.eval s = v) (A : Option Addr) (m c : Nat) (l : List UInt8) (hx : a.eval x = .slice A m c) (hm : m = l.length) (hA : A = none → c = 0) (hr : RB w A l)
    (hb : n + m ≤ 140737488355328) (h : ∀ v' w', St w0 w' M (er e 1 v' (n + m) (xs ++ bv l) :: F) → wpList P ops Q rest (a.put op.dst v') w') : wpList P ops Q (op :: rest) a w :=
  wpList_append_rb hgd s x t e ho i5 ht w0.heap.size v n xs hs (H.own 0 rfl) A m c l hx hm hA hr hb H.size fun v' w' h1 h2 h3 => h v' w' (H.turnRow h2 h3 h1)
/-- Elements of whatever size appended, whatever they come from. -/
theorem wpList_append_any_st {e : TypeId} {sz by_ : Nat} {v z : Value} {n : Nat} {xs : List Value} (H : St w0 w M (er e sz v n xs :: F)) (hgd : op.guard = none) (s x : Operand) (t : TypeId) (ho : op.op = .call { callee := .builtin .append, args := #[s, x], argTypes := #[t, t] })
    (hinfo : (P.info? e).map (fun i => (i.zero, i.size, i.bytes)) = some (some z, sz, by_)) (hz : z.cells.size = sz) (hsz : 0 < sz) (ht : P.underlying t = some (.slice e)) (hs : a.eval s = v) (A : Option Addr) (m c : Nat) (news : List Value) (hx : a.eval x = .slice A m c) (hm : news.length = m * sz) (hA : A = none → c = 0) (hr : RA w A news)
    (h1 : ∀ u ∈ news, u.oneCell' = true) (hb : (n + m) * by_ ≤ 140737488355328) (hb2 : n + m ≤ 140737488355328) (h : ∀ v' w', St w0 w' M (er e sz v' (n + m) (xs ++ news) :: F) → wpList P ops Q rest (a.put op.dst v') w') : wpList P ops Q (op :: rest) a w := by
  obtain ⟨i0, hi, hz0, hz1, hz2⟩ := info_parts hinfo
  have some_ : ∀ ad : Addr, A = some ad → (∀ j u, news[j]? = some u → w.cell? (ad.add j) = some u) → wpList P ops Q (op :: rest) a w := fun ad hA2 hc => by
    subst hA2
    exact wpList_append_own_at (w := w) hgd s x t ho w0.heap.size e i0 z sz by_ ht hi hz0 hz1 hz2 hz hsz v n xs hs (H.own 0 rfl) ad m c news hx hm hc h1 (by unfold maxLen; omega) hb H.size
      fun v' w' ho' hg' _ hv' => h v' w' (H.turnRow hg' hv' ho')
  by_cases hl : news = []
  · subst hl
    have hm0 : m = 0 := by
      have : m * sz = 0 := by simpa using hm.symm
      rcases Nat.mul_eq_zero.1 this with h0 | h0
      · exact h0
      · omega
    subst hm0
    cases A with
    | some ad => exact some_ ad rfl fun j u hu => by simp at hu
    | none =>
      obtain rfl := hA rfl
      refine wpList_plain hgd fun K hK => ?_
      have hr := run_append_owned_none (P := P) (w := w) w0.heap.size t op.type e i0 sz ht hi v n xs (H.own 0 rfl)
      unfold Oper.wp execOp
      simp only [ho, resolve, invoke, builtin, Sem.run_bind, Sem.run_pure, Result.andThen_ok, List.map_toArray, List.map_cons, List.map_nil, hs, hx, hr]
      refine hK _ _ (h v w ?_)
      simpa using H
  · obtain ⟨b, off, rfl, _, hrg⟩ := hr hl
    exact some_ _ rfl (fun j u hu => by rw [Addr.add_mid]; exact hrg j u hu)
/-- One element of one cell appended: the goal's world holds its box. -/
theorem wpList_append1_st {e : TypeId} {v y z : Value} {n by_ : Nat} {xs : List Value} (H : St w0 w M (er e 1 v n xs :: F)) (hgd : op.guard = none) (s x : Operand) (t : TypeId) (ho : op.op = .call { callee := .builtin .append, args := #[s, x], argTypes := #[t, t] })
    (hinfo : (P.info? e).map (fun i => (i.zero, i.size, i.bytes)) = some (some z, 1, by_)) (hz : z.cells.size = 1) (ht : P.underlying t = some (.slice e)) (hs : a.eval s = v) (hx : a.eval x = .slice (some ⟨w.heap.size, 0, none⟩) 1 1) (h1 : y.oneCell' = true)
    (hb : (n + 1) * by_ ≤ 140737488355328) (hb2 : n + 1 ≤ 140737488355328) (h : ∀ v' w', St w0 w' M (er e 1 v' (n + 1) (xs ++ [y]) :: F) → wpList P ops Q rest (a.put op.dst v') w') : wpList P ops Q (op :: rest) a (w.alloc (.cells #[y] e)) := by
  obtain ⟨i0, hi, hz0, hz1, hz2⟩ := info_parts hinfo
  have H1 := H.alloc (.cells #[y] e)
  refine wpList_append_own_at (w := w.alloc (.cells #[y] e)) hgd s x t ho w0.heap.size e i0 z 1 by_ ht hi hz0 hz1 hz2 hz (by omega) v n xs hs (H1.own 0 rfl) ⟨w.heap.size, 0, none⟩ 1 1 [y] hx rfl ?_ (by simpa using h1) (by unfold maxLen; omega) hb H1.size ?_
  · have hb : Blk (w.alloc (.cells #[y] e)) w.heap.size e [y] := Blk.new w e [y]
    intro j u hu
    rw [Addr.add_mid, hb.cell, Nat.zero_add]
    exact hu
  · intro v' w' ho' hg' _ hv'
    exact h v' w' (H1.turnRow hg' hv' ho')
/-- copy into the first entry's block. -/
theorem wpList_copy_st {g : Nat} {t : TypeId} {cur : List Value} (H : St w0 w M (eb g t cur :: F)) (hgd : op.guard = none) (d s : Operand) (dT sT : TypeId) (ho : op.op = .call { callee := .builtin .copy, args := #[d, s], argTypes := #[dT, sT] }) (elem : TypeId) (hu : P.underlying dT = some (.slice elem)) (hsz : (P.info? elem).map (·.size) = some 1)
    (off dLen dCap : Nat) (sp : Option Addr) (sLen sCap : Nat) (hd : a.eval d = .slice (some ⟨g, off, none⟩) dLen dCap) (hs : a.eval s = .slice sp sLen sCap) (l : List UInt8) (hl : sLen = l.length) (hr : RB w sp l) (hfit : off + Nat.min sLen dLen ≤ cur.length)
    (h : ∀ w', St w0 w' M (eb g t (ins cur off (bv (l.take dLen))) :: F) → wpList P ops Q rest (a.put op.dst (goInt (Nat.min sLen dLen))) w') : wpList P ops Q (op :: rest) a w := by
  have hn : (bv (l.take dLen)).length = Nat.min sLen dLen := by rw [bv_length, List.length_take, hl]; exact Nat.min_comm _ _
  refine wpList_copy_blk hgd d s dT sT ho elem hu hsz g off dLen dCap sp sLen sCap hd hs cur t (H.blk 0 rfl) (bv (l.take dLen)) hn ?_ (by rw [hn]; exact hfit) (bv_one _) ?_
  · intro hpos
    have hne : l ≠ [] := by rintro rfl; simp [bv] at hpos
    obtain ⟨b, o, rfl, _, hrg⟩ := hr hne
    refine ⟨_, rfl, fun j v hj => ?_⟩
    rw [Addr.add_mid]
    refine hrg j v ?_
    rw [bv_get, List.getElem?_take] at hj
    split at hj
    · rw [bv_get]; exact hj
    · cases hj
  · intro w' hb hk _
    rw [hn]
    exact h w' (H.turnBlk hk hb)
end
end Go.Proofs.YtepgmebklhemgaaGreatDoor.Wd
/- Memory as one fact, more: fewer things are said to be never written; bytes appended to a slice that is full: a new row. No program is in sight. -/
set_option linter.unusedVariables false
set_option linter.unusedSimpArgs false
namespace Go.Proofs.YtepgmebklhemgaaGreatDoor
open Go.RowKit Wd
theorem Wd.St.weak {w0 w w1 : World} {M M' : Mem} {L L1 : List Ent} (h : St w0 w M' L) (h0 : St w0 w1 M L1) (hm : M.le M') : St w0 w M L :=
  ⟨h.below, h0.old, h.agr.le hm, fun e he => Ent.holds_mem (h.holds e he) (fun g hf => by
    have h1 := (Ent.holds_lt (h.holds e he) hf).1
    cases h2 : M g with
    | none => rfl
    | some o => rw [hm g o h2] at h1; exact absurd h1 (by simp)), h.apart⟩
section
variable {P : Program} {ops : Array Oper} {rest : List Oper} {op : Oper} {a : Act} {w0 w : World} {M : Mem} {Q : Exit → Act → World → Prop} {F : List Ent}
/-- Bytes appended to bytes where there is no room. -/
theorem wpList_append_full_st {e : TypeId} (H : St w0 w M F) (hgd : op.guard = none) (s x : Operand) (t : TypeId) (ho : op.op = .call { callee := .builtin .append, args := #[s, x], argTypes := #[t, t] })
    (i5 : (P.info? e).map (fun i => (i.zero, i.size, i.bytes)) = some (some (.int .u8 0), 1, 1)) (ht : P.underlying t = some (.slice e)) (A : Option Addr) (n cap : Nat) (k : List UInt8) (hs : a.eval s = .slice A n cap) (hk : n = k.length) (hA : A = none → cap = 0) (hrk : RB w A k)
    (B : Addr) (m c : Nat) (l : List UInt8) (hx : a.eval x = .slice (some B) m c) (hm : m = l.length) (hr : RB w (some B) l) (hfull : cap < n + m) (hnc : n ≤ cap)
    (hb : n + m ≤ 140737488355328) (h : ∀ v' w', St w0 w' M (er e 1 v' (n + m) (bv (k ++ l)) :: F) → wpList P ops Q rest (a.put op.dst v') w') : wpList P ops Q (op :: rest) a w := by
  obtain ⟨i0, hi, hz0, hz1, hz2⟩ := info_parts i5
  refine wpList_append_grows w hgd s x t ho e i0 (.int .u8 0) 1 1 ht hi hz0 hz1 hz2 rfl (by decide) A n cap (bv k) hs (fun h0 => by have := hA h0; omega) (by rw [bv_length, hk, Nat.mul_one]) ?_ B m c (bv l) hx (by rw [bv_length, hm, Nat.mul_one]) ?_ (bv_one l) hfull (by unfold maxLen; omega) (by omega) ?_
  · intro b hb2 j u hj
    obtain ⟨b', o', he, _, hrg⟩ := hrk (by rintro rfl; simp [bv] at hj)
    rw [hb2] at he
    injection he with he
    subst he
    rw [Addr.add_mid]
    exact hrg j u hj
  · intro j u hj
    obtain ⟨b', o', he, _, hrg⟩ := hr (by rintro rfl; simp [bv] at hj)
    injection he with he
    subst he
    rw [Addr.add_mid]
    exact hrg j u hj
  · intro v' w' ho' hg'
    refine h v' w' ?_
    rw [bv_append]
    exact H.addRow ⟨hg'.os, hg'.tape, hg'.output, hg'.size, fun i hi => hg'.block i hi (by simp)⟩ ho'
/-- Nothing appended where there is a row: the slice itself. -/
theorem wpList_append_zero {e : TypeId} {z : Value} {sz by_ : Nat} (hgd : op.guard = none) (s x : Operand) (t : TypeId) (ho : op.op = .call { callee := .builtin .append, args := #[s, x], argTypes := #[t, t] })
    (hinfo : (P.info? e).map (fun i => (i.zero, i.size, i.bytes)) = some (some z, sz, by_)) (ht : P.underlying t = some (.slice e)) (base : Option Addr) (n cap : Nat) (hs : a.eval s = .slice base n cap) (hle : n ≤ cap) (A : Option Addr) (c : Nat) (hx : a.eval x = .slice A 0 c)
    (h : wpList P ops Q rest (a.put op.dst (.slice base n cap)) w) : wpList P ops Q (op :: rest) a w := by
  obtain ⟨i0, hi, _, _, _⟩ := info_parts hinfo
  refine wpList_plain hgd fun K hK => ?_
  have hS : Src P i0.size t (.slice A 0 c) 0 [] w := by
    cases A with
    | none => exact Src.ofNil w ht c
    | some ad => exact Src.ofSlice w ht ad 0 c [] (by simp) (fun j u hj => by simp at hj) (fun _ h => by cases h)
  have hr := run_append_nothing (P := P) w t t op.type e i0 ht hi base n cap hle (.slice A 0 c) hS
  unfold Oper.wp execOp
  simp only [ho, resolve, invoke, builtin, Sem.run_bind, Sem.run_pure, Result.andThen_ok, List.map_toArray, List.map_cons, List.map_nil, hs, hx, hr]
  exact hK _ _ h
/-- A load of a whole array or struct under a guard that holds. -/
theorem wpList_load_g (hw : Region.wanted op (yielded ops a.tmps) = true) (ty : TypeId) (x : Operand) (ho : op.op = .load ty x)
    (b o : Nat) (hx : a.eval x = .pointer (some ⟨b, o, none⟩)) (cs : List Value) (d : TypeDesc) (hc : w.rangeAt b o cs)
    (hu : P.underlying ty = some d) (hd : d.isRow = true) (hi : (P.info? ty).map (·.size) = some cs.length)
    (h : wpList P ops Q rest (a.put op.dst (.agg cs.toArray)) w) : wpList P ops Q (op :: rest) a w := by
  unfold wpList
  rw [if_pos hw]
  exact .inl (wp_load_mid ty x ho b o hx cs d hc hu hd hi h)
end
/-- A row of its own is never written again. -/
theorem Wd.St.keepRow {w0 w : World} {M : Mem} {L : List Ent} {e : TypeId} {n : Nat} {A : Option Addr} {c : Nat} {l : List UInt8} (h : St w0 w M (er e 1 (.slice A n c) n (bv l) :: L)) : ∃ M', M.le M' ∧ St w0 w M' L ∧ In M' fun W => RB W A l := by
  obtain ⟨M', h1, h2, h3, _⟩ := h.lendRow
  exact ⟨M', h1, h2, h3⟩
theorem Wd.St.keepBlk {w0 w : World} {M : Mem} {L : List Ent} {g : Nat} {t : TypeId} {cs : List Value} (h : St w0 w M (eb g t cs :: L)) : ∃ M', M.le M' ∧ St w0 w M' L ∧ In M' fun W => Blk W g t cs := by
  obtain ⟨M', h1, h2, h3, _⟩ := h.lendBlk
  exact ⟨M', h1, h2, h3⟩
/-- The call gives bytes that are never written again. -/
def RetBytes (w0 : World) (M : Mem) (L : List Ent) (l : List UInt8) (mk : Value → Ending) (e : Ending) (w' : World) : Prop :=
  ∃ A c M', e = mk (.slice A l.length c) ∧ l.length ≤ c ∧ (A = none → c = 0) ∧ M.le M' ∧ In M' (RB · A l) ∧ St w0 w' M' L
end Go.Proofs.YtepgmebklhemgaaGreatDoor
/- Strings as bytes in memory: a string turned to bytes; strings and bytes appended to what is a call's own. No program is in sight. -/
set_option linter.unusedVariables false
set_option linter.unusedSimpArgs false
namespace Go.Proofs.YtepgmebklhemgaaGreatDoor
open Go.RowKit Wd
/-- Block g is just these cells, with this mark. -/
def em (g : Nat) (t : TypeId) (cs : List Value) (fz : Nat × Nat) : Ent := ⟨some g, fun o => o = some (.cells cs.toArray t fz)⟩
section
variable {w0 w w' : World} {M M' : Mem} {L F : List Ent} {g : Nat} {t e : TypeId} {cs : List Value} {fz : Nat × Nat}
theorem em_heap (h : (em g t cs fz).holds M w) : w.heap[g]? = some (.cells cs.toArray t fz) := h.2.2
theorem Wd.St.newm (h : St w0 w M L) (cs : List Value) (t : TypeId) (fz : Nat × Nat) : St w0 (w.alloc (.cells cs.toArray t fz)) M (em w.heap.size t cs fz :: L) :=
  h.add ((Below.refl _ _).alloc (Nat.le_refl _) _) ⟨h.fresh (Nat.le_refl _), by show _ < (w.heap.push _).size; simp, heap_alloc_new w _⟩ fun g' hg' => by have : some w.heap.size = some g' := hg'; injection this with this; omega
theorem em_cell (h : (em g t cs fz).holds M w) (i : Nat) : w.cell? ⟨g, i, none⟩ = cs[i]? := by
  rw [cell_of_row w g i _ t fz (em_heap h)]; simp
theorem em_RB (h : (em g t cs fz).holds M w) {l : List UInt8} (hl : cs.take l.length = bv l) : RB w (some ⟨g, 0, none⟩) l := fun _ =>
  ⟨g, 0, rfl, h.2.1, fun j u hj => by
    rw [Nat.zero_add, em_cell h]
    rw [← hl, List.getElem?_take] at hj
    split at hj
    · exact hj
    · cases hj⟩
theorem Wd.St.keepm {l : List UInt8} (h : St w0 w M (em g t cs fz :: L)) (hl : cs.take l.length = bv l) : ∃ M', M.le M' ∧ St w0 w M' L ∧ In M' fun W => RB W (some ⟨g, 0, none⟩) l := by
  obtain ⟨M', h1, h2, h3, _⟩ := h.lend
  exact ⟨M', h1, h2, h3.imp fun W hW => em_RB hW hl⟩
/-- A literal of bytes that was turned to its own type: never written again. -/
theorem Wd.St.constBytes (h : St w0 w M L) (l : List UInt8) (t : TypeId) (fz : Nat × Nat) : ∃ M', M.le M' ∧ St w0 (w.alloc (.cells (bv l).toArray t fz)) M' L ∧ In M' fun W => RB W (some ⟨w.heap.size, 0, none⟩) l :=
  (h.newm (bv l) t fz).keepm (by rw [List.take_of_length_le (by rw [bv_length]; exact Nat.le_refl _)])
theorem turnRow' {sz n n' : Nat} {v v' : Value} {xs xs' : List Value} (h : St w0 w M (er e sz v n xs :: L)) (hg : w.grownBy w' v.ownBlock) (hcase : ∀ g, v'.ownBlock = some g → v.ownBlock = some g ∨ w.heap.size ≤ g) (ho : w'.ownsRow w0.heap.size e sz v' n' xs') : St w0 w' M (er e sz v' n' xs' :: L) := by
  refine h.turn ⟨hg.os, hg.tape, hg.output, hg.size, fun k hk hn => hg.block k hk fun he => hn he.symm⟩ (er_mk ho fun g hg' => ?_) hcase
  rcases hcase g hg' with h1 | h1
  · exact (Ent.holds_lt (h.get 0 rfl) h1).1
  · exact h.fresh h1
end
section
variable {P : Program} {ops : Array Oper} {rest : List Oper} {op : Oper} {a : Act} {w0 w : World} {M : Mem} {Q : Exit → Act → World → Prop} {F : List Ent}
theorem strCells_bv (l : List UInt8) : Lib.strCells ⟨l.toArray⟩ = bv l := by
  unfold Lib.strCells bv
  simp
/-- A string's bytes appended to a row of bytes: the run. -/
theorem append_str_run {t u ty e : TypeId} {v : Value} {n : Nat} {xs : List Value} (H : St w0 w M (er e 1 v n xs :: F))
    (i5 : (P.info? e).map (fun i => (i.zero, i.size, i.bytes)) = some (some (.int .u8 0), 1, 1)) (ht : P.underlying t = some (.slice e)) (hu : P.underlying u = some .string) (l : List UInt8)
    (hb : n + l.length ≤ 140737488355328) : ∃ v' w', (Builtin.append_ #[t, u] ty #[v, .string ⟨l.toArray⟩]).run P w = .ok v' w' ∧ St w0 w' M (er e 1 v' (n + l.length) (xs ++ bv l) :: F) := by
  obtain ⟨i0, hi, hz0, hz1, hz2⟩ := info_parts i5
  have hsz : (ByteArray.mk l.toArray).size = l.length := by show l.toArray.size = _; simp
  have hown := H.own 0 rfl
  obtain ⟨v', w', hr, h2, h3, h4⟩ := Lib.run_append_own_string (P := P) w w0.heap.size t u ty e i0 ht hu hi hz0 hz1 hz2 v n xs hown ⟨l.toArray⟩ (by rw [hsz]; unfold maxLen; omega) (by rw [hsz]; omega) H.size
  refine ⟨v', w', hr, ?_⟩
  rw [hsz, strCells_bv] at h2
  refine turnRow' H h3 ?_ h2
  intro g hg
  have hxl : xs.length = n := by simpa using hown.1
  rcases hown.2 with ⟨rfl, rfl⟩ | ⟨g', cap, cur, rfl, hbg, hg2, hnc, hcm, hcs, htake⟩
  · by_cases hm : l.length = 0
    · have := h4.2 ⟨rfl, by rw [hsz]; exact hm⟩
      subst this
      cases hg
    · have hr2 := run_append_nil_string (P := P) w t u ty e i0 (.int .u8 0) ht hu hi hz0 ⟨l.toArray⟩ (by rw [hsz]; omega) (by rw [hsz]; omega) (by rw [hz2, hsz]; omega)
      rw [hr2] at hr
      injection hr with e1 e2
      rw [← e1] at hg
      have : w.heap.size = g := by simpa [Value.ownBlock] using hg
      exact .inr (by omega)
  · by_cases hroom : n + l.length ≤ cap
    · have hcs' : cur.size = cap := by simpa using hcs
      have hr2 := Lib.run_append_room_string (P := P) w t u ty e i0 ht hu hi hz1 g' n cap cur hg2 ⟨l.toArray⟩ (by rw [hsz]; exact hroom) (by rw [hsz]; omega)
      rw [hr2] at hr
      injection hr with e1 e2
      rw [← e1] at hg
      exact .inl hg
    · have holds : ∀ j u, xs[j]? = some u → w.cell? ((⟨g', 0, none⟩ : Addr).add j) = some u := own_holds hown _ rfl
      have hr2 := Lib.run_append_grow_string (P := P) w t u ty e i0 (.int .u8 0) ht hu hi hz0 ⟨g', 0, none⟩ n cap xs (by rw [hz1]; simpa using hxl) holds ⟨l.toArray⟩ (by rw [hsz]; omega) (by rw [hsz]; omega) (by rw [hz2, hsz]; exact growslice_fits (by omega) (by omega))
      rw [hr2] at hr
      injection hr with e1 e2
      rw [← e1] at hg
      have : w.heap.size = g := by simpa [Value.ownBlock] using hg
      exact .inr (by omega)
/-- A string's bytes appended to a row of bytes. -/
theorem wpList_append_str_st {e : TypeId} {v : Value} {n : Nat} {xs : List Value} (H : St w0 w M (er e 1 v n xs :: F)) (hgd : op.guard = none) (s x : Operand) (t u : TypeId) (ho : op.op = .call { callee := .builtin .append, args := #[s, x], argTypes := #[t, u] })
    (i5 : (P.info? e).map (fun i => (i.zero, i.size, i.bytes)) = some (some (.int .u8 0), 1, 1)) (ht : P.underlying t = some (.slice e)) (hu : P.underlying u = some .string) (hs : a.eval s = v) (l : List UInt8) (hx : a.eval x = .string ⟨l.toArray⟩)
    (hb : n + l.length ≤ 140737488355328) (h : ∀ v' w', St w0 w' M (er e 1 v' (n + l.length) (xs ++ bv l) :: F) → wpList P ops Q rest (a.put op.dst v') w') : wpList P ops Q (op :: rest) a w := by
  refine wpList_plain hgd fun K hK => ?_
  obtain ⟨v', w', hr, hH⟩ := append_str_run (P := P) (ty := op.type) H i5 ht hu l hb
  unfold Oper.wp execOp
  simp only [ho, resolve, invoke, builtin, Sem.run_bind, Sem.run_pure, Result.andThen_ok, List.map_toArray, List.map_cons, List.map_nil, hs, hx, hr]
  exact hK _ _ (h v' w' hH)
/-- A string turned to bytes: a new row, zeros behind them, marked. -/
theorem conv_st {src dst e : TypeId} (H : St w0 w M F) (hs : P.underlying src = some .string) (hd : P.underlying dst = some (.slice e)) (he : P.underlying e = some (.int .u8)) (l : List UInt8) (hl : l.length ≤ 140737488355328) :
    ∃ g c w', (convert src dst (.string ⟨l.toArray⟩)).run P w = .ok (.slice (some ⟨g, 0, none⟩) l.length c) w' ∧ l.length ≤ c ∧ c ≤ maxLen ∧ St w0 w' M (em g e (bv l ++ List.replicate (c - l.length) (Value.int .u8 0)) (c, c + 1) :: F) := by
  have hsz : (ByteArray.mk l.toArray).size = l.length := by show l.toArray.size = _; simp
  have hge := grownCap_ge w l.length 0 e
  have hcells : Lib.bytesCells w e ⟨l.toArray⟩ = (bv l ++ List.replicate (grownCap w l.length 0 e - l.length) (Value.int .u8 0)).toArray := by
    unfold Lib.bytesCells
    rw [hsz]
    apply Array.ext'
    simp [bv]
  have hlen : (bv l ++ List.replicate (grownCap w l.length 0 e - l.length) (Value.int .u8 0)).length = grownCap w l.length 0 e := by
    rw [List.length_append, bv_length, List.length_replicate]; omega
  refine ⟨w.heap.size, grownCap w l.length 0 e, Lib.bytesWorld w e ⟨l.toArray⟩, ?_, hge, grownCap_le_maxLen w l.length 0 e (by unfold maxLen; omega), ?_⟩
  · have h := Lib.run_convert_string_bytes (P := P) w src dst e ⟨l.toArray⟩ hs hd he
    rw [hsz] at h
    exact h
  · have hnew := Lib.bytesWorld_at_new w e ⟨l.toArray⟩
    have hsz2 : (bv l ++ List.replicate (grownCap w l.length 0 e - l.length) (Value.int .u8 0)).toArray.size = grownCap w l.length 0 e := by rw [List.size_toArray]; exact hlen
    rw [hcells, hsz2] at hnew
    refine H.add (a := em w.heap.size e (bv l ++ List.replicate (grownCap w l.length 0 e - l.length) (Value.int .u8 0)) (grownCap w l.length 0 e, grownCap w l.length 0 e + 1)) ⟨?_, ?_, ?_, ?_, ?_⟩ ⟨H.fresh (Nat.le_refl _), ?_, hnew⟩ (fun g' hg' => by have : some w.heap.size = some g' := hg'; injection this with this; omega)
    · simp [Lib.bytesWorld, World.freeze, World.alloc, World.drew, -World.alloc_eq, -World.drew_eq]
    · simp [Lib.bytesWorld, World.freeze, World.alloc, World.drew, -World.alloc_eq, -World.drew_eq]
    · simp [Lib.bytesWorld, World.freeze, World.alloc, World.drew, -World.alloc_eq, -World.drew_eq]
    · rw [Lib.bytesWorld_size]; omega
    · exact fun j hj => Lib.bytesWorld_at_old w e _ j hj
    · rw [Lib.bytesWorld_size]; omega
/-- Bytes appended to a string that was turned to bytes: what comes of it is never written again. -/
theorem wpList_append_conv_st {e : TypeId} {g c n : Nat} {k : List UInt8} (H : St w0 w M (em g e (bv k ++ List.replicate (c - k.length) (Value.int .u8 0)) (c, c + 1) :: F)) (hgd : op.guard = none) (s x : Operand) (t : TypeId) (ho : op.op = .call { callee := .builtin .append, args := #[s, x], argTypes := #[t, t] })
    (i5 : (P.info? e).map (fun i => (i.zero, i.size, i.bytes)) = some (some (.int .u8 0), 1, 1)) (ht : P.underlying t = some (.slice e)) (hs : a.eval s = .slice (some ⟨g, 0, none⟩) n c) (hn : n = k.length) (hc : n ≤ c)
    (B : Addr) (m d : Nat) (l : List UInt8) (hx : a.eval x = .slice (some B) m d) (hm : m = l.length) (hr : RB w (some B) l) (hb : n + m ≤ 140737488355328)
    (h : ∀ A' c' w' M', M.le M' → In M' (RB · (some A') (k ++ l)) → n + m ≤ c' → St w0 w' M' F → wpList P ops Q rest (a.put op.dst (.slice (some A') (n + m) c')) w') : wpList P ops Q (op :: rest) a w := by
  obtain ⟨i0, hi, hz0, hz1, hz2⟩ := info_parts i5
  subst hn hm
  have hh := H.get 0 rfl
  have hlen : (bv k ++ List.replicate (c - k.length) (Value.int .u8 0)).length = c := by rw [List.length_append, bv_length, List.length_replicate]; omega
  have hcl : ∀ i, w.cell? ⟨g, i, none⟩ = (bv k ++ List.replicate (c - k.length) (Value.int .u8 0))[i]? := em_cell hh
  have hfr : ∀ i, i < c → w.frozen? ⟨g, i, none⟩ = false := fun i hi' => by
    simp only [World.frozen?, em_heap hh, Bool.and_eq_false_iff, decide_eq_false_iff_not]
    left
    omega
  refine wpList_append_arg w hgd s x t ho e i0 (.int .u8 0) 1 1 ht hi hz0 hz1 hz2 rfl (by decide) g 0 k.length c (bv k) hs (by rw [bv_length, Nat.mul_one]) (fun j u hj => ?_) B l.length d (bv l) hx (by rw [bv_length, Nat.mul_one]) (fun j u hj => ?_) (bv_one l) (fun hroom j hj => ?_) (by unfold maxLen; omega) (by omega) (fun hroom => ?_) (fun hgrow v' w' ho' hg' => ?_)
  · rw [Nat.zero_add, hcl, List.getElem?_append_left (by exact (List.getElem?_eq_some_iff.1 hj).1)]
    exact hj
  · obtain ⟨b', o', he, _, hrg⟩ := hr (by rintro rfl; simp [bv] at hj)
    injection he with he
    subst he
    rw [Addr.add_mid]
    exact hrg j u hj
  · rw [bv_length] at hj
    refine ⟨?_, hfr _ (by omega)⟩
    rw [hcl, List.getElem?_eq_getElem (by rw [hlen]; omega)]
    rfl
  · rw [Nat.zero_add, Nat.mul_one]
    have hset : ∀ (m : List Value) (cs : List Value) (W : World) (o : Nat), W.heap[g]? = some (.cells cs.toArray e (c, c + 1)) → o + m.length ≤ cs.length → (W.setCells g o m).heap[g]? = some (.cells (ins cs o m).toArray e (c, c + 1)) := by
      intro m
      induction m with
      | nil => intro cs W o hW _; simpa [World.setCells, ins] using hW
      | cons v m ih =>
        intro cs W o hW ho2
        simp only [World.setCells]
        have hW2 : (W.setCell ⟨g, o, none⟩ v).heap[g]? = some (.cells (cs.set o v).toArray e (c, c + 1)) := by
          simp [World.setCell, Array.getElem?_modify, hW]
        rw [ih (cs.set o v) _ (o + 1) hW2 (by simp at ho2 ⊢; omega)]
        congr 3
        have hl : o < cs.length := by simp at ho2; omega
        unfold ins
        apply List.ext_getElem?
        intro j
        simp only [List.getElem?_append, List.getElem?_take, List.getElem?_drop, List.getElem?_set, List.length_append, List.length_take, List.length_set, List.length_cons, List.getElem?_cons]
        rcases Nat.lt_trichotomy j o with hj | hj | hj
        · grind
        · grind
        · grind
    have h1 := hset (bv l) _ w k.length (em_heap hh) (by rw [hlen, bv_length]; exact hroom)
    have hk : Keeps w (w.setCells g k.length (bv l)) (· = g) := (Keeps.refl w (· = g)).setCells (.inl rfl) _ _
    have H2 : St w0 (w.setCells g k.length (bv l)) M (em g e (ins (bv k ++ List.replicate (c - k.length) (Value.int .u8 0)) k.length (bv l)) (c, c + 1) :: F) :=
      H.turn (hk.imp fun j _ hj => by subst hj; rfl) ⟨hh.1, by rw [size_setCells]; exact hh.2.1, h1⟩ (fun _ h => .inl h)
    obtain ⟨M', hM', H3, hin⟩ := H2.keepm (l := k ++ l) (by
      unfold ins
      have e1 : (bv k ++ List.replicate (c - k.length) (Value.int .u8 0)).take k.length = bv k := by
        rw [List.take_append_of_le_length (by rw [bv_length]; exact Nat.le_refl _), bv_take, List.take_length]
      rw [e1, ← bv_append, List.take_append_of_le_length (by rw [bv_length]; exact Nat.le_refl _), bv_take, List.take_length])
    exact h ⟨g, 0, none⟩ c _ M' hM' hin hroom H3
  · have H2 : St w0 w' M (er e 1 v' (k.length + l.length) (bv (k ++ l)) :: F) := by
      rw [bv_append]
      exact H.d0.addRow ⟨hg'.os, hg'.tape, hg'.output, hg'.size, fun i hi => hg'.block i hi (by simp)⟩ ho'
    obtain ⟨A', c', rfl, hcc⟩ := H2.shape 0 rfl
    obtain ⟨M', hM', H3, hin⟩ := H2.keepRow
    cases A' with
    | none =>
      have h0 := (H2.shape' 0 rfl)
      obtain ⟨A2, c2, e2, h3, h4⟩ := h0
      injection e2 with e2 _ e3
      have := h4 e2.symm
      omega
    | some A' => exact h A' c' w' M' hM' hin hcc H3
end
end Go.Proofs.YtepgmebklhemgaaGreatDoor
/- Zeros appended to a row of bytes ('append(b, make([]byte, n)...)'). No program is in sight. -/
set_option linter.unusedVariables false
set_option linter.unusedSimpArgs false
namespace Go.Proofs.YtepgmebklhemgaaGreatDoor
open Go.RowKit Wd
section
variable {P : Program} {ops : Array Oper} {rest : List Oper} {op : Oper} {a : Act} {w0 w : World} {M : Mem} {Q : Exit → Act → World → Prop} {F : List Ent}
/-- As many zeros of a string. -/
theorem run_append_zeros_str {t tn u ty e : TypeId} {i : TypeInfo} {kq kn : IntKind} (ht : P.underlying t = some (.slice e)) (htn : P.underlying tn = some (.int kn)) (hu : P.underlying u = some .string) (hi : P.info? e = some i) (hz : i.zero = some (.int .u8 0)) (h1 : i.size = 1) (hby : i.bytes = 1)
    (base : Option Addr) (sLen sCap k : Nat) (hk : sLen + k ≤ 140737488355328) (w : World) :
    (Builtin.append_ #[t, tn] ty #[.slice base sLen sCap, .int kq k]).run P w = (Builtin.append_ #[t, u] ty #[.slice base sLen sCap, .string ⟨(List.replicate k (0 : UInt8)).toArray⟩]).run P w := by
  have hw : IntKind.i64.wrap (k : Int) = k := by rw [IntKind.wrap_i64]; omega
  have hneg : ¬ ((k : Int) < 0) := by omega
  have h48i : ¬ (281474976710656 < (k : Int)) := by omega
  have hs : (ByteArray.mk (List.replicate k (0 : UInt8)).toArray).size = k := by show (List.replicate k (0 : UInt8)).toArray.size = k; simp
  have hzc : ∀ W, (Builtin.firstCells 1 k (.string ⟨(List.replicate k (0 : UInt8)).toArray⟩)).run P W = .ok (Builtin.zeroCells #[.int .u8 0] k) W := fun W => by
    have h := Lib.run_firstCells_string (P := P) W 1 ⟨(List.replicate k (0 : UInt8)).toArray⟩
    rw [hs] at h
    rw [h]
    congr 1
    apply Array.ext
    · simp [Builtin.zeroCells, Lib.strCells]
    · intro j h1 h2
      simp [Builtin.zeroCells, Lib.strCells, Nat.mod_one]
  have hz0 : Builtin.zeroCells #[.int .u8 0] 0 = #[] := by simp [Builtin.zeroCells]
  generalize ByteArray.mk (List.replicate k (0 : UInt8)).toArray = B at *
  by_cases hroom : sLen + k ≤ sCap
  · by_cases hk0 : k = 0
    · subst hk0
      rw [hz0] at hzc
      have hroom' : sLen ≤ sCap := hroom
      have hw0 : IntKind.i64.wrap 0 = 0 := by rw [IntKind.wrap_i64]; rfl
      simp [Builtin.append_, run_underlying ht, run_underlying htn, run_underlying hu, sizeOf, typeInfo, zeroValue, hi, hz, h1, hby, asInt, asIntOf, hw, hneg, h48i, Builtin.lenOf, hs, hroom', hzc, hw0]
    · simp [Builtin.append_, run_underlying ht, run_underlying htn, run_underlying hu, sizeOf, typeInfo, zeroValue, hi, hz, h1, hby, asInt, asIntOf, hw, hneg, h48i, Builtin.lenOf, hs, hroom, hzc, hk0, Value.cells]
  · have h48' : ¬ (281474976710656 < Builtin.nextslicecap (sLen + k) sCap) := by have := growslice_fits (bytes := 1) (by omega : sCap < sLen + k) (by omega); omega
    have h63' : ¬ (9223372036854775807 < ((sLen : Int) + (k : Int))) := by omega
    simp [Builtin.append_, run_underlying ht, run_underlying htn, run_underlying hu, sizeOf, typeInfo, zeroValue, hi, hz, h1, hby, asInt, asIntOf, hw, hneg, h48i, Builtin.lenOf, hs, hroom, hzc, Value.cells, h48', h63', Question.forced]
    congr 1
    funext a w'
    split
    · rename_i h0
      subst h0
      simp [hz0]
    · rfl
/-- Zeros appended to a row of bytes. -/
theorem wpList_append_zeros_st {e : TypeId} {v : Value} {n : Nat} {xs : List Value} (H : St w0 w M (er e 1 v n xs :: F)) (hgd : op.guard = none) (s x : Operand) (t tn u : TypeId) (kq kn : IntKind) (ho : op.op = .call { callee := .builtin .append, args := #[s, x], argTypes := #[t, tn] })
    (i5 : (P.info? e).map (fun i => (i.zero, i.size, i.bytes)) = some (some (.int .u8 0), 1, 1)) (ht : P.underlying t = some (.slice e)) (htn : P.underlying tn = some (.int kn)) (hu : P.underlying u = some .string) (hs : a.eval s = v) (k : Nat) (hx : a.eval x = .int kq (k : Int))
    (hb : n + k ≤ 140737488355328) (h : ∀ v' w', St w0 w' M (er e 1 v' (n + k) (xs ++ bv (List.replicate k 0)) :: F) → wpList P ops Q rest (a.put op.dst v') w') : wpList P ops Q (op :: rest) a w := by
  obtain ⟨i0, hi, hz0, hz1, hz2⟩ := info_parts i5
  obtain ⟨A, c, rfl, hc⟩ := H.shape 0 rfl
  refine wpList_plain hgd fun K hK => ?_
  obtain ⟨v', w', hr, hH⟩ := append_str_run (P := P) (ty := op.type) H i5 ht hu (List.replicate k 0) (by simpa using hb)
  rw [← run_append_zeros_str (kq := kq) ht htn hu hi hz0 hz1 hz2 A n c k hb w] at hr
  unfold Oper.wp execOp
  simp only [ho, resolve, invoke, builtin, Sem.run_bind, Sem.run_pure, Result.andThen_ok, List.map_toArray, List.map_cons, List.map_nil, hs, hx, hr]
  rw [List.length_replicate] at hH
  exact hK _ _ (h v' w' hH)
end
end Go.Proofs.YtepgmebklhemgaaGreatDoor
