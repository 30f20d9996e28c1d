/- Structs and arrays with parts of many cells: built, sliced, their fields. No program is in sight. -/
import Derived.Test.YtpomjaidaignpaaWd
import Derived.Laws.CopyOwn
set_option linter.unusedVariables false
set_option linter.unusedSimpArgs false
namespace Go.Proofs.Ytpomjaidaignpaa.Wd
open Go.RowKit
section
variable {P : Program}
/-- Where a struct's fields lie, and how many cells each has. -/
def placesL (P : Program) : List Field → Option (List (Nat × Nat))
  | [] => some []
  | f :: r => match (P.info? f.type).map (·.size), placesL P r with
    | some n, some l => some ((f.offset, n) :: l)
    | _, _ => none
def placesOf (P : Program) (t : TypeId) : Option (List (Nat × Nat)) := match P.underlying t with
  | some (.struct fs) => placesL P fs.toList
  | _ => none
theorem run_places : ∀ (fs : List Field) (l : List (Nat × Nat)) (w : World), placesL P fs = some l → (fs.mapM fun f => (do pure (f.offset, ← sizeOf f.type) : Sem (Nat × Nat))).run P w = .ok l w
  | [], l, w, h => by
    simp only [placesL, Option.some.injEq] at h
    subst h
    rfl
  | f :: r, l, w, h => by
    simp only [placesL] at h
    split at h
    · rename_i n l' hn hl
      simp only [Option.some.injEq] at h
      subst h
      have ih := run_places r l' w hl
      cases hq : P.info? f.type with
      | none => simp [hq] at hn
      | some i =>
        have hs : i.size = n := by simpa [hq] using hn
        rw [List.mapM_cons, Sem.run_bind, Sem.run_bind]
        have h1 : (sizeOf f.type).run P w = .ok n w := by simp [sizeOf, typeInfo, hq, hs]
        rw [h1]
        simp only [Result.andThen_ok, Sem.run_pure, Sem.run_bind]
        rw [ih]
        rfl
    · cases h
/-- A part laid over cells. -/
theorem fold_splice (v : List Value) : ∀ (off k : Nat) (cs : Array Value), off + k + v.length ≤ cs.size →
    (v.toArray.zipIdx k).foldl (fun cs (c, j) => cs.setIfInBounds (off + j) c) cs = (ins cs.toList (off + k) v).toArray := by
  induction v with
  | nil =>
    intro off k cs _
    have e : (([] : List Value).toArray.zipIdx k) = #[] := by simp
    rw [e]
    simp [ins]
  | cons x v ih =>
    intro off k cs hl
    have e : ((x :: v).toArray.zipIdx k) = #[(x, k)] ++ v.toArray.zipIdx (k + 1) := by
      apply Array.ext'
      simp [List.zipIdx_cons]
    rw [e, Array.foldl_append]
    have h1 := ih off (k + 1) (cs.setIfInBounds (off + k) x) (by simp at hl ⊢; omega)
    simp only [List.foldl_toArray', List.foldl_cons, List.foldl_nil]
    refine h1.trans ?_
    apply congrArg List.toArray
    simp only [List.length_cons] at hl
    unfold ins
    apply List.ext_getElem?
    intro j
    simp only [Array.toList_setIfInBounds, List.getElem?_append, List.getElem?_take, List.getElem?_drop, List.getElem?_set, List.length_append, List.length_take, List.length_set, List.length_cons, List.getElem?_cons, Array.length_toList]
    rcases Nat.lt_trichotomy j (off + k) with hj | hj | hj <;> grind
theorem fill_step (place : Nat → Option (Nat × Nat)) (cells : Array Value) (i off : Nat) (v : Value) (rest : List (Nat × Value)) (hp : place i = some (off, v.cells.size)) (hl : off + v.cells.size ≤ cells.size) :
    Instr.fill place cells ((i, v) :: rest) = Instr.fill place (ins cells.toList off v.cells.toList).toArray rest := by
  have h := fold_splice v.cells.toList off 0 cells (by simpa using hl)
  simp only [Nat.add_zero] at h
  rw [Instr.fill, hp]
  simp only
  rw [if_neg (by simp; omega), ← h]
/-- 'T{a, b, ..}' whose parts are whatever: its cells, out of 'fill'. -/
theorem run_build {t : TypeId} {z : Value} {n : Nat} {l : List (Nat × Nat)} (hz : (P.info? t).map (fun i => (i.zero, i.size)) = some (some z, n)) (hp : placesOf P t = some l) (parts : Array (Nat × Value)) (cells : Array Value)
    (hf : Instr.fill (l.toArray[·]?) z.cells parts.toList = some cells) (w : World) : (Instr.build t parts).run P w = .ok (.agg cells) w := by
  have h0 := (zero_of_info hz).1 w
  unfold placesOf at hp
  split at hp
  · rename_i fs hu
    have h1 := run_places fs.toList l w hp
    have h2 : (fs.mapM fun f => (do pure (f.offset, ← sizeOf f.type) : Sem (Nat × Nat))).run P w = .ok l.toArray w := by
      rw [Array.mapM_eq_mapM_toList, ← bind_pure_comp, Sem.run_bind, h1]
      rfl
    unfold Instr.build
    rw [Sem.run_bind, h0, Result.andThen_ok, Sem.run_bind, run_underlying hu, Result.andThen_ok]
    simp only
    rw [Sem.run_bind, h2, Result.andThen_ok]
    simp only [hf]
    rfl
  · cases hp
/-- A struct of three parts. -/
theorem run_build3 {t : TypeId} {z : Value} {n n0 n1 n2 : Nat} (hz : (P.info? t).map (fun i => (i.zero, i.size)) = some (some z, n)) (hzs : z.cells.size = n) (hp : placesOf P t = some [(0, n0), (n0, n1), (n0 + n1, n2)]) (hn : n = n0 + n1 + n2)
    (x y u : Value) (hx : x.cells.size = n0) (hy : y.cells.size = n1) (hu : u.cells.size = n2) (w : World) :
    (Instr.build t #[(0, x), (1, y), (2, u)]).run P w = .ok (.agg (x.cells.toList ++ y.cells.toList ++ u.cells.toList).toArray) w := by
  refine run_build hz hp _ _ ?_ w
  subst hx hy hu
  rw [fill_step _ _ 0 0 x _ rfl (by omega)]
  rw [fill_step _ _ 1 _ y _ rfl (by simp [ins]; omega)]
  rw [fill_step _ _ 2 _ u _ rfl (by simp [ins]; omega)]
  simp only [Instr.fill, Option.some.injEq]
  congr 1
  have hl : z.cells.toList.length = x.cells.toList.length + y.cells.toList.length + u.cells.toList.length := by simp; omega
  generalize z.cells.toList = Z at hl
  rw [show x.cells.size = x.cells.toList.length from by simp, show y.cells.size = y.cells.toList.length from by simp]
  generalize x.cells.toList = X at hl ⊢
  generalize y.cells.toList = Y at hl ⊢
  generalize u.cells.toList = U at hl ⊢
  unfold ins
  apply List.ext_getElem?
  intro j
  simp only [List.getElem?_append, List.getElem?_take, List.getElem?_drop, List.length_append, List.length_take, List.length_drop]
  grind
/-- A slice as an array's place. -/
theorem arrayAt_ok {t e : TypeId} {n : Nat} (hu : P.underlying t = some (.array n e)) (A : Option Addr) (len c : Nat) (h : n ≤ len) (w : World) : (Instr.arrayAt t (.slice A len c)).run P w = .ok (.pointer A) w := by
  have h' : ¬ len < n := by omega
  simp [Instr.arrayAt, run_underlying hu, h']
end
section
variable {P : Program} {ops : Array Oper} {rest : List Oper} {op : Oper} {a : Act} {w : World} {Q : Exit → Act → World → Prop}
theorem blk_setRow {w : World} {g : Nat} {t : TypeId} {cur : List Value} (h : Blk w g t cur) (cs : List Value) : Blk (w.setRow g cs.toArray) g t cs := setRow_heap w g _ _ t _ h
theorem keeps_setRow {w w0 : World} {S : Nat → Prop} (h : Keeps w0 w S) {g : Nat} (hg : S g ∨ w0.heap.size ≤ g) (cs : Array Value) : Keeps w0 (w.setRow g cs) S :=
  h.trans (S' := fun i => i = g) ⟨rfl, rfl, rfl, by simp [World.setRow], fun k _ hn => setRow_other w g k cs hn⟩ fun i hi => by subst hi; exact hg
/-- copy into a block that is known whole: the world behind it is a letter. -/
theorem wpList_copy_blk (hgd : op.guard = none) (d s : Operand) (dT sT : TypeId) (ho : op.op = .call { callee := .builtin .copy, args := #[d, s], argTypes := #[dT, sT] }) (elem : TypeId) (hu : P.underlying dT = some (.slice elem)) (hsz : (P.info? elem).map (·.size) = some 1)
    (g off dLen dCap : Nat) (sp : Option Addr) (sLen sCap : Nat) (hd : a.eval d = .slice (some ⟨g, off, none⟩) dLen dCap) (hs : a.eval s = .slice sp sLen sCap) (cur : List Value) (t : TypeId) (hg : Blk w g t cur) (cs : List Value) (hn : cs.length = Nat.min sLen dLen)
    (hsrc : 0 < cs.length → ∃ ad, sp = some ad ∧ ∀ j v, cs[j]? = some v → w.cell? (ad.add j) = some v) (hfit : off + cs.length ≤ cur.length) (h1 : ∀ v ∈ cs, v.oneCell' = true)
    (h : ∀ w', Blk w' g t (ins cur off cs) → Keeps w w' (· = g) → w'.heap.size = w.heap.size → wpList P ops Q rest (a.put op.dst (goInt cs.length)) w') : wpList P ops Q (op :: rest) a w := by
  by_cases h0 : cs.length = 0
  · obtain rfl : cs = [] := List.eq_nil_of_length_eq_zero h0
    refine wpList_copy_nothing hgd d s dT sT ho elem hu hsz _ sp dLen dCap sLen sCap hd hs (by simpa using hn.symm) ?_
    exact h w (by simpa [ins] using hg) (Keeps.refl _ _) rfl
  · obtain ⟨ad, rfl, hsrc2⟩ := hsrc (by omega)
    refine wpList_copy_own hgd d s dT sT ho elem hu hsz g off dLen dCap ad sLen sCap hd hs cur.toArray t hg cs hn hsrc2 (by simpa using hfit) h1 ?_
    refine h _ ?_ (keeps_setRow (Keeps.refl w (· = g)) (.inl rfl) _) (by simp [World.setRow])
    have := blk_setRow hg (ins cur off cs)
    simpa [ins] using this
/-- A whole array stored into the midst of a block that is known whole. -/
theorem wpList_store_blk (hgd : op.guard = none) (ty : TypeId) (x y : Operand) (ho : op.op = .store ty x y) (b o : Nat) (cs : List Value) (hx : a.eval x = .pointer (some ⟨b, o, none⟩)) (hy : a.eval y = .agg cs.toArray)
    (t : TypeId) (cur : List Value) (hb : Blk w b t cur) (hfit : o + cs.length ≤ cur.length) (hi : (P.info? ty).map (·.size) = some cs.length) (h1 : ∀ v ∈ cs, v.oneCell' = true)
    (h : ∀ w', Blk w' b t (ins cur o cs) → Keeps w w' (· = b) → w'.heap.size = w.heap.size → wpList P ops Q rest (a.put op.dst undef) w') : wpList P ops Q (op :: rest) a w := by
  refine wpList_store_mid hgd ty x y ho b o cs.toArray hx hy (fun j hj => ?_) (by simpa using hi) (all_oneCell_toArray h1) ?_
  · rw [hb.cell, hb.frozen]
    simp only [List.size_toArray] at hj
    rw [List.getElem?_eq_getElem (by omega)]
    exact ⟨rfl, rfl⟩
  · exact h _ (by simpa using hb.setCells o cs hfit) (by simpa using (Keeps.refl w (· = b)).setCells (.inl rfl) o cs) (size_setCells _ _ _ _)
/-- A new variable whose zero value is known: the world behind it is a letter. -/
theorem wpList_alloc_blk (hgd : op.guard = none) (t : TypeId) (ho : op.op = .alloc t) {z : Value} {m : Nat} (hz : (P.info? t).map (fun i => (i.zero, i.size)) = some (some z, m))
    (h : ∀ w', Blk w' w.heap.size t z.cells.toList → Below w.heap.size w w' → w'.heap.size = w.heap.size + 1 → wpList P ops Q rest (a.put op.dst (.pointer (some ⟨w.heap.size, 0, none⟩))) w') : wpList P ops Q (op :: rest) a w :=
  wpList_alloc_z hgd t ho hz (h _ (by simpa using Blk.new w t z.cells.toList) ((Below.refl _ _).alloc (Nat.le_refl _) _) (by simp))
end
section
variable {P : Program} {ops : Array Oper} {rest : List Oper} {op : Oper} {a : Act} {w : World} {Q : Exit → Act → World → Prop}
/-- '[]T{x}' whose element is whatever. -/
theorem run_buildSlice_one {t e : TypeId} {z : Value} {n : Nat} (hu : P.underlying t = some (.slice e)) (hz : (P.info? e).map (fun i => (i.zero, i.size)) = some (some z, n)) (hzs : z.cells.size = n) (hn : 0 < n) (hn2 : n ≤ 16777216) (v : Value) (hv : v.cells.size = n) (w : World) :
    (Instr.buildSlice t 1 #[(0, v)]).run P w = .ok (.slice (some ⟨w.heap.size, 0, none⟩) 1 1) (w.alloc (.cells v.cells e)) := by
  have h0 := (zero_of_info hz).1 w
  have hs : (sizeOf e).run P w = .ok n w := by
    have := (zero_of_info hz).2
    cases hq : P.info? e with
    | none => simp [hq] at this
    | some i =>
      have hi : i.size = n := by simpa [hq] using this
      simp [sizeOf, typeInfo, hq, hi]
  have hf : Instr.fill (fun i => some (i * n, n)) ((Array.range (1 * n)).map (z.cells[· % z.cells.size]!)) [(0, v)] = some v.cells := by
    rw [fill_step _ _ 0 0 v _ (by simp [hv]) (by simp [hv])]
    simp only [Instr.fill, Option.some.injEq]
    apply Array.ext'
    simp only [List.toList_toArray]
    unfold ins
    simp [hv]
  unfold Instr.buildSlice
  rw [Sem.run_bind, run_underlying hu, Result.andThen_ok]
  simp only
  rw [Sem.run_bind, hs, Result.andThen_ok, if_neg (by omega), if_neg (by omega), Sem.run_bind, h0, Result.andThen_ok, Sem.run_bind, Sem.run_pure, Result.andThen_ok]
  simp only [hf]
  rfl
theorem wpList_buildSlice_blk (hgd : op.guard = none) (t : TypeId) (x : Operand) (ho : op.op = .buildSlice t 1 #[(0, x)]) {e : TypeId} {z : Value} {n : Nat} (hu : P.underlying t = some (.slice e)) (hz : (P.info? e).map (fun i => (i.zero, i.size)) = some (some z, n)) (hzs : z.cells.size = n) (hn : 0 < n) (hn2 : n ≤ 16777216)
    (cs : List Value) (hx : a.eval x = .agg cs.toArray) (hl : cs.length = n)
    (h : ∀ w', Blk w' w.heap.size e cs → Below w.heap.size w w' → w'.heap.size = w.heap.size + 1 → wpList P ops Q rest (a.put op.dst (.slice (some ⟨w.heap.size, 0, none⟩) 1 1)) w') : wpList P ops Q (op :: rest) a w :=
  wpList_plain hgd fun K hK => by
    have hrun := run_buildSlice_one hu hz hzs hn hn2 (.agg cs.toArray) (by simpa [Value.cells] using hl) w
    unfold Oper.wp execOp
    simp only [ho, List.map_toArray, List.map_cons, List.map_nil, hx, Sem.run_bind, hrun, Result.andThen_ok]
    exact hK _ _ (h _ (by simpa [Value.cells] using Blk.new w e cs) ((Below.refl _ _).alloc (Nat.le_refl _) _) (by simp))
end
theorem own_none {w : World} {base n c : Nat} {e : TypeId} {size : Nat} {A : Option Addr} {xs : List Value} (h : w.ownsRow base e size (.slice A n c) n xs) (hA : A = none) : n = 0 := by
  subst hA
  rcases h.2 with ⟨_, h0⟩ | ⟨g, cap, cur, hv, _⟩
  · exact h0
  · cases hv
theorem own_holds {w : World} {base n c : Nat} {e : TypeId} {size : Nat} {A : Option Addr} {xs : List Value} (h : w.ownsRow base e size (.slice A n c) n xs) : ∀ b, A = some b → ∀ j u, xs[j]? = some u → w.cell? (b.add j) = some u := by
  intro b hA j u hu
  subst hA
  have hc := h.cells (g := b.block) rfl j u hu
  rcases h.2 with ⟨hv, _⟩ | ⟨g, cap, cur, hv, _⟩
  · cases hv
  · injection hv with hv _ _
    injection hv with hv
    subst hv
    exact hc
theorem Keeps.of_grown {w w' : World} {row : Option Nat} (h : w.grownBy w' row) : Keeps w w' (fun k => row = some k) := ⟨h.os, h.tape, h.output, h.size, fun k hk hn => h.block k hk fun e => hn e.symm⟩
theorem ins_all (l m : List Value) (h : m.length = l.length) : ins l 0 m = m := by
  unfold ins
  rw [List.take_zero, List.nil_append, Nat.zero_add, h, List.drop_length, List.append_nil]
end Go.Proofs.Ytpomjaidaignpaa.Wd
