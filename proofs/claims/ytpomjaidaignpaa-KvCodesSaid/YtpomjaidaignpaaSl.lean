/- Memory as ONE fact: 'St w0 w M L': below the old heap's end w is as w0 was; what M tells of blocks is so and stays so (old memory, and what was laid and is never written again); each entry of L holds; no two share a block, nor one of M's. No program is in sight. -/
import Derived.Test.YtpomjaidaignpaaWd
import Derived.Test.YtpomjaidaignpaaSt
import Derived.Test.YtpomjaidaignpaaAp
set_option linter.unusedVariables false
set_option linter.unusedSimpArgs false
namespace Go.Proofs.Ytpomjaidaignpaa.Wd
open Go.RowKit

/-- Memory that is never written: what some blocks hold. -/
abbrev Mem := Nat → Option Obj
def Mem.le (M M' : Mem) : Prop := ∀ g o, M g = some o → M' g = some o
theorem Mem.le.refl (M : Mem) : M.le M := fun _ _ h => h
theorem Mem.le.trans {M M' M'' : Mem} (h : M.le M') (k : M'.le M'') : M.le M'' := fun g o hg => k g o (h g o hg)
def Agr (M : Mem) (w : World) : Prop := ∀ g o, M g = some o → w.heap[g]? = some o
theorem Agr.le {M M' : Mem} {w : World} (h : Agr M' w) (hm : M.le M') : Agr M w := fun g o hg => h g o (hm g o hg)
/-- What is said of one block (or, where there is none, of no memory at all). -/
structure Ent where
  foot : Option Nat
  prop : Option Obj → Prop
def Ent.holds (e : Ent) (M : Mem) (w : World) : Prop :=
  match e.foot with
  | none => e.prop none
  | some g => M g = none ∧ g < w.heap.size ∧ e.prop w.heap[g]?
def Ent.off (a b : Ent) : Prop := ∀ g, a.foot = some g → b.foot ≠ some g
theorem Ent.off.symm {a b : Ent} (h : a.off b) : b.off a := fun g hb ha => h g ha hb
structure St (w0 w : World) (M : Mem) (L : List Ent) : Prop where
  below : Below w0.heap.size w0 w
  old : ∀ g, g < w0.heap.size → M g = w0.heap[g]?
  agr : Agr M w
  holds : ∀ e ∈ L, e.holds M w
  apart : L.Pairwise Ent.off

/-- Block g is just these cells. -/
def eb (g : Nat) (t : TypeId) (cs : List Value) : Ent := ⟨some g, fun o => o = some (.cells cs.toArray t (0, 0))⟩
def RowP (e : TypeId) (size : Nat) (v : Value) (n : Nat) (xs : List Value) (o : Option Obj) : Prop :=
  xs.length = n * size ∧ ((v = .slice none 0 0 ∧ n = 0) ∨ ∃ g cap cur, v = .slice (some ⟨g, 0, none⟩) n cap ∧ o = some (.cells cur e (0, 0)) ∧ n ≤ cap ∧ cap ≤ maxLen ∧ cur.size = cap * size ∧ cur.toList.take (n * size) = xs)
/-- The slice v owns the cells xs. -/
def er (e : TypeId) (size : Nat) (v : Value) (n : Nat) (xs : List Value) : Ent := ⟨v.ownBlock, RowP e size v n xs⟩

section
variable {w0 w w' : World} {M M' : Mem} {L L' F : List Ent} {a b c d : Ent} {g : Nat} {t e : TypeId} {sz n : Nat} {v : Value} {cs xs : List Value}
theorem RowP.own {B : Nat} (h : RowP e sz v n xs (v.ownBlock.bind (w.heap[·]?))) (hb : ∀ g, v.ownBlock = some g → B ≤ g) : w.ownsRow B e sz v n xs := by
  obtain ⟨h1, h2⟩ := h
  refine ⟨h1, ?_⟩
  rcases h2 with h2 | ⟨g, cap, cur, rfl, h3⟩
  · exact .inl h2
  · exact .inr ⟨g, cap, cur, rfl, hb g rfl, h3⟩
theorem RowP.of_own {B : Nat} (h : w.ownsRow B e sz v n xs) : RowP e sz v n xs (v.ownBlock.bind (w.heap[·]?)) := by
  obtain ⟨h1, h2⟩ := h
  refine ⟨h1, ?_⟩
  rcases h2 with h2 | ⟨g, cap, cur, rfl, _, h3⟩
  · exact .inl h2
  · exact .inr ⟨g, cap, cur, rfl, h3⟩
theorem Ent.holds_lt (h : a.holds M w) (hf : a.foot = some g) : M g = none ∧ g < w.heap.size := by
  unfold Ent.holds at h
  rw [hf] at h
  exact ⟨h.1, h.2.1⟩
theorem eb_holds : (eb g t cs).holds M w ↔ M g = none ∧ Blk w g t cs :=
  ⟨fun h => ⟨h.1, h.2.2⟩, fun h => ⟨h.1, Blk.lt h.2, h.2⟩⟩
theorem er_bind (h : (er e sz v n xs).holds M w) : RowP e sz v n xs (v.ownBlock.bind (w.heap[·]?)) := by
  unfold Ent.holds er at h
  simp only at h
  split at h
  · rename_i hv; rw [hv]; exact h
  · rename_i hv; rw [hv]; exact h.2.2
theorem er_mk {B : Nat} (h : w.ownsRow B e sz v n xs) (hm : ∀ g, v.ownBlock = some g → M g = none) : (er e sz v n xs).holds M w := by
  have h1 := RowP.of_own h
  unfold Ent.holds er
  simp only
  split
  · rename_i hv; rw [hv] at h1; exact h1
  · rename_i g hv; rw [hv] at h1; exact ⟨hm g hv, (h.lt g hv).2, h1⟩
theorem Ent.holds_same (h : a.holds M w) (hs : w.heap.size ≤ w'.heap.size) (hb : ∀ g, a.foot = some g → w'.heap[g]? = w.heap[g]?) : a.holds M w' := by
  unfold Ent.holds at h ⊢
  cases hf : a.foot with
  | none => rw [hf] at h; exact h
  | some g => rw [hf] at h; exact ⟨h.1, Nat.lt_of_lt_of_le h.2.1 hs, (hb g hf).symm ▸ h.2.2⟩
theorem Ent.holds_mem (h : a.holds M w) (hm : ∀ g, a.foot = some g → M' g = none) : a.holds M' w := by
  unfold Ent.holds at h ⊢
  cases hf : a.foot with
  | none => rw [hf] at h; exact h
  | some g => rw [hf] at h; exact ⟨hm g hf, h.2⟩

theorem St.base (h : St w0 w M L) (hm : M g = none) (hl : g < w.heap.size) : w0.heap.size ≤ g := by
  rcases Nat.lt_or_ge g w0.heap.size with h1 | h1
  · rw [h.old g h1, Array.getElem?_eq_getElem h1] at hm; cases hm
  · exact h1
theorem St.size (h : St w0 w M L) : w0.heap.size ≤ w.heap.size := h.below.size
theorem St.start (w0 : World) : St w0 w0 (w0.heap[·]?) [] := ⟨Below.refl _ _, fun _ _ => rfl, fun _ _ h => h, fun _ h => absurd h (by simp), List.Pairwise.nil⟩
theorem St.drew (h : St w0 w M L) : St w0 w.drew M L := ⟨h.below.drew, h.old, h.agr, fun e he => Ent.holds_same (h.holds e he) (Nat.le_refl _) fun _ _ => rfl, h.apart⟩
theorem St.drewN (h : St w0 w M L) (n : Nat) : St w0 (w.drewN n) M L := ⟨below_drewN h.below n, h.old, h.agr, fun e he => Ent.holds_same (h.holds e he) (Nat.le_refl _) fun _ _ => rfl, h.apart⟩
theorem St.perm (h : St w0 w M L) (hp : L.Perm L') : St w0 w M L' := ⟨h.below, h.old, h.agr, fun e he => h.holds e (hp.mem_iff.2 he), hp.pairwise h.apart Ent.off.symm⟩
theorem St.sub (h : St w0 w M L) (hs : L'.Sublist L) : St w0 w M L' := ⟨h.below, h.old, h.agr, fun e he => h.holds e (hs.subset he), h.apart.sublist hs⟩
theorem St.f1 (h : St w0 w M (a :: b :: L)) : St w0 w M (b :: a :: L) := h.perm (List.Perm.swap _ _ _)
theorem St.f2 (h : St w0 w M (a :: b :: c :: L)) : St w0 w M (c :: a :: b :: L) := h.perm ((List.Perm.cons a (List.Perm.swap _ _ _)).trans (List.Perm.swap _ _ _))
theorem St.f3 (h : St w0 w M (a :: b :: c :: d :: L)) : St w0 w M (d :: a :: b :: c :: L) := h.perm ((List.Perm.cons a ((List.Perm.cons b (List.Perm.swap _ _ _)).trans (List.Perm.swap _ _ _))).trans (List.Perm.swap _ _ _))
theorem St.f4 {x : Ent} (h : St w0 w M (a :: b :: c :: d :: x :: L)) : St w0 w M (x :: a :: b :: c :: d :: L) :=
  h.perm ((List.Perm.cons a ((List.Perm.cons b ((List.Perm.cons c (List.Perm.swap _ _ _)).trans (List.Perm.swap _ _ _))).trans (List.Perm.swap _ _ _))).trans (List.Perm.swap _ _ _))
theorem St.f5 {x y : Ent} (h : St w0 w M (a :: b :: c :: d :: x :: y :: L)) : St w0 w M (y :: a :: b :: c :: d :: x :: L) := by
  have h1 : (b :: c :: d :: x :: y :: L).Perm (y :: b :: c :: d :: x :: L) := (List.Perm.cons b ((List.Perm.cons c ((List.Perm.cons d (List.Perm.swap _ _ _)).trans (List.Perm.swap _ _ _))).trans (List.Perm.swap _ _ _))).trans (List.Perm.swap _ _ _)
  exact h.perm ((List.Perm.cons a h1).trans (List.Perm.swap _ _ _))
/-- The first entry back behind 2, 3 others. -/
theorem St.b2 (h : St w0 w M (c :: a :: b :: L)) : St w0 w M (a :: b :: c :: L) := h.perm ((List.Perm.swap _ _ _).trans (List.Perm.cons a (List.Perm.swap _ _ _)))
theorem St.b3 (h : St w0 w M (d :: a :: b :: c :: L)) : St w0 w M (a :: b :: c :: d :: L) := h.perm ((List.Perm.swap _ _ _).trans (List.Perm.cons a ((List.Perm.swap _ _ _).trans (List.Perm.cons b (List.Perm.swap _ _ _)))))
theorem St.d0 (h : St w0 w M (a :: L)) : St w0 w M L := h.sub (List.sublist_cons_self _ _)
theorem St.d1 (h : St w0 w M (a :: b :: L)) : St w0 w M (a :: L) := h.f1.d0
theorem St.get (h : St w0 w M L) (i : Nat) (hi : L[i]? = some a) : a.holds M w := h.holds a (List.mem_of_getElem? hi)
theorem St.blk (h : St w0 w M L) (i : Nat) (hi : L[i]? = some (eb g t cs)) : Blk w g t cs := (eb_holds.1 (h.get i hi)).2
theorem St.blkm (h : St w0 w M L) (hi : eb g t cs ∈ L) : Blk w g t cs := (eb_holds.1 (h.holds _ hi)).2
theorem St.ownOf (h : St w0 w M L) (hi : (er e sz v n xs).holds M w) : w.ownsRow w0.heap.size e sz v n xs :=
  RowP.own (er_bind hi) fun g hg => by
    have h1 := Ent.holds_lt hi (g := g) hg
    exact h.base h1.1 h1.2
theorem St.own (h : St w0 w M L) (i : Nat) (hi : L[i]? = some (er e sz v n xs)) : w.ownsRow w0.heap.size e sz v n xs := h.ownOf (h.get i hi)
theorem St.ownm (h : St w0 w M L) (hi : er e sz v n xs ∈ L) : w.ownsRow w0.heap.size e sz v n xs := h.ownOf (h.holds _ hi)
theorem St.cell (h : St w0 w M L) (i : Nat) (hi : L[i]? = some (eb g t cs)) (o : Nat) : w.cell? ⟨g, o, none⟩ = cs[o]? := (h.blk i hi).cell o
theorem St.frozen (h : St w0 w M L) (i : Nat) (hi : L[i]? = some (eb g t cs)) (o : Nat) : w.frozen? ⟨g, o, none⟩ = false := (h.blk i hi).frozen o
theorem St.shape (h : St w0 w M L) (i : Nat) (hi : L[i]? = some (er e sz v n xs)) : ∃ A c, v = .slice A n c ∧ n ≤ c := own_slice (h.own i hi)
theorem St.shape' (h : St w0 w M L) (i : Nat) (hi : L[i]? = some (er e sz v n xs)) : ∃ A c, v = .slice A n c ∧ n ≤ c ∧ (A = none → c = 0) := by
  have ho := h.own i hi
  rcases ho.2 with ⟨rfl, rfl⟩ | ⟨g, cap, cur, rfl, _, _, hc, _⟩
  · exact ⟨_, _, rfl, Nat.le_refl _, fun _ => rfl⟩
  · exact ⟨_, _, rfl, hc, fun h => by cases h⟩
theorem St.len (h : St w0 w M L) (i : Nat) (hi : L[i]? = some (er e sz v n xs)) : xs.length = n * sz := (h.own i hi).1
theorem St.lt (h : St w0 w M L) (i : Nat) (hi : L[i]? = some (eb g t cs)) : g < w.heap.size := (h.blk i hi).lt
theorem agr_lt (h : Agr M w) {o : Obj} (hm : M g = some o) : g < w.heap.size := (Array.getElem?_eq_some_iff.1 (h g o hm)).1

theorem St.ne_ {g' : Nat} {t' : TypeId} {cs' : List Value} (h : St w0 w M L) (i j : Nat) (hi : L[i]? = some (eb g t cs)) (hj : L[j]? = some (eb g' t' cs')) (hij : i < j) : g ≠ g' := by
  rintro rfl
  obtain ⟨hi1, hi2⟩ := List.getElem?_eq_some_iff.1 hi
  obtain ⟨hj1, hj2⟩ := List.getElem?_eq_some_iff.1 hj
  have h1 := List.pairwise_iff_getElem.1 h.apart i j hi1 hj1 hij
  rw [hi2, hj2] at h1
  exact h1 g rfl rfl
/-- A step that turns none of L's blocks, nor M's. -/
theorem St.keep (h : St w0 w M L) {S : Nat → Prop} (k : Keeps w w' S) (hn : ∀ e ∈ L, ∀ g, e.foot = some g → ¬ S g) (h0 : ∀ g, S g → M g = none) : St w0 w' M L :=
  ⟨(Below.trans h.below ⟨k.os, k.tape, k.output, k.size, fun i hi => k.block i (Nat.lt_of_lt_of_le hi h.size) fun hs => by
      have h1 := h0 i hs; rw [h.old i hi, Array.getElem?_eq_getElem hi] at h1; cases h1⟩), h.old,
   fun g o hg => (k.block g (agr_lt h.agr hg) fun hs => by have h1 := h0 g hs; rw [hg] at h1; cases h1).trans (h.agr g o hg),
   fun e he => Ent.holds_same (h.holds e he) k.size fun g hg => k.block g (Ent.holds_lt (h.holds e he) hg).2 (hn e he g hg), h.apart⟩
theorem St.belowK (h : St w0 w M L) (k : Below w.heap.size w w') : St w0 w' M L := h.keep (Keeps.of_below k fun _ => False) (fun _ _ _ _ hf => hf) (fun _ hf => hf.elim)
theorem St.fresh (h : St w0 w M L) (hg : w.heap.size ≤ g) : M g = none := by
  cases hm : M g with
  | none => rfl
  | some o => have := agr_lt h.agr hm; omega
/-- A new entry, of what lay beyond all. -/
theorem St.add (h : St w0 w M L) (k : Below w.heap.size w w') (ha : a.holds M w') (hf : ∀ g, a.foot = some g → w.heap.size ≤ g) : St w0 w' M (a :: L) := by
  have h' := h.belowK k
  refine ⟨h'.below, h'.old, h'.agr, ?_, List.Pairwise.cons ?_ h.apart⟩
  · intro e he
    rcases List.mem_cons.1 he with rfl | he
    · exact ha
    · exact h'.holds e he
  · intro e he g hg hg'
    have h1 := hf g hg
    have h2 := (Ent.holds_lt (h.holds e he) hg').2
    omega
theorem St.addRow (h : St w0 w M L) (k : Below w.heap.size w w') (ha : w'.ownsRow w.heap.size e sz v n xs) : St w0 w' M (er e sz v n xs :: L) :=
  h.add k (er_mk ha fun g hg => h.fresh (ha.lt g hg).1) fun g hg => (ha.lt g hg).1
theorem St.addBlk (h : St w0 w M L) (k : Below w.heap.size w w') (ha : Blk w' g t cs) (hg : w.heap.size ≤ g) : St w0 w' M (eb g t cs :: L) :=
  h.add k (eb_holds.2 ⟨h.fresh hg, ha⟩) fun g' hg' => by have : some g = some g' := hg'; injection this with this; omega
theorem St.addNil (h : St w0 w M L) (e : TypeId) (sz : Nat) : St w0 w M (er e sz (.slice none 0 0) 0 [] :: L) := h.addRow (Below.refl _ _) (World.ownsRow_nil _ _ _ _)
theorem St.alloc (h : St w0 w M L) (o : Obj) : St w0 (w.alloc o) M L := h.belowK ((Below.refl _ _).alloc (Nat.le_refl _) o)
theorem St.new (h : St w0 w M L) (cs : List Value) (t : TypeId) : St w0 (w.alloc (.cells cs.toArray t)) M (eb w.heap.size t cs :: L) := h.addBlk ((Below.refl _ _).alloc (Nat.le_refl _) _) (Blk.new w t cs) (Nat.le_refl _)
theorem St.newg (h : St w0 w M L) (cs : List Value) (t : TypeId) {g : Nat} (hg : g = w.heap.size) : St w0 (w.alloc (.cells cs.toArray t)) M (eb g t cs :: L) := by subst hg; exact h.new cs t
theorem St.lit (h : St w0 w M L) (cs : List Value) (t : TypeId) (hm : cs.length ≤ maxLen) : St w0 (w.alloc (.cells cs.toArray t)) M (er t 1 (.slice (some ⟨w.heap.size, 0, none⟩) cs.length cs.length) cs.length cs :: L) := by
  have h1 := World.ownsRow_lit (base := w.heap.size) (e := t) (size := 1) w cs.toArray cs.length (Nat.le_refl _) hm (by simp)
  exact h.addRow ((Below.refl _ _).alloc (Nat.le_refl _) _) (by simpa using h1)
theorem St.lit00 (h : St w0 w M L) (t : TypeId) (sz : Nat) : St w0 (w.alloc (.cells #[] t)) M (er t sz (.slice (some ⟨w.heap.size, 0, none⟩) 0 0) 0 [] :: L) := by
  have h1 := World.ownsRow_lit (base := w.heap.size) (e := t) (size := sz) w #[] 0 (Nat.le_refl _) (Nat.zero_le _) (by simp)
  exact h.addRow ((Below.refl _ _).alloc (Nat.le_refl _) _) (by simpa using h1)
theorem St.lit0 (h : St w0 w M L) (t : TypeId) : St w0 (w.alloc (.cells #[] t)) M (er t 1 (.slice (some ⟨w.heap.size, 0, none⟩) 0 0) 0 [] :: L) := h.lit [] t (Nat.zero_le _)
/-- The first entry turns; no other block. -/
theorem St.turn (h : St w0 w M (a :: L)) (k : Keeps w w' (fun k => a.foot = some k)) (hb : b.holds M w') (hf : ∀ g, b.foot = some g → a.foot = some g ∨ w.heap.size ≤ g) : St w0 w' M (b :: L) := by
  have hL := List.pairwise_cons.1 h.apart
  have h' := h.d0.keep k (fun e he g hg hg' => hL.1 e he g hg' hg) (fun g hg => (Ent.holds_lt (h.holds a (by simp)) hg).1)
  refine ⟨h'.below, h'.old, h'.agr, ?_, List.Pairwise.cons ?_ hL.2⟩
  · intro e he
    rcases List.mem_cons.1 he with rfl | he
    · exact hb
    · exact h'.holds e he
  · intro e he g hg hg'
    rcases hf g hg with h1 | h1
    · exact hL.1 e he g h1 hg'
    · have h2 := (Ent.holds_lt (h.holds e (List.mem_cons_of_mem _ he)) hg').2
      omega
theorem St.set (h : St w0 w M (eb g t cs :: L)) (i : Nat) (u : Value) : St w0 (w.setCell ⟨g, i, none⟩ u) M (eb g t (cs.set i u) :: L) :=
  h.turn ((Keeps.refl w (fun k => (eb g t cs).foot = some k)).setCell (p := ⟨g, i, none⟩) (.inl rfl) u) (eb_holds.2 ⟨(eb_holds.1 (h.get 0 rfl)).1, (h.blk 0 rfl).set_ i u⟩) (fun _ h => .inl h)
theorem St.turnBlk (h : St w0 w M (eb g t cs :: L)) {cs' : List Value} (k : Keeps w w' (· = g)) (hb : Blk w' g t cs') : St w0 w' M (eb g t cs' :: L) :=
  h.turn (k.imp fun j _ hj => by subst hj; rfl) (eb_holds.2 ⟨(eb_holds.1 (h.get 0 rfl)).1, hb⟩) (fun _ h => .inl h)
theorem St.turnRow {n' : Nat} {v' : Value} {xs' : List Value} (h : St w0 w M (er e sz v n xs :: L)) (hg : w.grownBy w' v.ownBlock) (hv : v'.ownBlock = v.ownBlock ∨ v'.ownBlock = some w.heap.size) (ho : w'.ownsRow w0.heap.size e sz v' n' xs') : St w0 w' M (er e sz v' n' xs' :: L) := by
  have hcase : ∀ g, v'.ownBlock = some g → v.ownBlock = some g ∨ w.heap.size ≤ g := fun g hg' => by
    rcases hv with h1 | h1
    · exact .inl (h1.symm.trans hg')
    · rw [h1] at hg'
      injection hg' with hg'
      exact .inr (by omega)
  refine h.turn ⟨hg.os, hg.tape, hg.output, hg.size, fun k hk hn => hg.block k hk fun he => hn he.symm⟩ (er_mk ho fun g hg' => ?_) hcase
  rcases hcase g hg' with h1 | h1
  · exact (Ent.holds_lt (h.get 0 rfl) h1).1
  · exact h.fresh h1
/-- A store into an owned row. -/
theorem St.store {cap : Nat} (h : St w0 w M (er e 1 (.slice (some ⟨g, 0, none⟩) n cap) n xs :: L)) (i : Nat) (u : Value) : St w0 (w.setCell ⟨g, i, none⟩ u) M (er e 1 (.slice (some ⟨g, 0, none⟩) n cap) n (xs.set i u) :: L) := by
  have h1 := (h.own 0 rfl).stored i u
  exact h.turnRow h1.2 (.inl rfl) h1.1

/-! ### What is never written again -/
/-- Whatever world agrees with M: P holds in it. -/
def In (M : Mem) (P : World → Prop) : Prop := ∀ W, Agr M W → P W
theorem In.le {P : World → Prop} (h : In M P) (hm : M.le M') : In M' P := fun W hW => h W (hW.le hm)
theorem In.now {P : World → Prop} (h : In M P) (H : St w0 w M L) : P w := h w H.agr
theorem In.imp {P Q : World → Prop} (h : In M P) (hi : ∀ W, P W → Q W) : In M Q := fun W hW => hi W (h W hW)
theorem In.oldBlk (H : St w0 w M L) (hb : Blk w0 g t cs) : In M fun W => Blk W g t cs := fun W hW => hW g _ ((H.old g hb.lt).trans hb)
theorem In.oldRB (H : St w0 w M L) {A : Option Addr} {l : List UInt8} (hb : RB w0 A l) : In M fun W => RB W A l := fun W hW hl => by
  obtain ⟨b, o, rfl, hlt, hr⟩ := hb hl
  have he : W.heap[b]? = w0.heap[b]? := by
    have h1 := H.old b hlt
    rw [Array.getElem?_eq_getElem hlt] at h1 ⊢
    exact hW b _ h1
  refine ⟨b, o, rfl, ?_, fun j v hj => (World.cell?_of_block (w := w0) he).trans (hr j v hj)⟩
  rw [Array.getElem?_eq_getElem hlt] at he
  exact (Array.getElem?_eq_some_iff.1 he).1
theorem In.oldCell (H : St w0 w M L) {p : Addr} {v : Value} (hc : w0.cell? p = some v) : In M fun W => W.cell? p = some v := fun W hW => by
  have hlt := World.block_lt_of_cell? w0 p hc
  have he : W.heap[p.block]? = w0.heap[p.block]? := by
    have h1 := H.old p.block hlt
    rw [Array.getElem?_eq_getElem hlt] at h1 ⊢
    exact hW p.block _ h1
  exact (World.cell?_of_block (w := w0) he).trans hc
/-- M and, of block g, what w holds there. -/
def Mem.with (M : Mem) (g : Nat) (w : World) : Mem := fun i => if i = g then w.heap[g]? else M i
theorem St.with_ (h : St w0 w M L) (hg : M g = none) (hl : g < w.heap.size) (hn : ∀ e ∈ L, e.foot ≠ some g) : St w0 w (M.with g w) L ∧ M.le (M.with g w) := by
  refine ⟨⟨h.below, fun i hi => ?_, fun i o hi => ?_, fun e he => Ent.holds_mem (h.holds e he) fun i hi => ?_, h.apart⟩, fun i o hi => ?_⟩
  · unfold Mem.with
    split
    · rename_i hig; subst hig; rw [← h.old i hi, hg] ; have h1 := h.old i hi; rw [hg, Array.getElem?_eq_getElem hi] at h1; cases h1
    · exact h.old i hi
  · unfold Mem.with at hi
    split at hi
    · rename_i hig; subst hig; exact hi
    · exact h.agr i o hi
  · unfold Mem.with
    split
    · rename_i hig; subst hig; exact absurd hi (hn e he)
    · exact (Ent.holds_lt (h.holds e he) hi).1
  · unfold Mem.with
    split
    · rename_i hig; subst hig; rw [hg] at hi; cases hi
    · exact hi
/-- Lent: the first entry is never written while it is part of M; it comes back as it was. -/
theorem St.lend (h : St w0 w M (a :: L)) : ∃ M', M.le M' ∧ St w0 w M' L ∧ (In M' fun W => a.holds (fun _ => none) W) ∧ ∀ w' L', St w0 w' M' L' → St w0 w' M (a :: L') := by
  have ha := h.get 0 rfl
  have hL := List.pairwise_cons.1 h.apart
  cases hf : a.foot with
  | none =>
    have h0 : a.prop none := by unfold Ent.holds at ha; rw [hf] at ha; exact ha
    refine ⟨M, Mem.le.refl _, h.d0, fun W _ => ?_, fun w' L' h' => ⟨h'.below, h'.old, h'.agr, ?_, List.Pairwise.cons (fun e he g hg => ?_) h'.apart⟩⟩
    · unfold Ent.holds; rw [hf]; exact h0
    · intro e he
      rcases List.mem_cons.1 he with rfl | he
      · unfold Ent.holds; rw [hf]; exact h0
      · exact h'.holds e he
    · rw [hf] at hg; cases hg
  | some g =>
    have h1 : M g = none ∧ g < w.heap.size ∧ a.prop w.heap[g]? := by unfold Ent.holds at ha; rw [hf] at ha; exact ha
    have hw := h.d0.with_ (g := g) h1.1 h1.2.1 fun e he => hL.1 e he g hf
    have hMg : M.with g w g = some w.heap[g] := by unfold Mem.with; rw [if_pos rfl, Array.getElem?_eq_getElem h1.2.1]
    have hsame : ∀ W, Agr (M.with g w) W → W.heap[g]? = w.heap[g]? := fun W hW => by rw [hW g _ hMg, Array.getElem?_eq_getElem h1.2.1]
    have hMM : ∀ i, i ≠ g → M.with g w i = M i := fun i hi => by unfold Mem.with; rw [if_neg hi]
    refine ⟨M.with g w, hw.2, hw.1, fun W hW => ?_, fun w' L' h' => ⟨h'.below, fun i hi => ?_, h'.agr.le hw.2, ?_, List.Pairwise.cons (fun e he i hi hi' => ?_) h'.apart⟩⟩
    · unfold Ent.holds
      rw [hf]
      exact ⟨rfl, agr_lt hW hMg, (hsame W hW).symm ▸ h1.2.2⟩
    · exact h.old i hi
    · intro e he
      rcases List.mem_cons.1 he with rfl | he
      · unfold Ent.holds
        rw [hf]
        exact ⟨h1.1, agr_lt h'.agr hMg, (hsame w' h'.agr).symm ▸ h1.2.2⟩
      · refine Ent.holds_mem (h'.holds e he) fun i hi => ?_
        have h2 := (Ent.holds_lt (h'.holds e he) hi).1
        cases hm : M i with
        | none => rfl
        | some o => have := hw.2 i o hm; rw [h2] at this; cases this
    · rw [hf] at hi
      injection hi with hi
      subst hi
      have h2 := (Ent.holds_lt (h'.holds e he) hi').1
      rw [hMg] at h2
      cases h2
/-- A row that is never written again. -/
theorem er_RB {A : Option Addr} {c : Nat} {l : List UInt8} (h : (er e 1 (.slice A n c) n (bv l)).holds M w) : RB w A l := by
  have ho : w.ownsRow 0 e 1 (.slice A n c) n (bv l) := RowP.own (er_bind h) fun _ _ => Nat.zero_le _
  intro hl
  obtain ⟨g', rfl, hr⟩ := own_rangeA ho (by have h2 := ho.1; rw [bv_length] at h2; cases l with | nil => exact absurd rfl hl | cons _ _ => simp at h2; omega)
  exact ⟨g', 0, rfl, (ho.lt g' rfl).2, hr⟩
theorem St.lendRow {A : Option Addr} {c : Nat} {l : List UInt8} (h : St w0 w M (er e 1 (.slice A n c) n (bv l) :: L)) : ∃ M', M.le M' ∧ St w0 w M' L ∧ (In M' fun W => RB W A l) ∧ ∀ w' L', St w0 w' M' L' → St w0 w' M (er e 1 (.slice A n c) n (bv l) :: L') := by
  obtain ⟨M', h1, h2, h3, h4⟩ := h.lend
  exact ⟨M', h1, h2, h3.imp fun W hW => er_RB hW, h4⟩
theorem St.lendBlk (h : St w0 w M (eb g t cs :: L)) : ∃ M', M.le M' ∧ St w0 w M' L ∧ (In M' fun W => Blk W g t cs) ∧ ∀ w' L', St w0 w' M' L' → St w0 w' M (eb g t cs :: L') := by
  obtain ⟨M', h1, h2, h3, h4⟩ := h.lend
  exact ⟨M', h1, h2, h3.imp fun W hW => (eb_holds.1 hW).2, h4⟩
theorem Blk.RB {l : List UInt8} {o : Nat} (hb : Blk w g t cs) (hr : (cs.drop o).take l.length = bv l) : RB w (some ⟨g, o, none⟩) l := fun _ => ⟨g, o, rfl, hb.lt, hb.range o l.length _ hr⟩
theorem RB.sub {b o k m : Nat} {l : List UInt8} (h : RB w (some ⟨b, o, none⟩) l) : RB w (some ⟨b, o + k, none⟩) ((l.drop k).take m) := fun hne => by
  obtain ⟨b', o', he, hlt, hr⟩ := h (fun hl => hne (by subst hl; simp))
  injection he with he
  injection he with h1 h2
  subst h1 h2
  refine ⟨b, o + k, rfl, hlt, fun j u hj => ?_⟩
  rw [Nat.add_assoc]
  refine hr (k + j) u ?_
  rw [bv_get, List.getElem?_take] at hj
  split at hj
  · rw [List.getElem?_drop] at hj; rw [bv_get]; exact hj
  · cases hj
theorem RB.at {A : Option Addr} {l : List UInt8} (h : RB w A l) (k : Nat) (hk : k < l.length) : ∃ b o, A = some ⟨b, o, none⟩ ∧ w.cell? ⟨b, o + k, none⟩ = some (.int .u8 ((l[k]).toNat : Int)) := by
  obtain ⟨b, o, rfl, _, hr⟩ := h (by rintro rfl; simp at hk)
  exact ⟨b, o, rfl, hr k _ (by rw [bv_get, List.getElem?_eq_getElem hk]; rfl)⟩
theorem RB.take {A : Option Addr} {l : List UInt8} (h : RB w A l) (k : Nat) : RB w A (l.take k) := fun hne => by
  obtain ⟨b, o, rfl, hlt, hr⟩ := h (fun hl => hne (by subst hl; simp))
  refine ⟨b, o, rfl, hlt, fun j u hj => hr j u ?_⟩
  rw [bv_get, List.getElem?_take] at hj
  split at hj
  · rw [bv_get]; exact hj
  · cases hj
/-- The slice at A reads as l wherever F and M hold. -/
def Sr (w0 : World) (M : Mem) (F : List Ent) (A : Option Addr) (l : List UInt8) : Prop := ∀ w' M', M.le M' → St w0 w' M' F → RB w' A l
theorem Sr.of_in {A : Option Addr} {l : List UInt8} (h : In M (RB · A l)) : Sr w0 M F A l := fun w' M' hM H => (h.le hM).now H
theorem Sr.le {A : Option Addr} {l : List UInt8} (h : Sr w0 M F A l) (hm : M.le M') : Sr w0 M' F A l := fun w' M'' hM H => h w' M'' (hm.trans hM) H
theorem Sr.cons {A : Option Addr} {l : List UInt8} (h : Sr w0 M F A l) (e : Ent) : Sr w0 M (e :: F) A l := fun w' M' hM H => h w' M' hM H.d0
theorem Sr.take {A : Option Addr} {l : List UInt8} (h : Sr w0 M F A l) (k : Nat) : Sr w0 M F A (l.take k) := fun w' M' hM H => (h w' M' hM H).take k
theorem Sr.now {A : Option Addr} {l : List UInt8} (h : Sr w0 M F A l) (H : St w0 w M F) : RB w A l := h w M (Mem.le.refl M) H
theorem Sr.blk {l : List UInt8} {o : Nat} (i : Nat) (hi : F[i]? = some (eb g t cs)) (hr : (cs.drop o).take l.length = bv l) : Sr w0 M F (some ⟨g, o, none⟩) l := fun w' M' hM H => (H.blk i hi).RB hr
theorem Sr.row {A : Option Addr} {c : Nat} {l : List UInt8} (i : Nat) (hi : F[i]? = some (er e 1 (.slice A n c) n (bv l))) : Sr w0 M F A l := fun w' M' hM H => er_RB (H.get i hi)
/-- Cells in a row from A on. -/
def RA (w : World) (A : Option Addr) (cs : List Value) : Prop := cs ≠ [] → ∃ b o, A = some ⟨b, o, none⟩ ∧ b < w.heap.size ∧ w.rangeAt b o cs
theorem RB.ra {A : Option Addr} {l : List UInt8} (h : RB w A l) : RA w A (bv l) := fun hne => h (fun h0 => hne (by rw [h0]; rfl))
theorem Blk.ra (h : Blk w g t cs) (o n : Nat) (m : List Value) (hm : (cs.drop o).take n = m) : RA w (some ⟨g, o, none⟩) m := fun _ => ⟨g, o, rfl, h.lt, h.range o n m hm⟩
theorem er_RA {A : Option Addr} {c : Nat} (h : (er e sz (.slice A n c) n xs).holds M w) : RA w A xs := by
  have ho : w.ownsRow 0 e sz (.slice A n c) n xs := RowP.own (er_bind h) fun _ _ => Nat.zero_le _
  intro hl
  have hn : 0 < n := by
    rcases Nat.eq_zero_or_pos n with h0 | h0
    · have := ho.1; rw [h0, Nat.zero_mul] at this; exact absurd (List.eq_nil_of_length_eq_zero this) hl
    · exact h0
  obtain ⟨g', rfl, hr⟩ := own_rangeA ho hn
  exact ⟨g', 0, rfl, (ho.lt g' rfl).2, hr⟩
theorem St.lendRowA {A : Option Addr} {c : Nat} (h : St w0 w M (er e sz (.slice A n c) n xs :: L)) : ∃ M', M.le M' ∧ St w0 w M' L ∧ (In M' fun W => RA W A xs) ∧ ∀ w' L', St w0 w' M' L' → St w0 w' M (er e sz (.slice A n c) n xs :: L') := by
  obtain ⟨M', h1, h2, h3, h4⟩ := h.lend
  exact ⟨M', h1, h2, h3.imp fun W hW => er_RA hW, h4⟩
/-- An owned row's cell, and that it may be written. -/
theorem St.at_ {A : Option Addr} {c : Nat} (h : St w0 w M (er e 1 (.slice A n c) n xs :: L)) (k : Nat) (hk : k < n) : ∃ g, A = some ⟨g, 0, none⟩ ∧ w.cell? ⟨g, k, none⟩ = xs[k]? ∧ w.frozen? ⟨g, k, none⟩ = false := by
  have ho := h.own 0 rfl
  obtain ⟨g, rfl, hr⟩ := own_rangeA ho (by omega)
  have hl : k < xs.length := by have := ho.1; omega
  refine ⟨g, rfl, ?_, ?_⟩
  · have := hr k _ (List.getElem?_eq_getElem hl)
    rw [Nat.zero_add] at this
    rw [this, List.getElem?_eq_getElem hl]
  · rcases ho.2 with ⟨h', _⟩ | ⟨g', cap', cur, h', _, hh, _⟩
    · cases h'
    · have : g = g' := by injection h' with h'; injection h' with h'; injection h' with h'
      subst this
      simp [World.frozen?, hh]
/-- All that is new since w is never written again. -/
def Mem.all (M : Mem) (w w' : World) : Mem := fun i => if w.heap.size ≤ i then w'.heap[i]? else M i
theorem St.freeze (h : St w0 w M L) (k : Below w.heap.size w w') : St w0 w' (M.all w w') L ∧ M.le (M.all w w') := by
  have h' := h.belowK k
  have hle : M.le (M.all w w') := fun i o hi => by
    unfold Mem.all
    rw [if_neg (by have := agr_lt h.agr hi; omega)]
    exact hi
  refine ⟨⟨h'.below, fun i hi => ?_, fun i o hi => ?_, fun e he => Ent.holds_mem (h'.holds e he) fun i hi => ?_, h'.apart⟩, hle⟩
  · unfold Mem.all; rw [if_neg (by have := h.size; omega)]; exact h.old i hi
  · unfold Mem.all at hi
    split at hi
    · exact hi
    · exact h'.agr i o hi
  · have h1 := (Ent.holds_lt (h.holds e he) hi)
    unfold Mem.all; rw [if_neg (by omega)]; exact h1.1
end
/-! ### Operations -/
section
variable {P : Program} {ops : Array Oper} {rest : List Oper} {op : Oper} {a : Act} {w0 w : World} {M : Mem} {Q : Exit → Act → World → Prop} {F : List Ent}
theorem wpList_alloc_st (H : St w0 w M F) (hgd : op.guard = none) (t : TypeId) (ho : op.op = .alloc t) {z : Value} {m : Nat} (hz : (P.info? t).map (fun i => (i.zero, i.size)) = some (some z, m))
    (h : ∀ g w', St w0 w' M (eb g t z.cells.toList :: F) → wpList P ops Q rest (a.put op.dst (.pointer (some ⟨g, 0, none⟩))) w') : wpList P ops Q (op :: rest) a w :=
  wpList_alloc_blk hgd t ho hz fun w' hb hbe _ => h _ w' (H.addBlk hbe hb (Nat.le_refl _))
theorem wpList_store_st {g : Nat} {t : TypeId} {cur : List Value} (H : St w0 w M (eb g t cur :: F)) (hgd : op.guard = none) (ty : TypeId) (x y : Operand) (ho : op.op = .store ty x y) (o : Nat) (cs : List Value) (hx : a.eval x = .pointer (some ⟨g, o, none⟩)) (hy : a.eval y = .agg cs.toArray)
    (hfit : o + cs.length ≤ cur.length) (hi : (P.info? ty).map (·.size) = some cs.length) (h1 : ∀ v ∈ cs, v.oneCell' = true)
    (h : ∀ w', St w0 w' M (eb g t (ins cur o cs) :: F) → wpList P ops Q rest (a.put op.dst undef) w') : wpList P ops Q (op :: rest) a w :=
  wpList_store_blk hgd ty x y ho g o cs hx hy t cur (H.blk 0 rfl) hfit hi h1 fun w' hb hk _ => h w' (H.turnBlk hk hb)
/-- Bytes appended to a row of bytes, whatever they come from. -/
theorem wpList_append_st {e : TypeId} {v : Value} {n : Nat} {xs : List Value} (H : St w0 w M (er e 1 v n xs :: F)) (hgd : op.guard = none) (s x : Operand) (t : TypeId) (ho : op.op = .call { callee := .builtin .append, args := #[s, x], argTypes := #[t, t] })
    (i5 : (P.info? e).map (fun i => (i.zero, i.size, i.bytes)) = some (some (.int .u8 0), 1, 1)) (ht : P.underlying t = some (.slice e)) (hs : a.eval s = v) (A : Option Addr) (m c : Nat) (l : List UInt8) (hx : a.eval x = .slice A m c) (hm : m = l.length) (hA : A = none → c = 0) (hr : RB w A l)
    (hb : n + m ≤ 140737488355328) (h : ∀ v' w', St w0 w' M (er e 1 v' (n + m) (xs ++ bv l) :: F) → wpList P ops Q rest (a.put op.dst v') w') : wpList P ops Q (op :: rest) a w :=
  wpList_append_rb hgd s x t e ho i5 ht w0.heap.size v n xs hs (H.own 0 rfl) A m c l hx hm hA hr hb H.size fun v' w' h1 h2 h3 => h v' w' (H.turnRow h2 h3 h1)
/-- Elements of whatever size appended, whatever they come from. -/
theorem wpList_append_any_st {e : TypeId} {sz by_ : Nat} {v z : Value} {n : Nat} {xs : List Value} (H : St w0 w M (er e sz v n xs :: F)) (hgd : op.guard = none) (s x : Operand) (t : TypeId) (ho : op.op = .call { callee := .builtin .append, args := #[s, x], argTypes := #[t, t] })
    (hinfo : (P.info? e).map (fun i => (i.zero, i.size, i.bytes)) = some (some z, sz, by_)) (hz : z.cells.size = sz) (hsz : 0 < sz) (ht : P.underlying t = some (.slice e)) (hs : a.eval s = v) (A : Option Addr) (m c : Nat) (news : List Value) (hx : a.eval x = .slice A m c) (hm : news.length = m * sz) (hA : A = none → c = 0) (hr : RA w A news)
    (h1 : ∀ u ∈ news, u.oneCell' = true) (hb : (n + m) * by_ ≤ 140737488355328) (hb2 : n + m ≤ 140737488355328) (h : ∀ v' w', St w0 w' M (er e sz v' (n + m) (xs ++ news) :: F) → wpList P ops Q rest (a.put op.dst v') w') : wpList P ops Q (op :: rest) a w := by
  obtain ⟨i0, hi, hz0, hz1, hz2⟩ := info_parts hinfo
  have some_ : ∀ ad : Addr, A = some ad → (∀ j u, news[j]? = some u → w.cell? (ad.add j) = some u) → wpList P ops Q (op :: rest) a w := fun ad hA2 hc => by
    subst hA2
    exact wpList_append_own_at (w := w) hgd s x t ho w0.heap.size e i0 z sz by_ ht hi hz0 hz1 hz2 hz hsz v n xs hs (H.own 0 rfl) ad m c news hx hm hc h1 (by unfold maxLen; omega) hb H.size
      fun v' w' ho' hg' _ hv' => h v' w' (H.turnRow hg' hv' ho')
  by_cases hl : news = []
  · subst hl
    have hm0 : m = 0 := by
      have : m * sz = 0 := by simpa using hm.symm
      rcases Nat.mul_eq_zero.1 this with h0 | h0
      · exact h0
      · omega
    subst hm0
    cases A with
    | some ad => exact some_ ad rfl fun j u hu => by simp at hu
    | none =>
      obtain rfl := hA rfl
      refine wpList_plain hgd fun K hK => ?_
      have hr := run_append_owned_none (P := P) (w := w) w0.heap.size t op.type e i0 sz ht hi v n xs (H.own 0 rfl)
      unfold Oper.wp execOp
      simp only [ho, resolve, invoke, builtin, Sem.run_bind, Sem.run_pure, Result.andThen_ok, List.map_toArray, List.map_cons, List.map_nil, hs, hx, hr]
      refine hK _ _ (h v w ?_)
      simpa using H
  · obtain ⟨b, off, rfl, _, hrg⟩ := hr hl
    exact some_ _ rfl (fun j u hu => by rw [Addr.add_mid]; exact hrg j u hu)
/-- One element of one cell appended: the goal's world holds its box. -/
theorem wpList_append1_st {e : TypeId} {v y z : Value} {n by_ : Nat} {xs : List Value} (H : St w0 w M (er e 1 v n xs :: F)) (hgd : op.guard = none) (s x : Operand) (t : TypeId) (ho : op.op = .call { callee := .builtin .append, args := #[s, x], argTypes := #[t, t] })
    (hinfo : (P.info? e).map (fun i => (i.zero, i.size, i.bytes)) = some (some z, 1, by_)) (hz : z.cells.size = 1) (ht : P.underlying t = some (.slice e)) (hs : a.eval s = v) (hx : a.eval x = .slice (some ⟨w.heap.size, 0, none⟩) 1 1) (h1 : y.oneCell' = true)
    (hb : (n + 1) * by_ ≤ 140737488355328) (hb2 : n + 1 ≤ 140737488355328) (h : ∀ v' w', St w0 w' M (er e 1 v' (n + 1) (xs ++ [y]) :: F) → wpList P ops Q rest (a.put op.dst v') w') : wpList P ops Q (op :: rest) a (w.alloc (.cells #[y] e)) := by
  obtain ⟨i0, hi, hz0, hz1, hz2⟩ := info_parts hinfo
  have H1 := H.alloc (.cells #[y] e)
  refine wpList_append_own_at (w := w.alloc (.cells #[y] e)) hgd s x t ho w0.heap.size e i0 z 1 by_ ht hi hz0 hz1 hz2 hz (by omega) v n xs hs (H1.own 0 rfl) ⟨w.heap.size, 0, none⟩ 1 1 [y] hx rfl ?_ (by simpa using h1) (by unfold maxLen; omega) hb H1.size ?_
  · have hb : Blk (w.alloc (.cells #[y] e)) w.heap.size e [y] := Blk.new w e [y]
    intro j u hu
    rw [Addr.add_mid, hb.cell, Nat.zero_add]
    exact hu
  · intro v' w' ho' hg' _ hv'
    exact h v' w' (H1.turnRow hg' hv' ho')
/-- copy into the first entry's block. -/
theorem wpList_copy_st {g : Nat} {t : TypeId} {cur : List Value} (H : St w0 w M (eb g t cur :: F)) (hgd : op.guard = none) (d s : Operand) (dT sT : TypeId) (ho : op.op = .call { callee := .builtin .copy, args := #[d, s], argTypes := #[dT, sT] }) (elem : TypeId) (hu : P.underlying dT = some (.slice elem)) (hsz : (P.info? elem).map (·.size) = some 1)
    (off dLen dCap : Nat) (sp : Option Addr) (sLen sCap : Nat) (hd : a.eval d = .slice (some ⟨g, off, none⟩) dLen dCap) (hs : a.eval s = .slice sp sLen sCap) (l : List UInt8) (hl : sLen = l.length) (hr : RB w sp l) (hfit : off + Nat.min sLen dLen ≤ cur.length)
    (h : ∀ w', St w0 w' M (eb g t (ins cur off (bv (l.take dLen))) :: F) → wpList P ops Q rest (a.put op.dst (goInt (Nat.min sLen dLen))) w') : wpList P ops Q (op :: rest) a w := by
  have hn : (bv (l.take dLen)).length = Nat.min sLen dLen := by rw [bv_length, List.length_take, hl]; exact Nat.min_comm _ _
  refine wpList_copy_blk hgd d s dT sT ho elem hu hsz g off dLen dCap sp sLen sCap hd hs cur t (H.blk 0 rfl) (bv (l.take dLen)) hn ?_ (by rw [hn]; exact hfit) (bv_one _) ?_
  · intro hpos
    have hne : l ≠ [] := by rintro rfl; simp [bv] at hpos
    obtain ⟨b, o, rfl, _, hrg⟩ := hr hne
    refine ⟨_, rfl, fun j v hj => ?_⟩
    rw [Addr.add_mid]
    refine hrg j v ?_
    rw [bv_get, List.getElem?_take] at hj
    split at hj
    · rw [bv_get]; exact hj
    · cases hj
  · intro w' hb hk _
    rw [hn]
    exact h w' (H.turnBlk hk hb)
end
end Go.Proofs.Ytpomjaidaignpaa.Wd
