/- A sum that goes on, as entries of the memory; sha.New, Write, Sum, Len. -/
import Derived.Test.YtcdljlaoedaliaaDoorHx
import Derived.Test.YtcdljlaoedaliaaDoorSl
set_option linter.unusedVariables false
set_option linter.unusedSimpArgs false
namespace Go.Proofs.YtcdljlaoedaliaaDoor
open Go.RowKit Wd
def eh (g : Nat) (H : Sha.HM) (rv : Value) (L : List Ent) : List Ent := eb g 119 (hcells H rv) :: er 5 1 rv H.rest.length (bv H.rest) :: L
theorem In.oldTab {w0 w : World} {M : Mem} {L : List Ent} (H : St w0 w M L) {g : Nat} {cs : List Value} (h : Tab w0 g cs) : In M fun W => Tab W g cs := fun W hW => by
  have hl := h.lt
  obtain ⟨t, fr, h⟩ := h
  exact ⟨t, fr, hW g _ ((H.old g hl).trans h)⟩
theorem Tabs.in_ {w0 w : World} {M : Mem} {L : List Ent} (ht : Tabs w0) (H : St w0 w M L) : In M Tabs := fun W hW => ⟨In.oldTab H ht.first W hW, In.oldTab H ht.known W hW⟩
section
variable {w0 w w' : World} {M M' : Mem} {L : List Ent} {g : Nat} {F F' : Sha.HM} {rv rv' : Value}
theorem isH_of (H : St w0 w M (eh g F rv L)) : IsH w w0.heap.size g F rv :=
  ⟨H.blk 0 rfl, H.own 1 rfl, H.base (Ent.holds_lt (H.get 0 rfl) rfl).1 (H.lt 0 rfl)⟩
theorem eh_turn (H : St w0 w M (eh g F rv L)) (hF : IsH w' w0.heap.size g F' rv') (hk : Keeps w w' (fun k => k = g ∨ rv.ownBlock = some k)) (hv : ∀ k, rv'.ownBlock = some k → rv.ownBlock = some k ∨ w.heap.size ≤ k) : St w0 w' M (eh g F' rv' L) := by
  have a0 := Ent.holds_lt (H.get 0 rfl) (g := g) rfl
  have p0 := List.pairwise_cons.1 H.apart
  have p1 := List.pairwise_cons.1 p0.2
  have hL : St w0 w' M L := by
    refine H.d0.d0.keep hk (fun e he k hg hs => ?_) (fun k hs => ?_)
    · rcases hs with rfl | hs
      · exact p0.1 e (by simp [he]) _ rfl hg
      · exact p1.1 e (by simp [he]) _ hs hg
    · rcases hs with rfl | hs
      · exact a0.1
      · exact (Ent.holds_lt (H.get 1 rfl) (g := k) hs).1
  have hcase : ∀ k, rv'.ownBlock = some k → M k = none := fun k hk' => by
    rcases hv k hk' with h | h
    · exact (Ent.holds_lt (H.get 1 rfl) (g := k) h).1
    · exact H.fresh h
  have hnf : ∀ k, rv'.ownBlock = some k → k ≠ g ∧ ∀ e ∈ L, e.foot ≠ some k := fun k hk' => by
    rcases hv k hk' with h | h
    · refine ⟨fun e => ?_, fun e he => p1.1 e he k h⟩
      subst e
      exact p0.1 (er 5 1 rv F.rest.length (bv F.rest)) (by simp) _ rfl h
    · refine ⟨by omega, fun e he hf => ?_⟩
      have := (Ent.holds_lt (H.holds e (by simp [eh, he])) hf).2
      omega
  refine ⟨hL.below, hL.old, hL.agr, ?_, ?_⟩
  · intro e he
    simp only [eh, List.mem_cons] at he
    rcases he with rfl | rfl | he
    · exact eb_holds.2 ⟨a0.1, hF.blk⟩
    · exact er_mk hF.own hcase
    · exact hL.holds e he
  · refine List.pairwise_cons.2 ⟨fun e he k hk1 hk2 => ?_, List.pairwise_cons.2 ⟨fun e he k hk1 hk2 => (hnf k hk1).2 e he hk2, hL.apart⟩⟩
    rcases List.mem_cons.1 he with rfl | he
    · have h1 : some g = some k := hk1
      injection h1 with h1
      exact (hnf k hk2).1 h1.symm
    · exact p0.1 e (by simp [he]) k hk1 hk2
/-- A sum that took 'all', at block g, beside L. -/
def HS (w0 w : World) (M : Mem) (g : Nat) (all : List UInt8) (L : List Ent) : Prop := ∃ rv, St w0 w M (eh g (Sha.HM.of all) rv L)
variable {all : List UInt8}
theorem HS.rest (H : HS w0 w M g all L) : St w0 w M L := by obtain ⟨rv, H⟩ := H; exact H.d0.d0
theorem HS.drew (H : HS w0 w M g all L) : HS w0 w.drew M g all L := by obtain ⟨rv, H⟩ := H; exact ⟨rv, H.drew⟩
theorem HS.belowK (H : HS w0 w M g all L) (k : Below w.heap.size w w') : HS w0 w' M g all L := by obtain ⟨rv, H⟩ := H; exact ⟨rv, H.belowK k⟩
theorem HS.map {L' : List Ent} (H : HS w0 w M g all L) (h : ∀ Z : List Ent, Z.length = 2 → St w0 w M (Z ++ L) → St w0 w' M' (Z ++ L')) : HS w0 w' M' g all L' := by
  obtain ⟨rv, H⟩ := H
  exact ⟨rv, h [_, _] rfl H⟩
theorem HS.newg (H : HS w0 w M g all L) (cs : List Value) (t : TypeId) {k : Nat} (hk : k = w.heap.size) : HS w0 (w.alloc (.cells cs.toArray t)) M g all (eb k t cs :: L) := by
  obtain ⟨rv, H⟩ := H
  exact ⟨rv, (H.newg cs t hk).b2⟩
theorem of_rest (all : List UInt8) : (Sha.HM.of all).rest.length < 64 ∧ (Sha.HM.of all).rest.length ≤ all.length := by
  have := Nat.div_add_mod all.length 64
  have := Nat.mod_lt all.length (show 64 > 0 by decide)
  show (all.drop _).length < 64 ∧ (all.drop _).length ≤ all.length
  rw [List.length_drop]
  omega
theorem hs_new (ht : Tabs w0) (H : St w0 w M L) : Calls Tryd.prog 77 #[] w fun e w' => ∃ g, e = .returned (.pointer (some ⟨g, 0, none⟩)) ∧ HS w0 w' M g [] L := by
  refine (hash_new ((ht.in_ H).now H)).mono ?_
  rintro e w' ⟨rfl, hI, hb, _⟩
  refine ⟨_, rfl, .slice none 0 0, ?_⟩
  exact ((H.addBlk hb hI.blk (Nat.le_refl _)).addNil 5 1).f1
theorem hs_write (ht : Tabs w0) (H : HS w0 w M g all L) {A : Option Addr} {c : Nat} {l : List UInt8} (hA : A = none → c = 0) (hr : RB w A l) (hn : all.length + l.length < 140737488355328) :
    Calls Tryd.prog 78 #[.pointer (some ⟨g, 0, none⟩), .slice A l.length c] w fun e w' => e = .returned (.tuple #[]) ∧ HS w0 w' M g (all ++ l) L := by
  obtain ⟨rv, H⟩ := H
  have h1 := of_rest all
  refine (hash_write (isH_of H) ((ht.in_ H).now H) ht.lt A c l hA hr hn h1.2).mono ?_
  rintro e w' ⟨rfl, rv', hI, _, hk, hv⟩
  refine ⟨rfl, rv', ?_⟩
  rw [Sha.HM.write_of] at hI
  exact eh_turn H hI hk hv
theorem hs_sum (ht : Tabs w0) (H : HS w0 w M g all L) (hn : all.length < 140737488355328) :
    Calls Tryd.prog 79 #[.pointer (some ⟨g, 0, none⟩)] w fun e w' => e = .returned (.agg (bv (Sha.sha all)).toArray) ∧ HS w0 w' M g all L := by
  obtain ⟨rv, H⟩ := H
  have h1 := of_rest all
  refine (hash_sum (isH_of H) ((ht.in_ H).now H) hn h1.1).mono ?_
  rintro e w' ⟨rfl, hb⟩
  exact ⟨rfl, rv, H.belowK hb⟩
end
end Go.Proofs.YtcdljlaoedaliaaDoor
