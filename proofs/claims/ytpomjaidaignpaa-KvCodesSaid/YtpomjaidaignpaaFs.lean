/- A file of blocks as entries of memory: the contracts of its methods in this form. -/
import Derived.Test.YtpomjaidaignpaaBe
import Derived.Test.YtpomjaidaignpaaBf
import Derived.Test.YtpomjaidaignpaaSl
set_option linter.unusedVariables false
set_option linter.unusedSimpArgs false
namespace Go.Proofs.Ytpomjaidaignpaa
open Go.RowKit Wd

/-- The blocks of a file. -/
def ef (f lb : Nat) (F : FM) (pv : Value) (L : List Ent) : List Ent := eb f 82 (fcells lb F pv) :: eb lb 111 (bv F.l) :: er 113 129 pv F.pend.length (pcs F.pend) :: L
/-- The file F lies at f; beside it, L. -/
def FS (w0 w : World) (M : Mem) (f : Nat) (F : FM) (L : List Ent) : Prop := F.ok ∧ ∃ lb pv, St w0 w M (ef f lb F pv L)
theorem FM.write_ok {F : FM} (h : F.ok) (i : Nat) (hi : i < F.n) (m : List UInt8) (hm : m.length = 64) : (F.write i m).ok := by
  unfold FM.write
  split
  · exact h
  · split
    · exact FM.fused_ok h i hi m hm
    · rename_i hs
      exact FM.put_ok h i hi m hm fun h1 h2 => hs (by simp [h1, h2])
section
variable {w0 w w' : World} {M M' : Mem} {L : List Ent} {f lb : Nat} {F F' : FM} {pv pv' : Value}
theorem isF_of (H : St w0 w M (ef f lb F pv L)) (ok : F.ok) : IsF w w0.heap.size f lb F pv :=
  ⟨ok, H.blk 0 rfl, H.blk 1 rfl, H.own 2 rfl, H.base (Ent.holds_lt (H.get 0 rfl) rfl).1 (H.lt 0 rfl), H.base (Ent.holds_lt (H.get 1 rfl) rfl).1 (H.lt 1 rfl)⟩
/-- What a method leaves that turns the file's blocks alone. -/
theorem ef_turn (H : St w0 w M (ef f lb F pv L)) (hF : IsF w' w0.heap.size f lb F' pv') (hk : Keeps w w' (fun k => k = f ∨ k = lb)) (hv : ∀ k, pv'.ownBlock = some k → pv.ownBlock = some k ∨ w.heap.size ≤ k) : St w0 w' M (ef f lb F' pv' L) := by
  have a0 := Ent.holds_lt (H.get 0 rfl) (g := f) rfl
  have a1 := Ent.holds_lt (H.get 1 rfl) (g := lb) rfl
  have p0 := List.pairwise_cons.1 H.apart
  have p1 := List.pairwise_cons.1 p0.2
  have p2 := List.pairwise_cons.1 p1.2
  have hfl : f ≠ lb := fun e => p0.1 (eb lb 111 (bv F.l)) (by simp) f rfl (by rw [e]; rfl)
  have hL : St w0 w' M L := by
    refine H.d0.d0.d0.keep hk (fun e he g hg hs => ?_) (fun g hs => ?_)
    · rcases hs with rfl | rfl
      · exact p0.1 e (by simp [he]) _ rfl hg
      · exact p1.1 e (by simp [he]) _ rfl hg
    · rcases hs with rfl | rfl
      · exact a0.1
      · exact a1.1
  have hcase : ∀ k, pv'.ownBlock = some k → M k = none := fun k hk' => by
    rcases hv k hk' with h | h
    · exact (Ent.holds_lt (H.get 2 rfl) (g := k) h).1
    · exact H.fresh h
  refine ⟨hL.below, hL.old, hL.agr, ?_, ?_⟩
  · intro e he
    simp only [ef, List.mem_cons] at he
    rcases he with rfl | rfl | rfl | he
    · exact eb_holds.2 ⟨a0.1, hF.blk⟩
    · exact eb_holds.2 ⟨a1.1, hF.row⟩
    · exact er_mk hF.own hcase
    · exact hL.holds e he
  · have hnf : ∀ k, pv'.ownBlock = some k → k ≠ f ∧ k ≠ lb ∧ ∀ e ∈ L, e.foot ≠ some k := fun k hk' => by
      rcases hv k hk' with h | h
      · refine ⟨fun e => ?_, fun e => ?_, fun e he => p2.1 e he k h⟩
        · subst e; exact p0.1 (er 113 129 pv F.pend.length (pcs F.pend)) (by simp) _ rfl h
        · subst e; exact p1.1 (er 113 129 pv F.pend.length (pcs F.pend)) (by simp) _ rfl h
      · refine ⟨by omega, by omega, fun e he hf => ?_⟩
        have := (Ent.holds_lt (H.holds e (by simp [ef, he])) hf).2
        omega
    refine List.Pairwise.cons ?_ (List.Pairwise.cons ?_ (List.Pairwise.cons ?_ p2.2))
    · intro e he g hg hg'
      have hg2 : some f = some g := hg
      injection hg2 with hg2
      subst hg2
      simp only [List.mem_cons] at he
      rcases he with rfl | rfl | he
      · have : some lb = some f := hg'
        injection this with this
        exact hfl this.symm
      · exact (hnf f hg').1 rfl
      · exact p0.1 e (by simp [he]) f rfl hg'
    · intro e he g hg hg'
      have hg2 : some lb = some g := hg
      injection hg2 with hg2
      subst hg2
      simp only [List.mem_cons] at he
      rcases he with rfl | he
      · exact (hnf lb hg').2.1 rfl
      · exact p1.1 e (by simp [he]) lb rfl hg'
    · intro e he g hg hg'
      exact (hnf g hg).2.2 e he hg'

theorem fs_write (H : FS w0 w M f F L) (i : Nat) (hi : i < F.n) {A : Option Addr} {c : Nat} {m : List UInt8} (hm : m.length = 64) (hr : RB w A m) (hp : F.pend.length < 1000000000) :
    Calls Try.prog 50 #[.pointer (some ⟨f, 0, none⟩), .int .i64 (i : Int), .slice A 64 c] w fun e w' => e = .returned (.int .i64 0) ∧ FS w0 w' M f (F.write i m) L := by
  obtain ⟨ok, lb, pv, H⟩ := H
  obtain ⟨b, o, rfl, hlt, hrg⟩ := hr (by rintro rfl; simp at hm)
  refine (write_anyF (isF_of H ok) i hi b o c m hm hrg hlt hp).mono ?_
  rintro e w' ⟨rfl, pv', h1, h2, h3⟩
  exact ⟨rfl, FM.write_ok ok i hi m hm, lb, pv', ef_turn H h1 h2 h3⟩
theorem fs_write_none (H : FS w0 w M f F L) (i : Int) (hi : i < 0 ∨ (F.n : Int) ≤ i) (v : Value) :
    Calls Try.prog 50 #[.pointer (some ⟨f, 0, none⟩), .int .i64 i, v] w fun e w' => e = .returned (.int .i64 4) ∧ w = w' := by
  obtain ⟨ok, lb, pv, H⟩ := H
  exact write_none (isF_of H ok) i hi v
theorem fs_write_arg (H : FS w0 w M f F L) (i : Nat) (hi : i < F.n) (A : Option Addr) (n c : Nat) (hn : n ≠ 64) :
    Calls Try.prog 50 #[.pointer (some ⟨f, 0, none⟩), .int .i64 (i : Int), .slice A n c] w fun e w' => e = .returned (.int .i64 1) ∧ w = w' := by
  obtain ⟨ok, lb, pv, H⟩ := H
  exact write_arg (isF_of H ok) i hi A n c hn
theorem fs_sync (H : FS w0 w M f F L) : Calls Try.prog 52 #[.pointer (some ⟨f, 0, none⟩)] w fun e w' => e = .returned (.tuple #[]) ∧ FS w0 w' M f { F with pend := [] } L := by
  obtain ⟨ok, lb, pv, H⟩ := H
  refine (sync_any (isF_of H ok)).mono ?_
  rintro e w' ⟨rfl, h1, h2, _⟩
  exact ⟨rfl, h1.ok, lb, _, ef_turn H h1 (h2.imp fun k _ h => .inl h) fun k hk => by cases hk⟩
theorem fs_blocks (H : FS w0 w M f F L) : Calls Try.prog 59 #[.pointer (some ⟨f, 0, none⟩)] w fun e w' => e = .returned (.int .i64 (F.n : Int)) ∧ w = w' := by
  obtain ⟨ok, lb, pv, H⟩ := H
  exact blocks_any (isF_of H ok)
theorem ef_new (H : St w0 w M L) (hb : Below w.heap.size w w') (hF : IsF w' w.heap.size f lb F pv) (hp : pv = .slice none 0 0) : FS w0 w' M f F L := by
  have H' := H.belowK hb
  have hne := hF.ne
  subst hp
  refine ⟨hF.ok, lb, .slice none 0 0, H'.below, H'.old, H'.agr, ?_, ?_⟩
  · intro e he
    simp only [ef, List.mem_cons] at he
    rcases he with rfl | rfl | rfl | he
    · exact eb_holds.2 ⟨H.fresh hF.hf, hF.blk⟩
    · exact eb_holds.2 ⟨H.fresh hF.hl, hF.row⟩
    · exact er_mk hF.own fun g hg => by cases hg
    · exact H'.holds e he
  · have far : ∀ g, w.heap.size ≤ g → ∀ e ∈ L, e.foot ≠ some g := fun g hg e he hf => by have := (Ent.holds_lt (H.holds e he) hf).2; omega
    refine List.Pairwise.cons ?_ (List.Pairwise.cons ?_ (List.Pairwise.cons ?_ H.apart))
    · intro e he g hg hg'
      have hg2 : some f = some g := hg
      injection hg2 with hg2
      subst hg2
      simp only [List.mem_cons] at he
      rcases he with rfl | rfl | he
      · have : some lb = some f := hg'
        injection this with this
        exact hne this.symm
      · cases hg'
      · exact far f hF.hf e he hg'
    · intro e he g hg hg'
      have hg2 : some lb = some g := hg
      injection hg2 with hg2
      subst hg2
      simp only [List.mem_cons] at he
      rcases he with rfl | he
      · cases hg'
      · exact far lb hF.hl e he hg'
    · intro e he g hg hg'
      cases hg
theorem fs_new (H : St w0 w M L) (n : Nat) (h1 : 1 ≤ n) (h2 : n ≤ 4096) : Calls Try.prog 20 #[.int .i64 (n : Int)] w fun e w' => ∃ f, e = .returned (.tuple #[.pointer (some ⟨f, 0, none⟩), .int .i64 0]) ∧ FS w0 w' M f (FM.new n) L := by
  refine (new_yes n w h1 h2).mono ?_
  rintro e w' ⟨rfl, hF, hb, _⟩
  exact ⟨_, rfl, ef_new H hb hF rfl⟩
theorem fs_add {e : Ent} {Z : List Ent} (h : Z = ef f lb F pv L) (H : St w0 w M (e :: Z)) : St w0 w M (ef f lb F pv (e :: L)) := by subst h; exact H.b3
theorem fs_read (H : FS w0 w M f F L) (i : Nat) (hi : i < F.n) :
    Calls Try.prog 67 #[.pointer (some ⟨f, 0, none⟩), .int .i64 (i : Int)] w fun e w' => ∃ g, e = .returned (.tuple #[.slice (some ⟨g, 0, none⟩) 64 64, .int .i64 0]) ∧ FS w0 w' M f F (eb g 111 (bv (F.at_ i)) :: L) := by
  obtain ⟨ok, lb, pv, H⟩ := H
  refine (read_any (isF_of H ok) i hi).mono ?_
  rintro e w' ⟨rfl, h1, h2, _⟩
  exact ⟨_, rfl, ok, lb, pv, fs_add rfl (H.addBlk h2 h1 (Nat.le_refl _))⟩
theorem fs_read_no (H : FS w0 w M f F L) (i : Int) (hi : i < 0 ∨ (F.n : Int) ≤ i) :
    Calls Try.prog 67 #[.pointer (some ⟨f, 0, none⟩), .int .i64 i] w fun e w' => e = .returned (.tuple #[.slice none 0 0, .int .i64 4]) ∧ w = w' := by
  obtain ⟨ok, lb, pv, H⟩ := H
  exact read_no (isF_of H ok) i hi
theorem fs_dump (H : FS w0 w M f F L) : Calls Try.prog 60 #[.pointer (some ⟨f, 0, none⟩)] w fun e w' =>
    ∃ g c, e = .returned (.slice (some ⟨g, 0, none⟩) (64 * F.n) c) ∧ FS w0 w' M f F (er 5 1 (.slice (some ⟨g, 0, none⟩) (64 * F.n) c) (64 * F.n) (bv F.l) :: L) := by
  obtain ⟨ok, lb, pv, H⟩ := H
  refine (dump_any (isF_of H ok)).mono ?_
  rintro e w' ⟨g, c, rfl, h1, h2⟩
  exact ⟨g, c, rfl, ok, lb, pv, fs_add rfl (H.addRow h2 h1)⟩
/-- What lies beside the file. -/
theorem FS.rest (H : FS w0 w M f F L) : St w0 w M L := by
  obtain ⟨ok, lb, pv, H⟩ := H
  exact H.d0.d0.d0
theorem FS.map {L' : List Ent} (H : FS w0 w M f F L) (h : ∀ Z : List Ent, Z.length = 3 → St w0 w M (Z ++ L) → St w0 w' M' (Z ++ L')) : FS w0 w' M' f F L' := by
  obtain ⟨ok, lb, pv, H⟩ := H
  exact ⟨ok, lb, pv, h [_, _, _] rfl H⟩
theorem FS.drew (H : FS w0 w M f F L) : FS w0 w.drew M f F L := by
  obtain ⟨ok, lb, pv, H⟩ := H
  exact ⟨ok, lb, pv, H.drew⟩
theorem FS.drop {e : Ent} (H : FS w0 w M f F (e :: L)) : FS w0 w M f F L := H.map fun Z _ h => h.sub (List.Sublist.append (List.Sublist.refl Z) (List.sublist_cons_self e L))
theorem FS.belowK (H : FS w0 w M f F L) (k : Below w.heap.size w w') : FS w0 w' M f F L := H.map fun Z _ h => h.belowK k
theorem FS.newg (H : FS w0 w M f F L) (cs : List Value) (t : TypeId) {g : Nat} (hg : g = w.heap.size) : FS w0 (w.alloc (.cells cs.toArray t)) M f F (eb g t cs :: L) := by
  obtain ⟨ok, lb, pv, H⟩ := H
  exact ⟨ok, lb, pv, fs_add rfl (H.newg cs t hg)⟩
theorem FS.cell (H : FS w0 w M f F L) {g : Nat} {t : TypeId} {cs : List Value} (i : Nat) (hi : L[i]? = some (eb g t cs)) (o : Nat) : w.cell? ⟨g, o, none⟩ = cs[o]? := H.rest.cell i hi o
theorem FS.frozen (H : FS w0 w M f F L) {g : Nat} {t : TypeId} {cs : List Value} (i : Nat) (hi : L[i]? = some (eb g t cs)) (o : Nat) : w.frozen? ⟨g, o, none⟩ = false := H.rest.frozen i hi o
/-- The file behind the entry. -/
theorem FS.out {e : Ent} (H : FS w0 w M f F (e :: L)) : ∃ Z : List Ent, St w0 w M (e :: Z) ∧ ∀ w' M' e', St w0 w' M' (e' :: Z) → FS w0 w' M' f F (e' :: L) := by
  obtain ⟨ok, lb, pv, H⟩ := H
  exact ⟨ef f lb F pv L, H.f3, fun w' M' e' h => ⟨ok, lb, pv, fs_add rfl h⟩⟩
theorem FS.out0 (H : FS w0 w M f F L) : ∃ Z : List Ent, St w0 w M Z ∧ (∀ w' M', St w0 w' M' Z → FS w0 w' M' f F L) ∧ ∀ w' M' e', St w0 w' M' (e' :: Z) → FS w0 w' M' f F (e' :: L) := by
  obtain ⟨ok, lb, pv, H⟩ := H
  exact ⟨ef f lb F pv L, H, fun w' M' h => ⟨ok, lb, pv, h⟩, fun w' M' e' h => ⟨ok, lb, pv, fs_add rfl h⟩⟩
end
end Go.Proofs.Ytpomjaidaignpaa
