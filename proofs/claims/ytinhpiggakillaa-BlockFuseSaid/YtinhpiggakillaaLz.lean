/- Any act; what the law reads of a file and of the reference's. -/
import Derived.Test.YtinhpiggakillaaDx
set_option linter.unusedVariables false
set_option linter.unusedSimpArgs false
namespace Go.Proofs.Ytinhpiggakillaa
open Go.RowKit Wd
section
variable {w0 w : World} {M : Mem} {L : List Ent} {f : Nat} {F : FM} {R : RM} {A B : Option Addr} {c d j : Nat}
theorem does_any (HF : FS w0 w M f F L) (hv : RV M R A c B d) (hr : Rel F R j) (hj : j ≤ 60) (D I : Int) (x : UInt8) (K T : Int) (hK : K ≤ 9223372036854775807) :
    Calls Try.prog 14 #[.pointer (some ⟨f, 0, none⟩), .agg (rval R A c B d).toArray, .agg (acs D I x K T).toArray] w (Did w0 M f F j L) := by
  by_cases h1 : D = 1
  · subst h1; exact does_sync HF hv hr hj I x K T
  · by_cases h2 : D = 2
    · subst h2; exact does_crash HF hv hr hj I x K T hK
    · by_cases h3 : D = 3
      · subst h3; exact does_short HF hv hr hj I x K T
      · by_cases h4 : D = 4
        · subst h4; exact does_fuse HF hv hr hj I x K T hK
        · exact does_write HF hv hr hj D I x K T ⟨h1, h2, h3, h4⟩
/-- Is there such a block? -/
def isB (n : Nat) (I : Int) : Bool := decide (0 ≤ I ∧ I < n)
def rdB (l : List UInt8) (n : Nat) (I : Int) : List UInt8 := if isB n I then (l.drop (64 * I.toNat)).take 64 else []
def rdE (n : Nat) (I : Int) : Int := if isB n I then 0 else 4
theorem fs_readM (H : FS w0 w M f F L) (I : Int) : Calls Try.prog 12 #[.pointer (some ⟨f, 0, none⟩), .int .i64 I] w fun e w' =>
    ∃ X cx M', e = .returned (.tuple #[.slice X (rdB F.l F.n I).length cx, .int .i64 (rdE F.n I)]) ∧ M.le M' ∧ In M' (RB · X (rdB F.l F.n I)) ∧ FS w0 w' M' f F L := by
  by_cases hI : 0 ≤ I ∧ I < F.n
  · have e1 : isB F.n I = true := decide_eq_true hI
    obtain ⟨i, rfl⟩ := Int.eq_ofNat_of_zero_le hI.1
    have hl := FM.at_length H.1 (i := i) (by omega)
    rw [FM.at_eq] at hl
    unfold rdB rdE
    rw [e1]
    simp only [if_true, Int.toNat_natCast]
    rw [hl]
    refine (fs_read H i (by omega)).mono ?_
    rintro e w' ⟨g, rfl, ok, lb, pv, H'⟩
    obtain ⟨M', hM', H2, hb, -⟩ := (St.f3 H').lendBlk
    exact ⟨_, _, M', rfl, hM', hb.imp fun W hW => Blk.RB hW (by rw [List.drop_zero, ← FM.at_eq, List.take_of_length_le (by rw [bv_length]; exact Nat.le_refl _)]), ok, lb, pv, H2⟩
  · have e1 : isB F.n I = false := decide_eq_false hI
    unfold rdB rdE
    rw [e1]
    refine (fs_read_no H I (by omega)).mono ?_
    rintro e w' ⟨rfl, rfl⟩
    exact ⟨none, 0, M, rfl, Mem.le.refl _, fun W _ h => absurd rfl h, H⟩
theorem ref_readM (H : St w0 w M L) (hv : RV M R A c B d) (hr : Rel F R j) (hj : j ≤ 1000) (I : Int) : Calls Try.prog 17 #[.agg (rval R A c B d).toArray, .int .i64 I] w fun e w' =>
    ∃ X cx M', e = .returned (.tuple #[.slice X (rdB F.l F.n I).length cx, .bool (isB F.n I)]) ∧ M.le M' ∧ In M' (RB · X (rdB F.l F.n I)) ∧ St w0 w' M' L := by
  by_cases hI : 0 ≤ I ∧ I < F.n
  · have e1 : isB F.n I = true := decide_eq_true hI
    obtain ⟨i, rfl⟩ := Int.eq_ofNat_of_zero_le hI.1
    have hl := lay_length _ _ hr.len _ hr.ok
    have h64 : (((lay R.b R.ws).drop (64 * i)).take 64).length = 64 := by rw [List.length_take, List.length_drop, hl]; omega
    unfold rdB
    rw [e1, hr.l]
    simp only [if_true, Int.toNat_natCast]
    rw [h64]
    refine (ref_read H R.set R.off R.left R.torn hv.hA hv.hc hv.hl hv.hw hr.len hr.n2 hr.ok (by have := hr.many; omega) i (by omega)).mono ?_
    rintro e w' ⟨A', c', M', rfl, hM', hb, H'⟩
    exact ⟨A', c', M', rfl, hM', hb, H'⟩
  · have e1 : isB F.n I = false := decide_eq_false hI
    unfold rdB
    rw [e1]
    have h := ref_read_no H A B c d F.n R.ws.length R.set R.off R.left R.torn I hr.n2 (by omega)
    rw [← hr.len] at h
    refine h.mono ?_
    rintro e w' ⟨rfl, H'⟩
    exact ⟨none, 0, M, rfl, Mem.le.refl _, fun W _ h => absurd rfl h, H'⟩
theorem fs_dumpM (H : FS w0 w M f F L) : Calls Try.prog 13 #[.pointer (some ⟨f, 0, none⟩)] w fun e w' =>
    ∃ X cx M', e = .returned (.slice X F.l.length cx) ∧ M.le M' ∧ In M' (RB · X F.l) ∧ FS w0 w' M' f F L := by
  refine (fs_dump H).mono ?_
  rintro e w' ⟨g, c, rfl, ok, lb, pv, H'⟩
  obtain ⟨M', hM', H2, hb, -⟩ := (St.f3 H').lendRow
  exact ⟨_, c, M', by rw [ok.len], hM', hb, ok, lb, pv, H2⟩
theorem ref_dumpM (H : St w0 w M L) (hv : RV M R A c B d) (hr : Rel F R j) (hj : j ≤ 1000) : Calls Try.prog 23 #[.agg (rval R A c B d).toArray] w fun e w' =>
    ∃ X cx M', e = .returned (.slice X F.l.length cx) ∧ M.le M' ∧ In M' (RB · X F.l) ∧ St w0 w' M' L := by
  refine (ref_dump H R.set R.off R.left R.torn hv.hA hv.hc hv.hl hv.hw hr.len hr.n2 hr.ok (by have := hr.many; omega)).mono ?_
  rintro e w' ⟨A', c', M', rfl, _, _, hM', hb, H'⟩
  refine ⟨A', c', M', ?_, hM', by rw [hr.l]; exact hb, H'⟩
  rw [hr.l, lay_length _ _ hr.len _ hr.ok, hr.len]
theorem awake_st (H : St w0 w M L) : Calls Try.prog 9 #[] w fun e w' => e = .returned (.bool true) ∧ St w0 w' M L := by
  refine (awake_any w).mono ?_
  rintro e w' ⟨rfl, hb⟩
  exact ⟨rfl, H.belowK hb⟩
theorem awake_fs (H : FS w0 w M f F L) : Calls Try.prog 9 #[] w fun e w' => e = .returned (.bool true) ∧ FS w0 w' M f F L := by
  refine (awake_any w).mono ?_
  rintro e w' ⟨rfl, hb⟩
  exact ⟨rfl, H.belowK hb⟩
end
/-- An act. -/
structure AM where
  d : Int
  i : Int
  b : UInt8
  k : Int
  t : Int
def AM.cells (a : AM) : List Value := acs a.d a.i a.b a.k a.t
def amcs (l : List AM) : List Value := l.flatMap AM.cells
theorem amcs_length (l : List AM) : (amcs l).length = 5 * l.length := by
  induction l with
  | nil => rfl
  | cons a l ih => simp [amcs, AM.cells, acs] at ih ⊢; omega
theorem amcs_at (l : List AM) (j : Nat) (hj : j < l.length) : ((amcs l).drop (j * 5)).take 5 = (l[j]).cells := by
  induction l generalizing j with
  | nil => simp at hj
  | cons a l ih =>
    have e1 : amcs (a :: l) = a.cells ++ amcs l := rfl
    cases j with
    | zero => rw [e1]; rfl
    | succ j =>
      rw [e1, show (j + 1) * 5 = a.cells.length + j * 5 from by simp [AM.cells, acs]; omega, List.drop_append, Nat.add_sub_cancel_left, List.drop_eq_nil_of_le (by omega), List.nil_append]
      exact ih j (by simpa using hj)
theorem Wd.RA.at5 {w : World} {B : Option Addr} {l : List AM} (h : RA w B (amcs l)) (j : Nat) (hj : j < l.length) : ∃ b o, B = some ⟨b, o, none⟩ ∧ w.rangeAt b (o + j * 5) (l[j]).cells := by
  obtain ⟨b, o, rfl, _, hr⟩ := h (by intro h0; have := amcs_length l; rw [h0] at this; simp at this; omega)
  refine ⟨b, o, rfl, fun k v hk => ?_⟩
  rw [← amcs_at l j hj, List.getElem?_take] at hk
  split at hk
  · rw [List.getElem?_drop] at hk
    rw [Nat.add_assoc]
    exact hr _ v hk
  · cases hk
theorem In.oldRA {w0 w : World} {M : Mem} {L : List Ent} (H : St w0 w M L) {A : Option Addr} {cs : List Value} (hb : RA w0 A cs) : In M fun W => RA W A cs := fun W hW hl => by
  obtain ⟨b, o, rfl, hlt, hr⟩ := hb hl
  have he : W.heap[b]? = w0.heap[b]? := by
    have h1 := H.old b hlt
    rw [Array.getElem?_eq_getElem hlt] at h1 ⊢
    exact hW b _ h1
  refine ⟨b, o, rfl, ?_, fun j v hj => (World.cell?_of_block (w := w0) he).trans (hr j v hj)⟩
  rw [Array.getElem?_eq_getElem hlt] at he
  exact (Array.getElem?_eq_some_iff.1 he).1
end Go.Proofs.Ytinhpiggakillaa
