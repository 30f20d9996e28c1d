/- Parts in memory; the contracts of tuple's small functions. -/
import Derived.Test.YtbmiifglpjeegaaDoorJa
import Derived.Test.YtbmiifglpjeegaaDoorJc
import Derived.Test.YtbmiifglpjeegaaDoorRt
set_option linter.unusedVariables false
set_option linter.unusedSimpArgs false
namespace Go.Proofs.YtbmiifglpjeegaaDoor
open Go.RowKit Wd
/-- A text as a string. -/
abbrev str (l : List UInt8) : ByteArray := ⟨l.toArray⟩
def pc (p : Tu.Part) : List Value := [.string (str p.text), .int .u64 (p.num : Int), .bool p.isText]
def pv (p : Tu.Part) : Value := .agg #[.string (str p.text), .int .u64 (p.num : Int), .bool p.isText]
def pcs (l : List Tu.Part) : List Value := l.flatMap pc
theorem pcs_length (l : List Tu.Part) : (pcs l).length = l.length * 3 := by
  induction l with
  | nil => rfl
  | cons a l ih => simp [pcs, pc] at ih ⊢; omega
theorem pcs_append (l m : List Tu.Part) : pcs (l ++ m) = pcs l ++ pcs m := by simp [pcs]
theorem pcs_at (l : List Tu.Part) (j : Nat) (hj : j < l.length) : ((pcs l).drop (j * 3)).take 3 = pc l[j] := by
  induction l generalizing j with
  | nil => simp at hj
  | cons a l ih =>
    have e1 : pcs (a :: l) = pc a ++ pcs l := rfl
    cases j with
    | zero => rw [e1]; rfl
    | succ j =>
      rw [e1, show (j + 1) * 3 = (pc a).length + j * 3 from by simp [pc]; omega, List.drop_append, Nat.add_sub_cancel_left, List.drop_eq_nil_of_le (by omega), List.nil_append]
      exact ih j (by simpa using hj)
theorem RA.at3 {w : World} {B : Option Addr} {l : List Tu.Part} (h : RA w B (pcs l)) (j : Nat) (hj : j < l.length) : ∃ b o, B = some ⟨b, o, none⟩ ∧ w.rangeAt b (o + j * 3) (pc l[j]) := by
  obtain ⟨b, o, rfl, _, hr⟩ := h (by intro h0; have := pcs_length l; rw [h0] at this; simp at this; omega)
  refine ⟨b, o, rfl, fun k v hk => ?_⟩
  rw [← pcs_at l j hj, List.getElem?_take] at hk
  split at hk
  · rw [List.getElem?_drop] at hk
    rw [Nat.add_assoc]
    exact hr _ v hk
  · cases hk
/-- The cells at A read so wherever F and M hold. -/
def SrA (w0 : World) (M : Mem) (F : List Ent) (A : Option Addr) (cs : List Value) : Prop := ∀ w' M', M.le M' → St w0 w' M' F → RA w' A cs
section
variable {w0 w : World} {M M' : Mem} {L : List Ent}
theorem SrA.cons {A : Option Addr} {cs : List Value} (h : SrA w0 M L A cs) (e : Ent) : SrA w0 M (e :: L) A cs := fun w' M' hM H => h w' M' hM H.d0
theorem SrA.le {A : Option Addr} {cs : List Value} (h : SrA w0 M L A cs) (hm : M.le M') : SrA w0 M' L A cs := fun w' M'' hM H => h w' M'' (hm.trans hM) H
theorem SrA.now {A : Option Addr} {cs : List Value} (h : SrA w0 M L A cs) (H : St w0 w M L) : RA w A cs := h w M (Mem.le.refl M) H
theorem SrA.row {e : TypeId} {sz n c : Nat} {A : Option Addr} {cs : List Value} (i : Nat) (hi : L[i]? = some (er e sz (.slice A n c) n cs)) : SrA w0 M L A cs := fun w' M' hM H => er_RA (H.get i hi)
theorem SrA.of_in {A : Option Addr} {cs : List Value} (h : In M (RA · A cs)) : SrA w0 M L A cs := fun w' M' hM H => (h.le hM).now H
theorem Wd.In.oldRA {w0 w : World} {M : Mem} {L : List Ent} (H : St w0 w M L) {A : Option Addr} {cs : List Value} (hb : RA w0 A cs) : In M fun W => RA W A cs := fun W hW hl => by
  obtain ⟨b, o, rfl, hlt, hr⟩ := hb hl
  have he : W.heap[b]? = w0.heap[b]? := by
    have h1 := H.old b hlt
    rw [Array.getElem?_eq_getElem hlt] at h1 ⊢
    exact hW b _ h1
  refine ⟨b, o, rfl, ?_, fun j v hj => (World.cell?_of_block (w := w0) he).trans (hr j v hj)⟩
  rw [Array.getElem?_eq_getElem hlt] at he
  exact (Array.getElem?_eq_some_iff.1 he).1
theorem Tryd.sizePart : (Tryd.prog.info? 42).map (·.size) = some 3 := by kernel_rfl
theorem Tryd.zeroPart : (Tryd.prog.info? 42).map (fun i => (i.zero, i.size)) = some (some (.agg #[.string .empty, .int .u64 0, .bool false]), 3) := by kernel_rfl
set_option maxRecDepth 100000 in
theorem num_any (H : St w0 w M L) (n : Nat) :
    Calls Tryd.prog 19 #[.int .u64 (n : Int)] w fun e w' => e = .returned (pv ⟨[], n, false⟩) ∧ St w0 w' M L := by
  go_enter Tryd.func19, Tryd.ntmps19
  go_wp2
  refine ret_row (H.new [.string .empty, .int .u64 (n : Int), .bool false] 42) (s := 2) rfl rfl Tryd.underlying42 rfl Tryd.sizePart rfl ?_
  exact ⟨rfl, (H.new _ _).d0⟩
set_option maxRecDepth 100000 in
theorem text_any (H : St w0 w M L) (l : List UInt8) :
    Calls Tryd.prog 20 #[.string (str l)] w fun e w' => e = .returned (pv ⟨l, 0, true⟩) ∧ St w0 w' M L := by
  go_enter Tryd.func20, Tryd.ntmps20
  go_wp2
  refine ret_row (H.new [.string (str l), .int .u64 0, .bool true] 42) (s := 2) rfl rfl Tryd.underlying42 rfl Tryd.sizePart rfl ?_
  exact ⟨rfl, (H.new _ _).d0⟩
set_option maxRecDepth 100000 in
theorem may_any (H : St w0 w M L) (p : Tu.Part) :
    Calls Tryd.prog 24 #[pv p] w fun e w' => e = .returned (.bool (Tu.may p)) ∧ St w0 w' M L := by
  obtain ⟨l, n, b⟩ := p
  obtain ⟨R, hR⟩ : ∃ R, R = Tu.may ⟨l, n, b⟩ := ⟨_, rfl⟩
  rw [← hR]
  unfold pv
  cases b with
  | true =>
    by_cases hn : n = 0
    · obtain rfl : R = true := by rw [hR]; simp [Tu.may, hn]
      subst hn
      clear hR
      go_enter Tryd.func24, Tryd.ntmps24
      go_wp2
      go_ret
      exact ⟨rfl, H.alloc _⟩
    · obtain rfl : R = false := by rw [hR]; simp [Tu.may, hn]
      have q : ((n : Int) == 0) = false := by simpa using hn
      clear hR hn
      go_enter Tryd.func24, Tryd.ntmps24
      go_wp2
      go_ret
      exact ⟨rfl, H.alloc _⟩
  | false =>
    cases l with
    | nil =>
      obtain rfl : R = true := by rw [hR]; simp [Tu.may]
      clear hR
      go_enter Tryd.func24, Tryd.ntmps24
      go_wp2
      go_ret
      exact ⟨rfl, H.alloc _⟩
    | cons c r =>
      obtain rfl : R = false := by rw [hR]; simp [Tu.may]
      clear hR
      go_enter Tryd.func24, Tryd.ntmps24
      go_wp2
      go_ret
      exact ⟨rfl, H.alloc _⟩
end
end Go.Proofs.YtbmiifglpjeegaaDoor
