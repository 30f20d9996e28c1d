/- How a file and the reference's file go together: in plain Lean. No program is in sight. -/
import Derived.Test.YtinhpiggakillaaR6
import Derived.Test.YtinhpiggakillaaFs
import Derived.Test.YtinhpiggakillaaCv
set_option linter.unusedVariables false
set_option linter.unusedSimpArgs false
namespace Go.Proofs.Ytinhpiggakillaa
open Go.RowKit Wd

/-- The reference's file. -/
structure RM where
  b : List UInt8
  ws : List WE
  set : Bool
  left : Int
  torn : Int
  off : Bool
def atB (l : List UInt8) (i : Nat) : List UInt8 := (l.drop (64 * i)).take 64
/-- The pending writes, with what each found. -/
def pends (b : List UInt8) : List WE → List PW
  | [] => []
  | e :: ws => ⟨e.at_, atB b e.at_, e.l⟩ :: pends (spl b (64 * e.at_) e.l) ws
theorem pends_snoc (b : List UInt8) (ws : List WE) (e : WE) : pends b (ws ++ [e]) = pends b ws ++ [⟨e.at_, atB (lay b ws) e.at_, e.l⟩] := by
  induction ws generalizing b with
  | nil => rfl
  | cons x ws ih => simp only [List.cons_append, pends, ih]; rfl
theorem pends_length (b : List UInt8) (ws : List WE) : (pends b ws).length = ws.length := by
  induction ws generalizing b with
  | nil => rfl
  | cons x ws ih => simp [pends, ih]
theorem pends_drop (b : List UInt8) (ws : List WE) (k : Nat) : (pends b ws).drop k = pends (lay b (ws.take k)) (ws.drop k) := by
  induction ws generalizing b k with
  | nil => simp [pends]
  | cons x ws ih =>
    cases k with
    | zero => rfl
    | succ k => simp only [pends, List.drop_succ_cons, List.take_succ_cons, ih]; rfl
theorem lay_append (b : List UInt8) (a c : List WE) : lay b (a ++ c) = lay (lay b a) c := by simp [lay]
theorem spl_back (l m : List UInt8) (i : Nat) (hm : m.length = 64) (hl : 64 * i + 64 ≤ l.length) : spl (spl l (64 * i) m) (64 * i) (atB l i) = l := by
  unfold spl atB
  apply List.ext_getElem?
  intro j
  simp only [List.getElem?_append, List.getElem?_take, List.getElem?_drop, List.length_append, List.length_take, List.length_drop]
  grind
/-- Undoing all writes. -/
theorem undo_pends (n : Nat) (b : List UInt8) (hb : b.length = 64 * n) (ws : List WE) (hw : ∀ e ∈ ws, e.ok n) : undo (lay b ws) (pends b ws) = b := by
  induction ws generalizing b with
  | nil => rfl
  | cons e ws ih =>
    have he := hw e (by simp)
    have h1 := ih (spl b (64 * e.at_) e.l) (by rw [spl_length _ _ _ (by rw [he.2.1, hb]; have := he.1; omega), hb]) fun x hx => hw x (by simp [hx])
    show undo (lay (spl b (64 * e.at_) e.l) ws) (⟨e.at_, atB b e.at_, e.l⟩ :: pends (spl b (64 * e.at_) e.l) ws) = b
    unfold undo
    rw [h1]
    exact spl_back b e.l e.at_ he.2.1 (by rw [hb]; have := he.1; omega)
theorem crashed_pends (n : Nat) (b : List UInt8) (hb : b.length = 64 * n) (ws : List WE) (hw : ∀ e ∈ ws, e.ok n) (K T : Nat) : crashed (lay b ws) (pends b ws) K T = wrecked b ws K T := by
  unfold crashed wrecked
  rw [pends_drop]
  rcases Nat.lt_or_ge K ws.length with hK | hK
  · rw [List.drop_eq_getElem_cons hK, List.getElem?_eq_getElem hK]
    have hB := lay_length b n hb (ws.take K) fun e he => hw e (List.mem_of_mem_take he)
    have h := undo_pends n (lay b (ws.take K)) hB (ws.drop K) fun e he => hw e (List.mem_of_mem_drop he)
    rw [← lay_append, List.take_append_drop, List.drop_eq_getElem_cons hK] at h
    show spl (undo (lay b ws) (pends (lay b (ws.take K)) (ws[K] :: ws.drop (K + 1)))) (64 * (ws[K]).at_) ((ws[K]).l.take T) = _
    rw [h]
  · rw [List.drop_eq_nil_of_le hK, List.getElem?_eq_none hK]
    rfl
theorem wrecked_length (n : Nat) (b : List UInt8) (hb : b.length = 64 * n) (ws : List WE) (hw : ∀ e ∈ ws, e.ok n) (K T : Nat) : (wrecked b ws K T).length = 64 * n := by
  unfold wrecked
  cases h : ws[K]? with
  | none => exact lay_length b n hb ws hw
  | some e =>
    have he := hw e (List.mem_of_getElem? h)
    show (spl _ _ _).length = _
    have hB := lay_length b n hb (ws.take K) fun e he => hw e (List.mem_of_mem_take he)
    rw [spl_length _ _ _ (by rw [List.length_take, he.2.1, hB]; have := he.1; omega), hB]

/-- What an act leaves of the reference's file. -/
def RM.sync (R : RM) : RM := { R with b := lay R.b R.ws, ws := [] }
def RM.fuse (R : RM) (k t : Int) : RM := { R with set := !R.off, left := max 0 k, torn := t }
def RM.crash (R : RM) (k t : Int) : RM := ⟨wrecked R.b R.ws (max 0 k).toNat (min 64 (max 0 t)).toNat, [], false, 0, 0, false⟩
def RM.blow (R : RM) (i : Nat) (m : List UInt8) : RM := ⟨spl (lay R.b R.ws) (64 * i) (m.take (min 64 (max 0 R.torn)).toNat), [], false, 0, 0, true⟩
def RM.put (R : RM) (e : WE) : RM := { R with ws := R.ws ++ [e], left := R.left - 1 }
/-- The file and the reference's, behind j acts at the most. -/
structure Rel (F : FM) (R : RM) (j : Nat) : Prop where
  n2 : F.n ≤ 4096
  len : R.b.length = 64 * F.n
  ok : ∀ e ∈ R.ws, e.ok F.n
  l : F.l = lay R.b R.ws
  pend : F.pend = pends R.b R.ws
  set : F.set = R.set
  off : F.off = R.off
  left : R.set = true → F.left = R.left ∧ 0 ≤ R.left
  lo : -(j : Int) ≤ R.left
  hi : R.left ≤ 9223372036854775807
  torn : R.set = true → F.torn = min 64 (max 0 R.torn)
  many : R.ws.length ≤ j
section
variable {F : FM} {R : RM} {j : Nat}
theorem Rel.mono (h : Rel F R j) {j' : Nat} (hj : j ≤ j') : Rel F R j' := { h with lo := by have := h.lo; omega, many := by have := h.many; omega }
theorem Rel.pn (h : Rel F R j) : F.pend.length = R.ws.length := by rw [h.pend, pends_length]
theorem Rel.at_ (h : Rel F R j) (i : Nat) : F.at_ i = ((lay R.b R.ws).drop (64 * i)).take 64 := by rw [FM.at_eq, h.l]
theorem Rel.sync (h : Rel F R j) : Rel { F with pend := [] } R.sync j :=
  { n2 := h.n2, len := lay_length _ _ h.len _ h.ok, ok := (fun e he => by simp [RM.sync] at he), l := h.l, pend := rfl, set := h.set, off := h.off, left := h.left, lo := h.lo, hi := h.hi, torn := h.torn, many := by simp [RM.sync] }
theorem Rel.fuse (h : Rel F R j) (k t : Int) (hk : k ≤ 9223372036854775807) : Rel (F.fuse k t) (R.fuse k t) j :=
  { n2 := h.n2, len := h.len, ok := h.ok, l := h.l, pend := h.pend, set := (by show (!F.off) = !R.off; rw [h.off]), off := h.off, left := (fun _ => ⟨rfl, by show 0 ≤ max 0 k; omega⟩), lo := (by show -(j : Int) ≤ max 0 k; have := h.lo; omega), hi := (by show max 0 k ≤ _; omega), torn := fun _ => rfl, many := h.many }
theorem Rel.crash (h : Rel F R j) (k t : Int) : Rel (F.crash k t) (R.crash k t) j :=
  { n2 := h.n2, len := wrecked_length _ _ h.len _ h.ok _ _, ok := (fun e he => by simp [RM.crash] at he),
    l := (by show crashed F.l F.pend _ _ = lay (wrecked R.b R.ws _ _) []; rw [h.l, h.pend, crashed_pends F.n R.b h.len R.ws h.ok]; rfl),
    pend := rfl, set := rfl, off := rfl, left := (fun h => by cases h), lo := (by show -(j : Int) ≤ 0; omega), hi := (by show (0 : Int) ≤ _; omega), torn := (fun h => by cases h), many := by simp [RM.crash] }
theorem Rel.off_ (h : Rel F R j) (ho : R.off = true) (i : Nat) (m : List UInt8) : F.write i m = F := by unfold FM.write; rw [if_pos (by rw [h.off, ho])]
theorem Rel.blow (h : Rel F R j) (ho : R.off = false) (hs : R.set = true) (hl : R.left = 0) (i : Nat) (hi : i < F.n) (m : List UInt8) (hm : m.length = 64) : Rel (F.write i m) (R.blow i m) j := by
  have hw : F.write i m = F.fused i m := by
    unfold FM.write
    rw [if_neg (by rw [h.off, ho]; simp), if_pos (by rw [h.set, hs, (h.left hs).1, hl]; rfl)]
  rw [hw]
  have hlen := lay_length _ _ h.len _ h.ok
  have ht := h.torn hs
  refine { n2 := h.n2, len := ?_, ok := (fun e he => by simp [RM.blow] at he), l := ?_, pend := rfl, set := rfl, off := rfl, left := fun h => (by cases h), lo := (by show -(j : Int) ≤ 0; omega), hi := (by show (0 : Int) ≤ _; omega), torn := fun h => (by cases h), many := by simp [RM.blow] }
  · show (spl _ _ _).length = 64 * F.n
    rw [spl_length _ _ _ (by rw [List.length_take, hm, hlen]; omega), hlen]
  · show spl F.l (64 * i) (m.take F.torn.toNat) = spl (lay R.b R.ws) (64 * i) (m.take (min 64 (max 0 R.torn)).toNat)
    rw [h.l, ht]
theorem Rel.put (h : Rel F R j) (ho : R.off = false) (hs : R.set = true → R.left ≠ 0) (e : WE) (he : e.ok F.n) : Rel (F.write e.at_ e.l) (R.put e) (j + 1) := by
  have hw : F.write e.at_ e.l = F.put e.at_ e.l := by
    unfold FM.write
    rw [if_neg (by rw [h.off, ho]; simp), if_neg]
    intro h2
    simp only [Bool.and_eq_true, beq_iff_eq] at h2
    have h3 := h.set ▸ h2.1
    exact hs h3 ((h.left h3).1 ▸ h2.2)
  rw [hw]
  refine { n2 := h.n2, len := h.len, ok := fun x hx => ?_, l := ?_, pend := ?_, set := h.set, off := h.off, left := fun h1 => ?_, lo := (by show -((j + 1 : Nat) : Int) ≤ R.left - 1; have := h.lo; omega), hi := (by show R.left - 1 ≤ _; have := h.hi; omega), torn := h.torn, many := (by show (R.ws ++ [e]).length ≤ j + 1; have := h.many; simp; omega) }
  · have hx' : x ∈ R.ws ++ [e] := hx
    rcases List.mem_append.1 hx' with hx | hx
    · exact h.ok x hx
    · rw [List.mem_singleton] at hx; subst hx; exact he
  · show spl F.l _ _ = lay R.b (R.ws ++ [e])
    rw [lay_snoc, h.l]
  · show F.pend ++ [⟨e.at_, F.at_ e.at_, e.l⟩] = pends R.b (R.ws ++ [e])
    rw [pends_snoc, h.pend, h.at_]
    rfl
  · have h2 := h.left h1
    have h3 := hs h1
    refine ⟨?_, by show 0 ≤ R.left - 1; omega⟩
    show (if F.set then F.left - 1 else F.left) = R.left - 1
    rw [if_pos (h.set.trans h1), h2.1]
end
end Go.Proofs.Ytinhpiggakillaa
