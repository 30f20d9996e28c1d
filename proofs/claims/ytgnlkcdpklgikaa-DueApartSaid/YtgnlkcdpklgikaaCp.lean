/- copy of elements of any size into a block that is known whole; zeros appended to a row that has no room. No program is in sight. -/
import Derived.Test.YtgnlkcdpklgikaaSl
import Derived.Lib.AppendZerosOnto
import Derived.Laws.IdiomCopy
set_option linter.unusedVariables false
set_option linter.unusedSimpArgs false
namespace Go.Proofs.Ytgnlkcdpklgikaa
open Go.RowKit Wd
section
variable {P : Program} {ops : Array Oper} {rest : List Oper} {op : Oper} {a : Act} {w0 w : World} {M : Mem} {Q : Exit → Act → World → Prop} {F : List Ent}
theorem run_copy_any {dT sT ty elem t : TypeId} {k g off dLen dCap : Nat} {cur cs : List Value} (hu : P.underlying dT = some (.slice elem)) (hs : (P.info? elem).map (·.size) = some k) (hb : Blk w g t cur) (ad : Addr) (sLen sCap : Nat)
    (hn : cs.length = Nat.min sLen dLen * k) (hsrc : ∀ j v, cs[j]? = some v → w.cell? (ad.add j) = some v) (hfit : off + cs.length ≤ cur.length) (h1 : ∀ v ∈ cs, v.oneCell' = true) :
    (Builtin.copy_ #[dT, sT] ty #[.slice (some ⟨g, off, none⟩) dLen dCap, .slice (some ad) sLen sCap]).run P w = .ok (goInt (Nat.min sLen dLen)) (w.setCells g off cs) := by
  have hl := run_loadCells_list (P := P) w ad cs hsrc
  have hst := run_storeCells_cells (P := P) g off cs 0 w (by
    intro j hj
    rw [Nat.add_zero, hb.cell, List.getElem?_eq_getElem (by omega)]
    rfl) (by intro j hj; exact hb.frozen _) h1
  cases hq : P.info? elem with
  | none => simp [hq] at hs
  | some i =>
    have hi : i.size = k := by simpa [hq] using hs
    rw [hn] at hl
    have e : ∀ n : Nat, n = Nat.min sLen dLen → (Builtin.firstCells k n (.slice (some ad) sLen sCap)).run P w = .ok cs.toArray w := fun n hn => by subst hn; exact hl
    simp [Builtin.copy_, run_underlying hu, Builtin.lenOf, sizeOf, typeInfo, hq, hi, e _ rfl, hst]
/-- copy into the first entry's block, elements of k cells. -/
theorem wpList_copy_any_st {k g : Nat} {t : TypeId} {cur cs : List Value} (H : St w0 w M (eb g t cur :: F)) (hgd : op.guard = none) (d s : Operand) (dT sT : TypeId) (ho : op.op = .call { callee := .builtin .copy, args := #[d, s], argTypes := #[dT, sT] }) (elem : TypeId) (hu : P.underlying dT = some (.slice elem)) (hsz : (P.info? elem).map (·.size) = some k)
    (off dLen dCap b o sLen sCap : Nat) (hd : a.eval d = .slice (some ⟨g, off, none⟩) dLen dCap) (hs : a.eval s = .slice (some ⟨b, o, none⟩) sLen sCap) (hn : cs.length = Nat.min sLen dLen * k) (hr : w.rangeAt b o cs) (hfit : off + cs.length ≤ cur.length) (h1 : ∀ v ∈ cs, v.oneCell' = true)
    (h : ∀ w', St w0 w' M (eb g t (ins cur off cs) :: F) → wpList P ops Q rest (a.put op.dst (goInt (Nat.min sLen dLen))) w') : wpList P ops Q (op :: rest) a w := by
  refine wpList_plain hgd fun K hK => ?_
  have hr := run_copy_any (P := P) (sT := sT) (ty := op.type) (dCap := dCap) hu hsz (H.blk 0 rfl) ⟨b, o, none⟩ sLen sCap hn (fun j v hj => by rw [Addr.add_mid]; exact hr j v hj) hfit h1
  unfold Oper.wp execOp
  simp only [ho, resolve, invoke, builtin, Sem.run_bind, Sem.run_pure, Result.andThen_ok, List.map_toArray, List.map_cons, List.map_nil, hd, hs, hr]
  exact hK _ _ (h _ (H.turnBlk ((Keeps.refl w (· = g)).setCells (.inl rfl) off cs) ((H.blk 0 rfl).setCells off cs hfit)))
/-- Zeros appended where there is no room: a new block. -/
theorem wpList_append_zeros_grow_st {e : TypeId} {z : Value} {sz by_ : Nat} (H : St w0 w M F) (hgd : op.guard = none) (s x : Operand) (t tn : TypeId) (kq kn : IntKind) (ho : op.op = .call { callee := .builtin .append, args := #[s, x], argTypes := #[t, tn] })
    (hinfo : (P.info? e).map (fun i => (i.zero, i.size, i.bytes)) = some (some z, sz, by_)) (hz : z.cells.size = sz) (hsz : 0 < sz) (ht : P.underlying t = some (.slice e)) (htn : P.underlying tn = some (.int kn))
    (b o n cap : Nat) (xs : List Value) (hs : a.eval s = .slice (some ⟨b, o, none⟩) n cap) (hxs : xs.length = n * sz) (hr : w.rangeAt b o xs) (k : Nat) (hx : a.eval x = .int kq (k : Int)) (h0 : 0 < k) (hfull : cap < n + k)
    (hb : (n + k) * by_ ≤ 140737488355328) (hb2 : n + k ≤ 140737488355328) (h : ∀ g c sp w', n + k ≤ c → c ≤ maxLen → sp.length = (c - n) * sz → St w0 w' M (eb g e (xs ++ sp) :: F) → wpList P ops Q rest (a.put op.dst (.slice (some ⟨g, 0, none⟩) (n + k) c)) w') : wpList P ops Q (op :: rest) a w := by
  obtain ⟨i0, hi, hz0, hz1, hz2⟩ := info_parts hinfo
  refine wpList_plain hgd fun K hK => ?_
  have hold : (Builtin.firstCells i0.size n (.slice (some ⟨b, o, none⟩) n cap)).run P w.drew = .ok xs.toArray w.drew := by
    have hl := run_loadCells_list (P := P) w.drew ⟨b, o, none⟩ xs (fun j v hj => by rw [Addr.add_mid]; exact hr j v hj)
    rw [hxs] at hl
    rw [hz1]
    exact hl
  have h48 : k * by_ ≤ (n + k) * by_ := Nat.mul_le_mul_right _ (by omega)
  have hrun := Lib.run_append_grow_zeros (P := P) w t tn op.type e i0 z kq kn ht htn hi hz0 (some ⟨b, o, none⟩) n cap xs hold k h0 (by omega) hfull (by omega) (by rw [hz2]; omega) (by
    rw [hz2]
    exact growslice_fits hfull hb)
  unfold Oper.wp execOp
  simp only [ho, resolve, invoke, builtin, Sem.run_bind, Sem.run_pure, Result.andThen_ok, List.map_toArray, List.map_cons, List.map_nil, hs, hx, hrun]
  have hge := grownCap_ge w (n + k) cap e
  refine hK _ _ (h w.heap.size _ ((Builtin.zeroCells z.cells k).toList ++ (Builtin.zeroCells z.cells (grownCap w (n + k) cap e - (n + k))).toList) _ hge (grownCap_le_maxLen w _ _ e (by unfold maxLen; omega)) ?_ ?_)
  · rw [List.length_append, Array.length_toList, Array.length_toList, size_zeroCells, size_zeroCells, hz, ← Nat.add_mul]
    congr 1
    omega
  · have h1 := H.drew.new (xs ++ ((Builtin.zeroCells z.cells k).toList ++ (Builtin.zeroCells z.cells (grownCap w (n + k) cap e - (n + k))).toList)) e
    refine cast ?_ h1
    congr 3
    apply Array.ext'
    simp [List.append_assoc]
end
/-- A list behind the two stores of 'Insert'. -/
theorem Wd.ins_two {k i n : Nat} {cs xs ys : List Value} (hi : i ≤ n) (hy : ys.length = k) (hx : cs.take (n * k) = xs) (hl : (n + 1) * k ≤ cs.length) :
    (ins (ins cs ((i + 1) * k) (xs.drop (i * k))) (i * k) ys).take ((n + 1) * k) = xs.take (i * k) ++ ys ++ xs.drop (i * k) := by
  have e1 : (i + 1) * k = i * k + k := by rw [Nat.add_mul, Nat.one_mul]
  have e2 : (n + 1) * k = n * k + k := by rw [Nat.add_mul, Nat.one_mul]
  have e3 : i * k ≤ n * k := Nat.mul_le_mul_right _ hi
  have hxl : xs.length = n * k := by rw [← hx, List.length_take]; omega
  have hxg : ∀ j, xs[j]? = if j < n * k then cs[j]? else none := fun j => by rw [← hx, List.getElem?_take]
  rw [e2] at hl
  rw [e1, e2]
  generalize i * k = I at *
  generalize n * k = N at *
  subst hy
  apply List.ext_getElem?
  intro j
  unfold ins
  simp only [List.getElem?_append, List.getElem?_take, List.getElem?_drop, List.length_append, List.length_take, List.length_drop, hxl, hxg]
  rcases Nat.lt_or_ge j I with h1 | h1
  · grind
  · rcases Nat.lt_or_ge j (I + ys.length) with h2 | h2
    · grind
    · rcases Nat.lt_or_ge j (N + ys.length) with h3 | h3
      · grind
      · grind
theorem Wd.ins_grow {k i n : Nat} {cs xs ys sp : List Value} (hi : i ≤ n) (hy : ys.length = k) (hx : xs.length = n * k) (hl : (n + 1 - i) * k ≤ sp.length) :
    (ins (ins (xs.take (i * k) ++ sp) (i * k) ys) ((i + 1) * k) (xs.drop (i * k))).take ((n + 1) * k) = xs.take (i * k) ++ ys ++ xs.drop (i * k) := by
  have e1 : (i + 1) * k = i * k + k := by rw [Nat.add_mul, Nat.one_mul]
  have e2 : (n + 1) * k = n * k + k := by rw [Nat.add_mul, Nat.one_mul]
  have e3 : i * k ≤ n * k := Nat.mul_le_mul_right _ hi
  have e4 : (n + 1 - i) * k = n * k + k - i * k := by rw [Nat.sub_mul, Nat.add_mul, Nat.one_mul]
  rw [e4] at hl
  rw [e1, e2]
  generalize i * k = I at *
  generalize n * k = N at *
  subst hy
  apply List.ext_getElem?
  intro j
  unfold ins
  simp only [List.getElem?_append, List.getElem?_take, List.getElem?_drop, List.length_append, List.length_take, List.length_drop, hx]
  rcases Nat.lt_or_ge j I with h1 | h1
  · grind
  · rcases Nat.lt_or_ge j (I + ys.length) with h2 | h2
    · grind
    · rcases Nat.lt_or_ge j (N + ys.length) with h3 | h3
      · grind
      · grind
end Go.Proofs.Ytgnlkcdpklgikaa
