/- Strings as bytes in memory: a string turned to bytes; strings and bytes appended to what is a call's own. No program is in sight. -/
import Derived.Test.YtpomjaidaignpaaWk
import Derived.Lib.AppendStr
import Derived.Lib.ConvBytes
set_option linter.unusedVariables false
set_option linter.unusedSimpArgs false
namespace Go.Proofs.Ytpomjaidaignpaa
open Go.RowKit Wd
/-- Block g is just these cells, with this mark. -/
def em (g : Nat) (t : TypeId) (cs : List Value) (fz : Nat × Nat) : Ent := ⟨some g, fun o => o = some (.cells cs.toArray t fz)⟩
section
variable {w0 w w' : World} {M M' : Mem} {L F : List Ent} {g : Nat} {t e : TypeId} {cs : List Value} {fz : Nat × Nat}
theorem em_heap (h : (em g t cs fz).holds M w) : w.heap[g]? = some (.cells cs.toArray t fz) := h.2.2
theorem Wd.St.newm (h : St w0 w M L) (cs : List Value) (t : TypeId) (fz : Nat × Nat) : St w0 (w.alloc (.cells cs.toArray t fz)) M (em w.heap.size t cs fz :: L) :=
  h.add ((Below.refl _ _).alloc (Nat.le_refl _) _) ⟨h.fresh (Nat.le_refl _), by show _ < (w.heap.push _).size; simp, heap_alloc_new w _⟩ fun g' hg' => by have : some w.heap.size = some g' := hg'; injection this with this; omega
theorem em_cell (h : (em g t cs fz).holds M w) (i : Nat) : w.cell? ⟨g, i, none⟩ = cs[i]? := by
  rw [cell_of_row w g i _ t fz (em_heap h)]; simp
theorem em_RB (h : (em g t cs fz).holds M w) {l : List UInt8} (hl : cs.take l.length = bv l) : RB w (some ⟨g, 0, none⟩) l := fun _ =>
  ⟨g, 0, rfl, h.2.1, fun j u hj => by
    rw [Nat.zero_add, em_cell h]
    rw [← hl, List.getElem?_take] at hj
    split at hj
    · exact hj
    · cases hj⟩
theorem Wd.St.keepm {l : List UInt8} (h : St w0 w M (em g t cs fz :: L)) (hl : cs.take l.length = bv l) : ∃ M', M.le M' ∧ St w0 w M' L ∧ In M' fun W => RB W (some ⟨g, 0, none⟩) l := by
  obtain ⟨M', h1, h2, h3, _⟩ := h.lend
  exact ⟨M', h1, h2, h3.imp fun W hW => em_RB hW hl⟩
/-- A literal of bytes that was turned to its own type: never written again. -/
theorem Wd.St.constBytes (h : St w0 w M L) (l : List UInt8) (t : TypeId) (fz : Nat × Nat) : ∃ M', M.le M' ∧ St w0 (w.alloc (.cells (bv l).toArray t fz)) M' L ∧ In M' fun W => RB W (some ⟨w.heap.size, 0, none⟩) l :=
  (h.newm (bv l) t fz).keepm (by rw [List.take_of_length_le (by rw [bv_length]; exact Nat.le_refl _)])
theorem turnRow' {sz n n' : Nat} {v v' : Value} {xs xs' : List Value} (h : St w0 w M (er e sz v n xs :: L)) (hg : w.grownBy w' v.ownBlock) (hcase : ∀ g, v'.ownBlock = some g → v.ownBlock = some g ∨ w.heap.size ≤ g) (ho : w'.ownsRow w0.heap.size e sz v' n' xs') : St w0 w' M (er e sz v' n' xs' :: L) := by
  refine h.turn ⟨hg.os, hg.tape, hg.output, hg.size, fun k hk hn => hg.block k hk fun he => hn he.symm⟩ (er_mk ho fun g hg' => ?_) hcase
  rcases hcase g hg' with h1 | h1
  · exact (Ent.holds_lt (h.get 0 rfl) h1).1
  · exact h.fresh h1
end
section
variable {P : Program} {ops : Array Oper} {rest : List Oper} {op : Oper} {a : Act} {w0 w : World} {M : Mem} {Q : Exit → Act → World → Prop} {F : List Ent}
theorem strCells_bv (l : List UInt8) : Lib.strCells ⟨l.toArray⟩ = bv l := by
  unfold Lib.strCells bv
  simp
/-- A string's bytes appended to a row of bytes: the run. -/
theorem append_str_run {t u ty e : TypeId} {v : Value} {n : Nat} {xs : List Value} (H : St w0 w M (er e 1 v n xs :: F))
    (i5 : (P.info? e).map (fun i => (i.zero, i.size, i.bytes)) = some (some (.int .u8 0), 1, 1)) (ht : P.underlying t = some (.slice e)) (hu : P.underlying u = some .string) (l : List UInt8)
    (hb : n + l.length ≤ 140737488355328) : ∃ v' w', (Builtin.append_ #[t, u] ty #[v, .string ⟨l.toArray⟩]).run P w = .ok v' w' ∧ St w0 w' M (er e 1 v' (n + l.length) (xs ++ bv l) :: F) := by
  obtain ⟨i0, hi, hz0, hz1, hz2⟩ := info_parts i5
  have hsz : (ByteArray.mk l.toArray).size = l.length := by show l.toArray.size = _; simp
  have hown := H.own 0 rfl
  obtain ⟨v', w', hr, h2, h3, h4⟩ := Lib.run_append_own_string (P := P) w w0.heap.size t u ty e i0 ht hu hi hz0 hz1 hz2 v n xs hown ⟨l.toArray⟩ (by rw [hsz]; unfold maxLen; omega) (by rw [hsz]; omega) H.size
  refine ⟨v', w', hr, ?_⟩
  rw [hsz, strCells_bv] at h2
  refine turnRow' H h3 ?_ h2
  intro g hg
  have hxl : xs.length = n := by simpa using hown.1
  rcases hown.2 with ⟨rfl, rfl⟩ | ⟨g', cap, cur, rfl, hbg, hg2, hnc, hcm, hcs, htake⟩
  · by_cases hm : l.length = 0
    · have := h4.2 ⟨rfl, by rw [hsz]; exact hm⟩
      subst this
      cases hg
    · have hr2 := run_append_nil_string (P := P) w t u ty e i0 (.int .u8 0) ht hu hi hz0 ⟨l.toArray⟩ (by rw [hsz]; omega) (by rw [hsz]; omega) (by rw [hz2, hsz]; omega)
      rw [hr2] at hr
      injection hr with e1 e2
      rw [← e1] at hg
      have : w.heap.size = g := by simpa [Value.ownBlock] using hg
      exact .inr (by omega)
  · by_cases hroom : n + l.length ≤ cap
    · have hcs' : cur.size = cap := by simpa using hcs
      have hr2 := Lib.run_append_room_string (P := P) w t u ty e i0 ht hu hi hz1 g' n cap cur hg2 ⟨l.toArray⟩ (by rw [hsz]; exact hroom) (by rw [hsz]; omega)
      rw [hr2] at hr
      injection hr with e1 e2
      rw [← e1] at hg
      exact .inl hg
    · have holds : ∀ j u, xs[j]? = some u → w.cell? ((⟨g', 0, none⟩ : Addr).add j) = some u := own_holds hown _ rfl
      have hr2 := Lib.run_append_grow_string (P := P) w t u ty e i0 (.int .u8 0) ht hu hi hz0 ⟨g', 0, none⟩ n cap xs (by rw [hz1]; simpa using hxl) holds ⟨l.toArray⟩ (by rw [hsz]; omega) (by rw [hsz]; omega) (by rw [hz2, hsz]; exact growslice_fits (by omega) (by omega))
      rw [hr2] at hr
      injection hr with e1 e2
      rw [← e1] at hg
      have : w.heap.size = g := by simpa [Value.ownBlock] using hg
      exact .inr (by omega)
/-- A string's bytes appended to a row of bytes. -/
theorem wpList_append_str_st {e : TypeId} {v : Value} {n : Nat} {xs : List Value} (H : St w0 w M (er e 1 v n xs :: F)) (hgd : op.guard = none) (s x : Operand) (t u : TypeId) (ho : op.op = .call { callee := .builtin .append, args := #[s, x], argTypes := #[t, u] })
    (i5 : (P.info? e).map (fun i => (i.zero, i.size, i.bytes)) = some (some (.int .u8 0), 1, 1)) (ht : P.underlying t = some (.slice e)) (hu : P.underlying u = some .string) (hs : a.eval s = v) (l : List UInt8) (hx : a.eval x = .string ⟨l.toArray⟩)
    (hb : n + l.length ≤ 140737488355328) (h : ∀ v' w', St w0 w' M (er e 1 v' (n + l.length) (xs ++ bv l) :: F) → wpList P ops Q rest (a.put op.dst v') w') : wpList P ops Q (op :: rest) a w := by
  refine wpList_plain hgd fun K hK => ?_
  obtain ⟨v', w', hr, hH⟩ := append_str_run (P := P) (ty := op.type) H i5 ht hu l hb
  unfold Oper.wp execOp
  simp only [ho, resolve, invoke, builtin, Sem.run_bind, Sem.run_pure, Result.andThen_ok, List.map_toArray, List.map_cons, List.map_nil, hs, hx, hr]
  exact hK _ _ (h v' w' hH)
/-- A string turned to bytes: a new row, zeros behind them, marked. -/
theorem conv_st {src dst e : TypeId} (H : St w0 w M F) (hs : P.underlying src = some .string) (hd : P.underlying dst = some (.slice e)) (he : P.underlying e = some (.int .u8)) (l : List UInt8) (hl : l.length ≤ 140737488355328) :
    ∃ g c w', (convert src dst (.string ⟨l.toArray⟩)).run P w = .ok (.slice (some ⟨g, 0, none⟩) l.length c) w' ∧ l.length ≤ c ∧ c ≤ maxLen ∧ St w0 w' M (em g e (bv l ++ List.replicate (c - l.length) (Value.int .u8 0)) (c, c + 1) :: F) := by
  have hsz : (ByteArray.mk l.toArray).size = l.length := by show l.toArray.size = _; simp
  have hge := grownCap_ge w l.length 0 e
  have hcells : Lib.bytesCells w e ⟨l.toArray⟩ = (bv l ++ List.replicate (grownCap w l.length 0 e - l.length) (Value.int .u8 0)).toArray := by
    unfold Lib.bytesCells
    rw [hsz]
    apply Array.ext'
    simp [bv]
  have hlen : (bv l ++ List.replicate (grownCap w l.length 0 e - l.length) (Value.int .u8 0)).length = grownCap w l.length 0 e := by
    rw [List.length_append, bv_length, List.length_replicate]; omega
  refine ⟨w.heap.size, grownCap w l.length 0 e, Lib.bytesWorld w e ⟨l.toArray⟩, ?_, hge, grownCap_le_maxLen w l.length 0 e (by unfold maxLen; omega), ?_⟩
  · have h := Lib.run_convert_string_bytes (P := P) w src dst e ⟨l.toArray⟩ hs hd he
    rw [hsz] at h
    exact h
  · have hnew := Lib.bytesWorld_at_new w e ⟨l.toArray⟩
    have hsz2 : (bv l ++ List.replicate (grownCap w l.length 0 e - l.length) (Value.int .u8 0)).toArray.size = grownCap w l.length 0 e := by rw [List.size_toArray]; exact hlen
    rw [hcells, hsz2] at hnew
    refine H.add (a := em w.heap.size e (bv l ++ List.replicate (grownCap w l.length 0 e - l.length) (Value.int .u8 0)) (grownCap w l.length 0 e, grownCap w l.length 0 e + 1)) ⟨?_, ?_, ?_, ?_, ?_⟩ ⟨H.fresh (Nat.le_refl _), ?_, hnew⟩ (fun g' hg' => by have : some w.heap.size = some g' := hg'; injection this with this; omega)
    · simp [Lib.bytesWorld, World.freeze, World.alloc, World.drew, -World.alloc_eq, -World.drew_eq]
    · simp [Lib.bytesWorld, World.freeze, World.alloc, World.drew, -World.alloc_eq, -World.drew_eq]
    · simp [Lib.bytesWorld, World.freeze, World.alloc, World.drew, -World.alloc_eq, -World.drew_eq]
    · rw [Lib.bytesWorld_size]; omega
    · exact fun j hj => Lib.bytesWorld_at_old w e _ j hj
    · rw [Lib.bytesWorld_size]; omega
/-- Bytes appended to a string that was turned to bytes: what comes of it is never written again. -/
theorem wpList_append_conv_st {e : TypeId} {g c n : Nat} {k : List UInt8} (H : St w0 w M (em g e (bv k ++ List.replicate (c - k.length) (Value.int .u8 0)) (c, c + 1) :: F)) (hgd : op.guard = none) (s x : Operand) (t : TypeId) (ho : op.op = .call { callee := .builtin .append, args := #[s, x], argTypes := #[t, t] })
    (i5 : (P.info? e).map (fun i => (i.zero, i.size, i.bytes)) = some (some (.int .u8 0), 1, 1)) (ht : P.underlying t = some (.slice e)) (hs : a.eval s = .slice (some ⟨g, 0, none⟩) n c) (hn : n = k.length) (hc : n ≤ c)
    (B : Addr) (m d : Nat) (l : List UInt8) (hx : a.eval x = .slice (some B) m d) (hm : m = l.length) (hr : RB w (some B) l) (hb : n + m ≤ 140737488355328)
    (h : ∀ A' c' w' M', M.le M' → In M' (RB · (some A') (k ++ l)) → n + m ≤ c' → St w0 w' M' F → wpList P ops Q rest (a.put op.dst (.slice (some A') (n + m) c')) w') : wpList P ops Q (op :: rest) a w := by
  obtain ⟨i0, hi, hz0, hz1, hz2⟩ := info_parts i5
  subst hn hm
  have hh := H.get 0 rfl
  have hlen : (bv k ++ List.replicate (c - k.length) (Value.int .u8 0)).length = c := by rw [List.length_append, bv_length, List.length_replicate]; omega
  have hcl : ∀ i, w.cell? ⟨g, i, none⟩ = (bv k ++ List.replicate (c - k.length) (Value.int .u8 0))[i]? := em_cell hh
  have hfr : ∀ i, i < c → w.frozen? ⟨g, i, none⟩ = false := fun i hi' => by
    simp only [World.frozen?, em_heap hh, Bool.and_eq_false_iff, decide_eq_false_iff_not]
    left
    omega
  refine wpList_append_arg w hgd s x t ho e i0 (.int .u8 0) 1 1 ht hi hz0 hz1 hz2 rfl (by decide) g 0 k.length c (bv k) hs (by rw [bv_length, Nat.mul_one]) (fun j u hj => ?_) B l.length d (bv l) hx (by rw [bv_length, Nat.mul_one]) (fun j u hj => ?_) (bv_one l) (fun hroom j hj => ?_) (by unfold maxLen; omega) (by omega) (fun hroom => ?_) (fun hgrow v' w' ho' hg' => ?_)
  · rw [Nat.zero_add, hcl, List.getElem?_append_left (by exact (List.getElem?_eq_some_iff.1 hj).1)]
    exact hj
  · obtain ⟨b', o', he, _, hrg⟩ := hr (by rintro rfl; simp [bv] at hj)
    injection he with he
    subst he
    rw [Addr.add_mid]
    exact hrg j u hj
  · rw [bv_length] at hj
    refine ⟨?_, hfr _ (by omega)⟩
    rw [hcl, List.getElem?_eq_getElem (by rw [hlen]; omega)]
    rfl
  · rw [Nat.zero_add, Nat.mul_one]
    have hset : ∀ (m : List Value) (cs : List Value) (W : World) (o : Nat), W.heap[g]? = some (.cells cs.toArray e (c, c + 1)) → o + m.length ≤ cs.length → (W.setCells g o m).heap[g]? = some (.cells (ins cs o m).toArray e (c, c + 1)) := by
      intro m
      induction m with
      | nil => intro cs W o hW _; simpa [World.setCells, ins] using hW
      | cons v m ih =>
        intro cs W o hW ho2
        simp only [World.setCells]
        have hW2 : (W.setCell ⟨g, o, none⟩ v).heap[g]? = some (.cells (cs.set o v).toArray e (c, c + 1)) := by
          simp [World.setCell, Array.getElem?_modify, hW]
        rw [ih (cs.set o v) _ (o + 1) hW2 (by simp at ho2 ⊢; omega)]
        congr 3
        have hl : o < cs.length := by simp at ho2; omega
        unfold ins
        apply List.ext_getElem?
        intro j
        simp only [List.getElem?_append, List.getElem?_take, List.getElem?_drop, List.getElem?_set, List.length_append, List.length_take, List.length_set, List.length_cons, List.getElem?_cons]
        rcases Nat.lt_trichotomy j o with hj | hj | hj
        · grind
        · grind
        · grind
    have h1 := hset (bv l) _ w k.length (em_heap hh) (by rw [hlen, bv_length]; exact hroom)
    have hk : Keeps w (w.setCells g k.length (bv l)) (· = g) := (Keeps.refl w (· = g)).setCells (.inl rfl) _ _
    have H2 : St w0 (w.setCells g k.length (bv l)) M (em g e (ins (bv k ++ List.replicate (c - k.length) (Value.int .u8 0)) k.length (bv l)) (c, c + 1) :: F) :=
      H.turn (hk.imp fun j _ hj => by subst hj; rfl) ⟨hh.1, by rw [size_setCells]; exact hh.2.1, h1⟩ (fun _ h => .inl h)
    obtain ⟨M', hM', H3, hin⟩ := H2.keepm (l := k ++ l) (by
      unfold ins
      have e1 : (bv k ++ List.replicate (c - k.length) (Value.int .u8 0)).take k.length = bv k := by
        rw [List.take_append_of_le_length (by rw [bv_length]; exact Nat.le_refl _), bv_take, List.take_length]
      rw [e1, ← bv_append, List.take_append_of_le_length (by rw [bv_length]; exact Nat.le_refl _), bv_take, List.take_length])
    exact h ⟨g, 0, none⟩ c _ M' hM' hin hroom H3
  · have H2 : St w0 w' M (er e 1 v' (k.length + l.length) (bv (k ++ l)) :: F) := by
      rw [bv_append]
      exact H.d0.addRow ⟨hg'.os, hg'.tape, hg'.output, hg'.size, fun i hi => hg'.block i hi (by simp)⟩ ho'
    obtain ⟨A', c', rfl, hcc⟩ := H2.shape 0 rfl
    obtain ⟨M', hM', H3, hin⟩ := H2.keepRow
    cases A' with
    | none =>
      have h0 := (H2.shape' 0 rfl)
      obtain ⟨A2, c2, e2, h3, h4⟩ := h0
      injection e2 with e2 _ e3
      have := h4 e2.symm
      omega
    | some A' => exact h A' c' w' M' hM' hin hcc H3
end
end Go.Proofs.Ytpomjaidaignpaa
