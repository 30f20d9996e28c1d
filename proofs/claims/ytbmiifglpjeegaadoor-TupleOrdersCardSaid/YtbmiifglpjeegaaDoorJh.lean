/- Strings as lists of bytes: index, slice; strings.IndexByte. -/
import Derived.Test.YtbmiifglpjeegaaDoorJe
import Derived.Test.YtbmiifglpjeegaaDoorJb
import Derived.Lib.Bytealg
import Derived.Laws.DeepStrings4
set_option linter.unusedVariables false
set_option linter.unusedSimpArgs false
namespace Go.Proofs.YtbmiifglpjeegaaDoor
open Go.RowKit Wd
theorem Tryd.mixed : Tryd.prog.follows .mixedOrders = true := by kernel_rfl
theorem str_size (l : List UInt8) : (str l).size = l.length := by show l.toArray.size = _; simp
theorem str_extract (l : List UInt8) (a b : Nat) : (str l).extract a b = str ((l.take b).drop a) := by
  apply ByteArray.ext
  rw [ByteArray.data_extract]
  simp [List.extract_toArray, List.extract_eq_take_drop, List.drop_take]
section
variable {P : Program} {t : TypeId} {k k' : IntKind}
theorem str_index (h : P.underlying t = some .string) (l : List UInt8) (q : Nat) (hq : q < l.length) {i : Int} (hi : i = (q : Int)) (w : World) : (Instr.index t (.string (str l)) (.int k i)).run P w = .ok (.int .u8 ((l[q]).toNat : Int)) w := by
  subst hi
  have hs : (ByteArray.mk l.toArray).size = l.length := by show l.toArray.size = _; simp
  rw [run_index_string w t _ k _ h, dif_pos (by rw [hs]; omega)]
  rfl
theorem str_from (h : P.underlying t = some .string) (l : List UInt8) (a : Nat) (ha : a ≤ l.length) {i : Int} (hi : i = (a : Int)) (w : World) : (Instr.slice t (.string (str l)) (some (.int k i)) none none).run P w = .ok (.string (str (l.drop a))) w := by
  subst hi
  rw [run_slice_string_l (ht := h) (h0 := by omega) (h1 := by rw [str_size]; omega), str_extract, str_size, List.take_length, Int.toNat_natCast]
theorem str_to (h : P.underlying t = some .string) (l : List UInt8) (b : Nat) (hb : b ≤ l.length) {i : Int} (hi : i = (b : Int)) (w : World) : (Instr.slice t (.string (str l)) none (some (.int k i)) none).run P w = .ok (.string (str (l.take b))) w := by
  subst hi
  rw [run_slice_string_h (ht := h) (h0 := by omega) (h2 := by rw [str_size]; omega), str_extract, List.drop_zero, Int.toNat_natCast]
theorem str_mid (h : P.underlying t = some .string) (l : List UInt8) (a b : Nat) (hab : a ≤ b) (hb : b ≤ l.length) {i j : Int} (hi : i = (a : Int)) (hj : j = (b : Int)) (w : World) : (Instr.slice t (.string (str l)) (some (.int k i)) (some (.int k' j)) none).run P w = .ok (.string (str ((l.take b).drop a))) w := by
  subst hi hj
  rw [run_slice_string_if w t _ k k' _ _ h, if_pos ⟨by omega, by rw [str_size]; omega⟩, if_pos ⟨by omega, by omega⟩, str_extract, Int.toNat_natCast, Int.toNat_natCast]
end
theorem Tu.idxb (s : List UInt8) : (Lib.indexByte s 0 = -1 ∧ ∀ c ∈ s, c ≠ 0) ∨ ∃ i : Nat, Lib.indexByte s 0 = i ∧ i < s.length ∧ (∀ c ∈ s.take i, c ≠ 0) ∧ s = s.take i ++ 0 :: s.drop (i + 1) := by
  induction s with
  | nil => exact .inl ⟨rfl, fun c h => by simp at h⟩
  | cons b l ih =>
    by_cases hb : b = 0
    · subst hb
      exact .inr ⟨0, by simp [Lib.indexByte], by simp, fun c h => by simp at h, by simp⟩
    · have h0 : (b == 0) = false := by simpa using hb
      rcases ih with ⟨h1, h2⟩ | ⟨i, h1, h2, h3, h4⟩
      · refine .inl ⟨by unfold Lib.indexByte; rw [h0, h1]; rfl, fun c hc => ?_⟩
        rcases List.mem_cons.1 hc with rfl | hc
        · exact hb
        · exact h2 c hc
      · refine .inr ⟨i + 1, ?_, by simpa using h2, fun c hc => ?_, ?_⟩
        · unfold Lib.indexByte
          rw [h0, h1]
          have : ((i : Int) == -1) = false := by rw [beq_eq_false_iff_ne]; omega
          simp [this]
        · rw [List.take_succ_cons] at hc
          rcases List.mem_cons.1 hc with rfl | hc
          · exact hb
          · exact h3 c hc
        · rw [List.take_succ_cons, List.drop_succ_cons, List.cons_append, ← h4]
theorem slite_any (s : ByteArray) (c : Int) (w : World) : Calls Tryd.prog 46 #[.string s, .int .u8 c] w fun e w' => e = .returned (.int .i64 (Lib.indexByte s.data.toList c.toNat.toUInt8)) ∧ w = w' := by
  go_enter Tryd.func46, Tryd.ntmps46
  go_wp2
  rw [run_callFunc_extern Tryd.func50 (by kernel_rfl) (by kernel_rfl) (by kernel_rfl) (e := Extern.BytealgIndexByte.indexByte) (by kernel_rfl), Lib.run_indexByteString]
  simp only [Result.andThen]
  rw [Oper.upon_value]
  go_wp2
  go_ret
  exact ⟨rfl, rfl⟩
theorem strs_any (s : ByteArray) (c : Int) (w : World) : Calls Tryd.prog 37 #[.string s, .int .u8 c] w fun e w' => e = .returned (.int .i64 (Lib.indexByte s.data.toList c.toNat.toUInt8)) ∧ w = w' := by
  go_enter Tryd.func37, Tryd.ntmps37
  go_wp2_with fail
  refine (slite_any s c w).mono ?_
  rintro e w' ⟨rfl, rfl⟩
  go_wp2
  go_ret
  exact ⟨rfl, rfl⟩
theorem idxb_any (s : List UInt8) (w : World) : Calls Tryd.prog 37 #[.string (str s), .int .u8 0] w fun e w' => e = .returned (.int .i64 (Lib.indexByte s 0)) ∧ w = w' := strs_any (str s) 0 w
section
variable {P : Program} {ops : Array Oper} {rest : List Oper} {op : Oper} {a : Act} {w : World} {Q : Exit → Act → World → Prop}
/-- A store whose run is known. -/
theorem wpList_store_run (hgd : op.guard = none) (ty : TypeId) (x y : Operand) (ho : op.op = .store ty x y) (ad : Addr) (v : Value) (hx : a.eval x = .pointer (some ad)) (hy : a.eval y = v) (w' : World) (hr : (storeVar ty ad v).run P w = .ok () w')
    (h : wpList P ops Q rest (a.put op.dst undef) w') : wpList P ops Q (op :: rest) a w :=
  wpList_plain hgd fun K hK => by
    unfold Oper.wp execOp
    simp only [ho, hx, hy, Instr.storeAt, Instr.sureAddr, Sem.run_bind, Sem.run_pure, Result.andThen_ok, hr]
    exact hK _ _ h
end
section
variable {P : Program} {fn : Func} {R : Ending → World → Prop} {a : Act} {w0 w : World} {M : Mem} {L : List Ent} {g : Nat} {t ty : TypeId} {cs : List Value} {d : TypeDesc}
/-- Three results: the row, and two values. -/
theorem ret_row_tmp2 (H : St w0 w M (eb g t cs :: L)) {s u v : Tmp} (hr : fn.results = #[.cell s ty, .tmp u, .tmp v]) (ht : a.tmps.getD s undef = .pointer (some ⟨g, 0, none⟩)) (hu : P.underlying ty = some d) (hd : d.isRow = true) (hi : (P.info? ty).map (·.size) = some cs.length) (hf : a.defers = [])
    (hR : R (.returned (.tuple #[.agg cs.toArray, a.tmps.getD u undef, a.tmps.getD v undef])) w) : bodyPost P fn R .ret a w := by
  refine bodyPost_ret (v := .tuple #[.agg cs.toArray, a.tmps.getD u undef, a.tmps.getD v undef]) ?_ hf hR
  have h1 := load_row H hu hd hi
  have ht' : a.tmps[s]?.getD undef = .pointer (some ⟨g, 0, none⟩) := by rw [← ht]; simp
  simp [results, hr, ht', asAddr, Sem.run_pure, h1]
end
end Go.Proofs.YtbmiifglpjeegaaDoor
