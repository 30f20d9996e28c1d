/- The contract of the reference's Consts. -/
import Derived.Test.YtcdljlaoedaliaaDoorRf
import Derived.Test.YtcdljlaoedaliaaDoorSo
import Derived.Test.YtcdljlaoedaliaaDoorRt
set_option linter.unusedVariables false
set_option linter.unusedSimpArgs false
namespace Go.Proofs.YtcdljlaoedaliaaDoor
open Go.RowKit Wd
theorem wpList_build_is {P : Program} {ops : Array Oper} {rest : List Oper} {o : Oper} {a : Act} {w : World} {Q : Exit → Act → World → Prop} (hg : o.guard = none) (t : TypeId) (parts : Array (Nat × Operand)) (ho : o.op = .build t parts) {cells : Array Value} (hb : P.built t (parts.map fun (i, x) => (i, a.eval x)).toList = some cells)
    (h : wpList P ops Q rest (a.put o.dst (.agg cells)) w) : wpList P ops Q (o :: rest) a w := by
  refine wpList_build hg t parts ho ?_ ?_
  · rw [hb]; rfl
  · rw [hb]; exact h
/-- Two results: two rows. -/
theorem ret_row2 {P : Program} {fn : Func} {R : Ending → World → Prop} {a : Act} {w0 w : World} {M : Mem} {L : List Ent} {g g' : Nat} {t ty t' ty' : TypeId} {cs cs' : List Value} {d d' : TypeDesc} (H : St w0 w M (eb g t cs :: L)) (H' : St w0 w M (eb g' t' cs' :: L))
    {s u : Tmp} (hr : fn.results = #[.cell s ty, .cell u ty']) (ht : a.tmps.getD s undef = .pointer (some ⟨g, 0, none⟩)) (ht' : a.tmps.getD u undef = .pointer (some ⟨g', 0, none⟩))
    (hu : P.underlying ty = some d) (hd : d.isRow = true) (hi : (P.info? ty).map (·.size) = some cs.length) (hu' : P.underlying ty' = some d') (hd' : d'.isRow = true) (hi' : (P.info? ty').map (·.size) = some cs'.length) (hf : a.defers = [])
    (hR : R (.returned (.tuple #[.agg cs.toArray, .agg cs'.toArray])) w) : bodyPost P fn R .ret a w := by
  refine bodyPost_ret (v := .tuple #[.agg cs.toArray, .agg cs'.toArray]) ?_ hf hR
  have h1 := load_row H hu hd hi
  have h2 := load_row H' hu' hd' hi'
  have e1 : a.tmps[s]?.getD undef = .pointer (some ⟨g, 0, none⟩) := by rw [← ht]; simp
  have e2 : a.tmps[u]?.getD undef = .pointer (some ⟨g', 0, none⟩) := by rw [← ht']; simp
  simp [results, hr, e1, e2, asAddr, Sem.run_pure, h1, h2]
set_option maxRecDepth 100000 in
set_option maxHeartbeats 1000000 in
theorem consts_any {w0 w : World} {M : Mem} {L : List Ent} (H : St w0 w M L) : Calls Tryd.prog 64 #[] w fun e w' => e = .returned (.tuple #[.agg (Sha.wv Sha.first.list).toArray, .agg (Sha.wv Sha.known).toArray]) ∧ St w0 w' M L := by
  have H1 := (H.new (Sha.wv (List.replicate 8 0)) 96).newg (Sha.wv (List.replicate 64 0)) 97 (g := w.heap.size + 1) (by simp)
  have e8 : (Sha.wv Sha.first.list).length = 8 := by rw [Sha.wv_length]; rfl
  have e64 : (Sha.wv Sha.known).length = 64 := by rw [Sha.wv_length]; rfl
  go_enter Tryd.func64, Tryd.ntmps64
  go_upto_region 1 with fail
  refine wp_region_lit ?_
  refine wpList_build_is (by rfl) 96 _ (by rfl) (cells := (Sha.wv Sha.first.list).toArray) (by kernel_rfl) ?_
  refine wpList_build_is (by rfl) 97 _ (by rfl) (cells := (Sha.wv Sha.known).toArray) (by kernel_rfl) ?_
  refine wpList_store_st H1.f1 (by rfl) 96 (.tmp 0) (.tmp 2) (by rfl) 0 (Sha.wv Sha.first.list) (by rfl) (by rfl) (by rw [e8, Sha.wv_length, List.length_replicate]; exact Nat.le_refl _) (by rw [e8]; exact Tryd.sizeH) (Sha.wv_one _) ?_
  intro w1 H2
  refine wpList_store_st H2.f1 (by rfl) 97 (.tmp 1) (.tmp 3) (by rfl) 0 (Sha.wv Sha.known) (by rfl) (by rfl) (by rw [e64, Sha.wv_length, List.length_replicate]; exact Nat.le_refl _) (by rw [e64]; exact Tryd.sizeW) (Sha.wv_one _) ?_
  intro w2 H3
  refine wpList_nil ?_
  rw [ins_all (Sha.wv (List.replicate 8 0)) (Sha.wv Sha.first.list) (by rw [e8, Sha.wv_length, List.length_replicate]), ins_all (Sha.wv (List.replicate 64 0)) (Sha.wv Sha.known) (by rw [e64, Sha.wv_length, List.length_replicate])] at H3
  simp only [Act.put]
  go_wp2
  refine ret_row2 H3.f1.d1 H3.d1 (by rfl) (by rfl) (by rfl) Tryd.underlying96 (by rfl) (by rw [e8]; exact Tryd.sizeH) Tryd.underlying97 (by rfl) (by rw [e64]; exact Tryd.sizeW) rfl ?_
  exact ⟨rfl, H3.d0.d0⟩
end Go.Proofs.YtcdljlaoedaliaaDoor
