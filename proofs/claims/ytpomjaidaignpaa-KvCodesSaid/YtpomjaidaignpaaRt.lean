/- The end of a call whose result, or one of two, lies in memory: a row of cells of the call's own. -/
import Derived.Test.YtpomjaidaignpaaSl
import Derived.Deep.MidRow
import Derived.Tactics
set_option linter.unusedVariables false
set_option linter.unusedSimpArgs false
namespace Go.Proofs.Ytpomjaidaignpaa
open Go.RowKit Wd
section
variable {P : Program} {fn : Func} {R : Ending → World → Prop} {a : Act} {w0 w : World} {M : Mem} {L : List Ent} {g : Nat} {t ty : TypeId} {cs : List Value} {d : TypeDesc}
theorem load_row (H : St w0 w M (eb g t cs :: L)) (hu : P.underlying ty = some d) (hd : d.isRow = true) (hi : (P.info? ty).map (·.size) = some cs.length) : (loadVar ty ⟨g, 0, none⟩).run P w = .ok (.agg cs.toArray) w :=
  run_loadVar_mid w g 0 ty cs d ((H.blk 0 rfl).range 0 cs.length cs (by simp)) hu hd hi
/-- One result: the row. -/
theorem ret_row (H : St w0 w M (eb g t cs :: L)) {s : Tmp} (hr : fn.results = #[.cell s ty]) (ht : a.tmps.getD s undef = .pointer (some ⟨g, 0, none⟩)) (hu : P.underlying ty = some d) (hd : d.isRow = true) (hi : (P.info? ty).map (·.size) = some cs.length) (hf : a.defers = [])
    (hR : R (.returned (.agg cs.toArray)) w) : bodyPost P fn R .ret a w := by
  refine bodyPost_ret (v := .agg cs.toArray) ?_ hf hR
  have h1 := load_row H hu hd hi
  have ht' : a.tmps[s]?.getD undef = .pointer (some ⟨g, 0, none⟩) := by rw [← ht]; simp
  simp [results, hr, ht', asAddr, Sem.run_pure, h1]
/-- Two: the row, and a value. -/
theorem ret_row_tmp (H : St w0 w M (eb g t cs :: L)) {s u : Tmp} (hr : fn.results = #[.cell s ty, .tmp u]) (ht : a.tmps.getD s undef = .pointer (some ⟨g, 0, none⟩)) (hu : P.underlying ty = some d) (hd : d.isRow = true) (hi : (P.info? ty).map (·.size) = some cs.length) (hf : a.defers = [])
    (hR : R (.returned (.tuple #[.agg cs.toArray, a.tmps.getD u undef])) w) : bodyPost P fn R .ret a w := by
  refine bodyPost_ret (v := .tuple #[.agg cs.toArray, a.tmps.getD u undef]) ?_ hf hR
  have h1 := load_row H hu hd hi
  have ht' : a.tmps[s]?.getD undef = .pointer (some ⟨g, 0, none⟩) := by rw [← ht]; simp
  simp [results, hr, ht', asAddr, Sem.run_pure, h1]
end
end Go.Proofs.Ytpomjaidaignpaa
