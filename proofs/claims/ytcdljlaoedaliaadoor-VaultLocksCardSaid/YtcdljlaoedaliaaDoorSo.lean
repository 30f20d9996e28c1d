/- A whole block stored over: what the walk leaves behind a call whose row result is stored. No program is in sight. -/
import Derived.Test.YtcdljlaoedaliaaDoorSl
import Derived.Laws.Tables
set_option linter.unusedVariables false
set_option linter.unusedSimpArgs false
namespace Go.Proofs.YtcdljlaoedaliaaDoor
open Go.RowKit Wd
theorem run_store_st {P : Program} {w0 w : World} {M : Mem} {F : List Ent} {g : Nat} {t : TypeId} {cur cs : List Value} (H : St w0 w M (eb g t cur :: F)) (hlen : cs.length = cur.length) (h1 : ∀ v ∈ cs, v.oneCell' = true) :
    ∃ w', (storeCells ⟨g, 0, none⟩ cs).run P w = .ok () w' ∧ St w0 w' M (eb g t cs :: F) := by
  have h := run_storeCells_from (P := P) g t cs 0 cur.toArray w (H.blk 0 rfl) (by simp; omega) h1
  refine ⟨_, h, ?_⟩
  simp only [List.take_zero, List.nil_append]
  exact H.turnBlk (keeps_setRow (Keeps.refl w (· = g)) (.inl rfl) _) (blk_setRow (H.blk 0 rfl) cs)
end Go.Proofs.YtcdljlaoedaliaaDoor
