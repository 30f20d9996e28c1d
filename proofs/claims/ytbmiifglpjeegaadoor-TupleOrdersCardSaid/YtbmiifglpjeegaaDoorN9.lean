/- Arguments that are slices of parts: nothing at nil. -/
import Derived.Test.YtbmiifglpjeegaaDoorJt
set_option linter.unusedVariables false
set_option linter.unusedSimpArgs false
namespace Go.Proofs.YtbmiifglpjeegaaDoor
open Go.ChangeShapes Go.WideShapes Go.ChangeAt Go.RowKit Wd
theorem arg_parts_own {H : Type} {enc : TypeId × Value → H} {W : World} {v : Value} {d : DataW H} {ps : List MemPlace} {r : Reach} {b0 : Nat}
    (hw : Value.okWide Tryd.prog W r b0 23 v) (h : DataW.Trod enc Tryd.prog W 0 (fun _ => true) true 23 v d ps) :
    ∃ (A : Option Addr) (c : Nat) (l : List Tu.Part), v = .slice A l.length c ∧ RA W A (pcs l) ∧ (∀ p ∈ l, p.num < 18446744073709551616) ∧ (A = none → c = 0) ∧ l.length ≤ c := by
  obtain ⟨A, c, l, he, h1, h2, h3, h4⟩ := arg_parts hw h
  obtain ⟨A', len, c', X, he', hA, _⟩ := arg_rows (H := H) (enc := enc) Tryd.underlying23 3 Tryd.cells_part (by decide) hw h
  rw [he] at he'
  injection he' with e1 e2 e3
  subst e1 e3
  exact ⟨A, c, l, he, h1, h2, fun h => (hA h).1, h3⟩
end Go.Proofs.YtbmiifglpjeegaaDoor
