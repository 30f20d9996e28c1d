/- '==' of two arrays of bytes that are the same. No program is in sight. -/
import Derived.Test.YtcdljlaoedaliaaDoorWd
import Derived.ChangeKeysEq
import Derived.Laws.StructEq
set_option linter.unusedVariables false
set_option linter.unusedSimpArgs false
namespace Go.Proofs.YtcdljlaoedaliaaDoor
open Go.RowKit Wd
section
variable {P : Program}
theorem eqItems_same (w : World) (d : Nat) {e : TypeId} (he : P.underlying e = some (.int .u8)) (hp : P.plainKey e = true) (D : List UInt8) : ∀ is : List Nat, (∀ i ∈ is, i < D.length) → (Op.eqItems (d + 1) e 1 (bv D).toArray (bv D).toArray is).run P w = .ok true w
  | [], _ => by simp [Op.eqItems]
  | i :: is, h => by
    have hx : (bv D).toArray[i * 1]? = some (.int .u8 ((D[i]'(h i (by simp))).toNat : Int)) := by
      rw [Nat.mul_one, List.getElem?_toArray, bv_get, List.getElem?_eq_getElem (h i (by simp))]
      rfl
    have ih := eqItems_same w d he hp D is fun j hj => h j (by simp [hj])
    have p := run_part_plain w hp hx
    have q := run_equalIn_int (P := P) w d e .u8 .u8 ((D[i]'(h i (by simp))).toNat : Int) ((D[i]'(h i (by simp))).toNat : Int) he
    simp only [Op.eqItems, Sem.run_bind, p, q, Result.andThen_ok, beq_self_eq_true, Bool.not_true, Bool.false_eq_true, if_false]
    exact ih
theorem run_eq_same (w : World) (d : Nat) {t e : TypeId} {n : Nat} {i : TypeInfo} (ht : P.underlying t = some (.array n e)) (hi : P.info? e = some i) (he : P.underlying e = some (.int .u8)) (hp : P.plainKey e = true) (hc : P.cellsOf e = 1) (D : List UInt8) (hD : D.length = n) :
    (Op.equalIn (d + 2) t (.agg (bv D).toArray) (.agg (bv D).toArray)).run P w = .ok true w := by
  rw [run_equalIn_array w (d + 1) _ _ ht hi, hc]
  exact eqItems_same w d he hp D _ fun j hj => by rw [hD]; exact List.mem_range.1 hj
end
end Go.Proofs.YtcdljlaoedaliaaDoor
