/- '==' of two arrays of bytes. No program is in sight. -/
import Derived.Test.YtcdljlaoedaliaaDoorEq
import Derived.Test.YtcdljlaoedaliaaDoorChecked
import Derived.Test.YtcdljlaoedaliaaDoorHs
set_option linter.unusedVariables false
set_option linter.unusedSimpArgs false
namespace Go.Proofs.YtcdljlaoedaliaaDoor
open Go.RowKit Wd
section
variable {P : Program}
theorem eqItems_bytes (w : World) (d : Nat) {e : TypeId} (he : P.underlying e = some (.int .u8)) (hp : P.plainKey e = true) (D E : List UInt8) (hDE : D.length = E.length) : ∀ is : List Nat, (∀ i ∈ is, i < D.length) →
    (Op.eqItems (d + 1) e 1 (bv D).toArray (bv E).toArray is).run P w = .ok (is.all fun i => D.getD i 0 == E.getD i 0) w
  | [], _ => by simp [Op.eqItems]
  | i :: is, h => by
    have hi : i < D.length := h i (by simp)
    have hx : (bv D).toArray[i * 1]? = some (.int .u8 ((D.getD i 0).toNat : Int)) := by
      rw [Nat.mul_one, List.getElem?_toArray, bv_get, List.getElem?_eq_getElem hi, List.getD_eq_getElem?_getD, List.getElem?_eq_getElem hi]
      rfl
    have hy : (bv E).toArray[i * 1]? = some (.int .u8 ((E.getD i 0).toNat : Int)) := by
      rw [Nat.mul_one, List.getElem?_toArray, bv_get, List.getElem?_eq_getElem (by omega), List.getD_eq_getElem?_getD, List.getElem?_eq_getElem (by omega)]
      rfl
    have ih := eqItems_bytes w d he hp D E hDE is fun j hj => h j (by simp [hj])
    have p := run_part_plain w hp hx
    have p2 := run_part_plain w hp hy
    have q := run_equalIn_int (P := P) w d e .u8 .u8 ((D.getD i 0).toNat : Int) ((E.getD i 0).toNat : Int) he
    simp only [Op.eqItems, Sem.run_bind, p, p2, q, Result.andThen_ok]
    by_cases heq : D.getD i 0 = E.getD i 0
    · rw [heq]
      simp only [beq_self_eq_true, Bool.not_true, Bool.false_eq_true, if_false, List.all_cons, heq, Bool.true_and]
      exact ih
    · have h1 : (((D.getD i 0).toNat : Int) == ((E.getD i 0).toNat : Int)) = false := by
        simp only [beq_eq_false_iff_ne, ne_eq, Int.natCast_inj]
        exact fun h => heq (UInt8.toNat_inj.1 h)
      have h2 : (D.getD i 0 == E.getD i 0) = false := by simpa using heq
      simp only [h1, Bool.not_false, if_true, List.all_cons, h2, Bool.false_and, Sem.run_pure]
theorem run_eq_bytes (w : World) (d : Nat) {t e : TypeId} {n : Nat} {i : TypeInfo} (ht : P.underlying t = some (.array n e)) (hi : P.info? e = some i) (he : P.underlying e = some (.int .u8)) (hp : P.plainKey e = true) (hc : P.cellsOf e = 1) (D E : List UInt8) (hD : D.length = n) (hE : E.length = n) :
    (Op.equalIn (d + 2) t (.agg (bv D).toArray) (.agg (bv E).toArray)).run P w = .ok (decide (D = E)) w := by
  rw [run_equalIn_array w (d + 1) _ _ ht hi, hc, eqItems_bytes w d he hp D E (by omega) _ fun j hj => by rw [hD]; exact List.mem_range.1 hj]
  congr 1
  rw [Bool.eq_iff_iff]
  simp only [List.all_eq_true, List.mem_range, beq_iff_eq, decide_eq_true_eq]
  constructor
  · intro h
    apply List.ext_getElem (by omega)
    intro j h1 h2
    have := h j (by omega)
    rw [List.getD_eq_getElem?_getD, List.getD_eq_getElem?_getD, List.getElem?_eq_getElem h1, List.getElem?_eq_getElem h2] at this
    exact this
  · rintro rfl j _
    rfl
end
theorem Tryd.cells_byte : Tryd.prog.cellsOf 5 = 1 := by kernel_rfl
theorem Tryd.plain_byte : Tryd.prog.plainKey 5 = true := by kernel_rfl
theorem Tryd.eqb32 (w : World) (D E : List UInt8) (hD : D.length = 32) (hE : E.length = 32) : (Op.equalIn 10000 40 (.agg (bv D).toArray) (.agg (bv E).toArray)).run Tryd.prog w = .ok (decide (D = E)) w := by
  obtain ⟨i, hi, _⟩ := info_parts Tryd.info5
  exact run_eq_bytes w 9998 Tryd.underlying40 hi Tryd.underlying5 Tryd.plain_byte Tryd.cells_byte D E hD hE
theorem Tryd.eq32 (w : World) (D : List UInt8) (hD : D.length = 32) : (Op.equalIn 10000 40 (.agg (bv D).toArray) (.agg (bv D).toArray)).run Tryd.prog w = .ok true w := by
  rw [Tryd.eqb32 w D D hD hD]; simp
end Go.Proofs.YtcdljlaoedaliaaDoor
