/- Zeros appended to a row of bytes ('append(b, make([]byte, n)...)'). No program is in sight. -/
import Derived.Test.YtpomjaidaignpaaSg
import Derived.Lib.AppendZerosOnto
set_option linter.unusedVariables false
set_option linter.unusedSimpArgs false
namespace Go.Proofs.Ytpomjaidaignpaa
open Go.RowKit Wd
section
variable {P : Program} {ops : Array Oper} {rest : List Oper} {op : Oper} {a : Act} {w0 w : World} {M : Mem} {Q : Exit → Act → World → Prop} {F : List Ent}
/-- As many zeros of a string. -/
theorem run_append_zeros_str {t tn u ty e : TypeId} {i : TypeInfo} {kq kn : IntKind} (ht : P.underlying t = some (.slice e)) (htn : P.underlying tn = some (.int kn)) (hu : P.underlying u = some .string) (hi : P.info? e = some i) (hz : i.zero = some (.int .u8 0)) (h1 : i.size = 1) (hby : i.bytes = 1)
    (base : Option Addr) (sLen sCap k : Nat) (hk : sLen + k ≤ 140737488355328) (w : World) :
    (Builtin.append_ #[t, tn] ty #[.slice base sLen sCap, .int kq k]).run P w = (Builtin.append_ #[t, u] ty #[.slice base sLen sCap, .string ⟨(List.replicate k (0 : UInt8)).toArray⟩]).run P w := by
  have hw : IntKind.i64.wrap (k : Int) = k := by rw [IntKind.wrap_i64]; omega
  have hneg : ¬ ((k : Int) < 0) := by omega
  have h48i : ¬ (281474976710656 < (k : Int)) := by omega
  have hs : (ByteArray.mk (List.replicate k (0 : UInt8)).toArray).size = k := by show (List.replicate k (0 : UInt8)).toArray.size = k; simp
  have hzc : ∀ W, (Builtin.firstCells 1 k (.string ⟨(List.replicate k (0 : UInt8)).toArray⟩)).run P W = .ok (Builtin.zeroCells #[.int .u8 0] k) W := fun W => by
    have h := Lib.run_firstCells_string (P := P) W 1 ⟨(List.replicate k (0 : UInt8)).toArray⟩
    rw [hs] at h
    rw [h]
    congr 1
    apply Array.ext
    · simp [Builtin.zeroCells, Lib.strCells]
    · intro j h1 h2
      simp [Builtin.zeroCells, Lib.strCells, Nat.mod_one]
  have hz0 : Builtin.zeroCells #[.int .u8 0] 0 = #[] := by simp [Builtin.zeroCells]
  generalize ByteArray.mk (List.replicate k (0 : UInt8)).toArray = B at *
  by_cases hroom : sLen + k ≤ sCap
  · by_cases hk0 : k = 0
    · subst hk0
      rw [hz0] at hzc
      have hroom' : sLen ≤ sCap := hroom
      have hw0 : IntKind.i64.wrap 0 = 0 := by rw [IntKind.wrap_i64]; rfl
      simp [Builtin.append_, run_underlying ht, run_underlying htn, run_underlying hu, sizeOf, typeInfo, zeroValue, hi, hz, h1, hby, asInt, asIntOf, hw, hneg, h48i, Builtin.lenOf, hs, hroom', hzc, hw0]
    · simp [Builtin.append_, run_underlying ht, run_underlying htn, run_underlying hu, sizeOf, typeInfo, zeroValue, hi, hz, h1, hby, asInt, asIntOf, hw, hneg, h48i, Builtin.lenOf, hs, hroom, hzc, hk0, Value.cells]
  · have h48' : ¬ (281474976710656 < Builtin.nextslicecap (sLen + k) sCap) := by have := growslice_fits (bytes := 1) (by omega : sCap < sLen + k) (by omega); omega
    have h63' : ¬ (9223372036854775807 < ((sLen : Int) + (k : Int))) := by omega
    simp [Builtin.append_, run_underlying ht, run_underlying htn, run_underlying hu, sizeOf, typeInfo, zeroValue, hi, hz, h1, hby, asInt, asIntOf, hw, hneg, h48i, Builtin.lenOf, hs, hroom, hzc, Value.cells, h48', h63', Question.forced]
    congr 1
    funext a w'
    split
    · rename_i h0
      subst h0
      simp [hz0]
    · rfl
/-- Zeros appended to a row of bytes. -/
theorem wpList_append_zeros_st {e : TypeId} {v : Value} {n : Nat} {xs : List Value} (H : St w0 w M (er e 1 v n xs :: F)) (hgd : op.guard = none) (s x : Operand) (t tn u : TypeId) (kq kn : IntKind) (ho : op.op = .call { callee := .builtin .append, args := #[s, x], argTypes := #[t, tn] })
    (i5 : (P.info? e).map (fun i => (i.zero, i.size, i.bytes)) = some (some (.int .u8 0), 1, 1)) (ht : P.underlying t = some (.slice e)) (htn : P.underlying tn = some (.int kn)) (hu : P.underlying u = some .string) (hs : a.eval s = v) (k : Nat) (hx : a.eval x = .int kq (k : Int))
    (hb : n + k ≤ 140737488355328) (h : ∀ v' w', St w0 w' M (er e 1 v' (n + k) (xs ++ bv (List.replicate k 0)) :: F) → wpList P ops Q rest (a.put op.dst v') w') : wpList P ops Q (op :: rest) a w := by
  obtain ⟨i0, hi, hz0, hz1, hz2⟩ := info_parts i5
  obtain ⟨A, c, rfl, hc⟩ := H.shape 0 rfl
  refine wpList_plain hgd fun K hK => ?_
  obtain ⟨v', w', hr, hH⟩ := append_str_run (P := P) (ty := op.type) H i5 ht hu (List.replicate k 0) (by simpa using hb)
  rw [← run_append_zeros_str (kq := kq) ht htn hu hi hz0 hz1 hz2 A n c k hb w] at hr
  unfold Oper.wp execOp
  simp only [ho, resolve, invoke, builtin, Sem.run_bind, Sem.run_pure, Result.andThen_ok, List.map_toArray, List.map_cons, List.map_nil, hs, hx, hr]
  rw [List.length_replicate] at hH
  exact hK _ _ (h v' w' hH)
end
end Go.Proofs.Ytpomjaidaignpaa
