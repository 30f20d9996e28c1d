/- Slices sliced, whatever their elements' size. No program is in sight. -/
import Derived.Test.YtepgmebklhemgaaGreatDoorA1
set_option linter.unusedVariables false
set_option linter.unusedSimpArgs false
namespace Go.Proofs.YtepgmebklhemgaaGreatDoor
open Go.RowKit Wd
/-- Where a slice begins that is sliced from lo on. -/
def sA (A : Option Addr) (cap lo sz : Nat) : Option Addr := if cap = lo then A else A.map (·.add (lo * sz))
section
variable {P : Program} {t e : TypeId} {sz : Nat}
theorem slK_l (W : World) (ht : P.underlying t = some (.slice e)) (hz : ∀ w, (Go.sizeOf e).run P w = .ok sz w) (A : Option Addr) (len cap lo : Nat) (h1 : lo ≤ len) :
    (Instr.slice t (.slice A len cap) (some (.int .i64 (lo : Int))) none none).run P W = .ok (.slice (sA A cap lo sz) (len - lo) (cap - lo)) W := by
  have ht' : P.underlying t = some (.slice (P.elem t)) := by simp [Program.elem, ht]
  have he : P.elem t = e := by simp [Program.elem, ht]
  rw [run_slice_l W t _ _ _ ht' .i64 _ (by omega) (by omega), he, hz]
  simp [Result.andThen, sliced, sA]
theorem slK_h (W : World) (ht : P.underlying t = some (.slice e)) (hz : ∀ w, (Go.sizeOf e).run P w = .ok sz w) (A : Option Addr) (len cap hi : Nat) (h2 : hi ≤ cap) :
    (Instr.slice t (.slice A len cap) none (some (.int .i64 (hi : Int))) none).run P W = .ok (.slice A hi cap) W := by
  have ht' : P.underlying t = some (.slice (P.elem t)) := by simp [Program.elem, ht]
  have he : P.elem t = e := by simp [Program.elem, ht]
  rw [run_slice_h W t _ _ _ ht' .i64 _ (by omega) (by omega), he, hz]
  cases A <;> simp [Result.andThen, sliced, Addr.add]
end
theorem sA_none {A : Option Addr} {cap lo sz : Nat} (h : sA A cap lo sz = none) : A = none := by
  unfold sA at h
  split at h
  · exact h
  · cases A with
    | none => rfl
    | some a => cases h
theorem RA.dropS {w : World} {A : Option Addr} {cs : List Value} (h : RA w A cs) {cap sz : Nat} (hc : cs.length ≤ cap * sz) (lo : Nat) : RA w (sA A cap lo sz) (cs.drop (lo * sz)) := fun hne => by
  have hcs : cs ≠ [] := fun e => hne (by rw [e, List.drop_nil])
  obtain ⟨b, o, rfl, hlt, hr⟩ := h hcs
  have hl : lo * sz < cs.length := by
    rcases Nat.lt_or_ge (lo * sz) cs.length with h1 | h1
    · exact h1
    · exact absurd (List.drop_eq_nil_of_le h1) hne
  have hcl : ¬ cap = lo := by rintro rfl; omega
  refine ⟨b, o + lo * sz, ?_, hlt, fun j v hj => ?_⟩
  · unfold sA
    rw [if_neg hcl]
    simp only [Option.map_some, Addr.add]
    split
    · rename_i h0
      rw [h0, Nat.add_zero]
    · rfl
  · rw [List.getElem?_drop] at hj
    rw [Nat.add_assoc]
    exact hr _ v hj
theorem RA.takeS {w : World} {A : Option Addr} {cs : List Value} (h : RA w A cs) (k : Nat) : RA w A (cs.take k) := fun hne => by
  have hcs : cs ≠ [] := fun e => hne (by rw [e, List.take_nil])
  obtain ⟨b, o, rfl, hlt, hr⟩ := h hcs
  refine ⟨b, o, rfl, hlt, fun j v hj => hr j v ?_⟩
  rw [List.getElem?_take] at hj
  split at hj
  · exact hj
  · cases hj
end Go.Proofs.YtepgmebklhemgaaGreatDoor
