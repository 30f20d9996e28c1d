/- Arguments as cells: a slice of bytes; what a slice's place is. No program is in sight. -/
import Derived.Test.YtepgmebklhemgaaGreatDoorA1
import Derived.ProofKit
import Derived.SizedLaws
import Derived.Deep.Slices
set_option linter.unusedVariables false
set_option linter.unusedSimpArgs false
namespace Go.Proofs.YtepgmebklhemgaaGreatDoor
open Go.ChangeShapes Go.WideShapes Go.ChangeAt Go.RowKit Wd
theorem addr_of {w : World} {a : Addr} {v : Value} (h : w.cell? a = some v) : ∃ b o, a = ⟨b, o, none⟩ ∧ b < w.heap.size := by
  have hlt := World.block_lt_of_cell? w a h
  obtain ⟨b, o, s⟩ := a
  cases s with
  | none => exact ⟨b, o, rfl, hlt⟩
  | some s =>
    unfold World.cell? at h
    split at h
    · simp at h
    · cases h
theorem byte_wf {n : Int} (h : (Lit.int .u8 n).wf = true) : 0 ≤ n ∧ n ≤ 255 := by
  simp only [Lit.wf, Bool.and_eq_true, decide_eq_true_eq] at h
  have h1 : (0 : Int) ≤ n := h.1
  have h2 : n ≤ 255 := h.2
  exact ⟨h1, h2⟩
/-- A byte out of a number. -/
def by8 (n : Int) : UInt8 := UInt8.ofNat n.toNat
theorem by8_nat {n : Int} (h : 0 ≤ n ∧ n ≤ 255) : ((by8 n).toNat : Int) = n := by
  unfold by8
  rw [UInt8.toNat_ofNat']
  omega
section
variable {P : Program} {H : Type} {enc : TypeId × Value → H} {W : World}
/-- A slice of bytes that came in. -/
theorem arg_bytes {t e : TypeId} {v : Value} {d : DataW H} {ps : List MemPlace} {r : Reach} {b0 : Nat} (ht : P.underlying t = some (.slice e)) (he : P.underlying e = some (.int .u8)) (hc : P.cellsOf e = 1)
    (hw : Value.okWide P W r b0 t v) (h : DataW.Trod enc P W 0 (fun _ => true) true t v d ps) :
    ∃ (A : Option Addr) (c : Nat) (l : List UInt8), v = .slice A l.length c ∧ (A = none → c = 0) ∧ l.length ≤ c ∧ RB W A l ∧ (c = 0 ∨ ∃ elems spare, d = .slice elems spare ∧ elems.length + spare.length = c) := by
  obtain ⟨a0, len, cap, rfl⟩ := okWide_slice ht hw
  obtain ⟨fuel, hf⟩ := h
  rcases open_ints ht he hc hf with ⟨hcs, hx⟩ | ⟨a, len', cap', zs, hcs, _, hl, hm, hz, hx, hcell, hwz⟩
  · have hv : a0 = none ∧ len = 0 ∧ cap = 0 := by simpa [Value.cells] using hcs
    obtain ⟨rfl, rfl, rfl⟩ := hv
    exact ⟨none, 0, [], rfl, fun _ => rfl, Nat.le_refl _, fun h => absurd rfl h, .inl rfl⟩
  · have hv : a0 = some a ∧ len = len' ∧ cap = cap' := by simpa [Value.cells] using hcs
    obtain ⟨rfl, rfl, rfl⟩ := hv
    simp only [if_true] at hz
    have hlen : ((zs.take len).map by8).length = len := by rw [List.length_map, List.length_take]; omega
    refine ⟨some a, cap, (zs.take len).map by8, by rw [hlen], fun h => (by cases h), by rw [hlen]; exact hl, fun hne => ?_, .inr ⟨_, _, (Prod.ext_iff.1 hx).1, ?_⟩⟩
    · have hp : 0 < len := by
        rcases Nat.eq_zero_or_pos len with h0 | h0
        · rw [h0] at hne; simp at hne
        · exact h0
      have h0 := hcell 0 (by omega)
      have ha0 : a.add 0 = a := by simp [Addr.add]
      rw [ha0] at h0
      obtain ⟨b, o, rfl, hlt⟩ := addr_of h0
      refine ⟨b, o, rfl, hlt, fun j u hj => ?_⟩
      rw [bv_get, List.getElem?_map] at hj
      have hjl : j < len := by
        rcases Nat.lt_or_ge j len with h | h
        · exact h
        · rw [List.getElem?_eq_none (by rw [List.length_take]; omega)] at hj; cases hj
      have h1 := hcell j (by omega)
      rw [Addr.add_mid] at h1
      rw [h1]
      rw [List.getElem?_take, if_pos hjl, List.getElem?_eq_getElem (by omega)] at hj
      simp only [Option.map_some, Option.some.injEq] at hj
      rw [← hj, by8_nat (byte_wf (hwz _ (List.getElem_mem _))), List.getD_eq_getElem?_getD, List.getElem?_eq_getElem (by omega)]
      rfl
    · simp only [lits, List.length_map, List.length_take, List.length_drop]
      omega
/-- How great its capacity is at most. -/
theorem arg_cap {t e : TypeId} {d : DataW H} {ps : List MemPlace} {A : Option Addr} {n c : Nat} (ht : P.underlying t = some (.slice e)) (he : P.underlying e = some (.int .u8)) (hc : P.cellsOf e = 1)
    (h : DataW.Trod enc P W 0 (fun _ => true) true t (.slice A n c) d ps) : c ≤ maxLen := by
  obtain ⟨fuel, hf⟩ := h
  rcases open_ints ht he hc hf with ⟨hcs, hx⟩ | ⟨a, len', cap', zs, hcs, _, hl, hm, hz, hx, hcell, hwz⟩
  · have hv : A = none ∧ n = 0 ∧ c = 0 := by simpa [Value.cells] using hcs
    rw [hv.2.2]
    exact Nat.zero_le _
  · have hv : A = some a ∧ n = len' ∧ c = cap' := by simpa [Value.cells] using hcs
    rw [hv.2.2]
    exact hm
/-- A slice whose elements are rows of cells: its cells, one behind the other. -/
theorem arg_rows {t e : TypeId} {v : Value} {d : DataW H} {ps : List MemPlace} {r : Reach} {b0 : Nat} (ht : P.underlying t = some (.slice e)) (n : Nat) (hn : P.cellsOf e = n) (hn0 : 0 < n)
    (hw : Value.okWide P W r b0 t v) (h : DataW.Trod enc P W 0 (fun _ => true) true t v d ps) :
    ∃ (A : Option Addr) (len c : Nat) (X : Nat → List Value), v = .slice A len c ∧ (A = none → c = 0 ∧ len = 0) ∧ len ≤ c ∧ c ≤ maxLen ∧
      (∀ i, i < len → (X i).length = n ∧ (∃ b o, A = some ⟨b, o, none⟩ ∧ b < W.heap.size ∧ W.rangeAt b (o + i * n) (X i)) ∧ ∃ fuel x, DataW.trod enc P W 0 (fun _ => true) true fuel e (X i) = some x) ∧
      (c = 0 ∨ ∃ elems spare, d = .slice elems spare ∧ elems.length + spare.length = c) := by
  obtain ⟨a0, len, cap, rfl⟩ := okWide_slice ht hw
  obtain ⟨fuel, hf⟩ := h
  rcases Deep.open_slice ht hf with ⟨hcs, hx⟩ | ⟨a, len', cap', m, fu, D, Pl, hcs, _, hl, hm, hmm, hx, hel⟩
  · have hv : a0 = none ∧ len = 0 ∧ cap = 0 := by simpa [Value.cells] using hcs
    obtain ⟨rfl, rfl, rfl⟩ := hv
    exact ⟨none, 0, 0, fun _ => [], rfl, fun _ => ⟨rfl, rfl⟩, Nat.le_refl _, Nat.zero_le _, fun i hi => absurd hi (Nat.not_lt_zero i), .inl rfl⟩
  · have hv : a0 = some a ∧ len = len' ∧ cap = cap' := by simpa [Value.cells] using hcs
    obtain ⟨rfl, rfl, rfl⟩ := hv
    simp only [if_true] at hmm
    subst hmm
    refine ⟨some a, len, m, fun i => ((W.cells? 0 (a.add (i * n)) n).getD []), rfl, fun h => (by cases h), hl, hm, fun i hi => ?_, .inr ⟨_, _, (Prod.ext_iff.1 hx).1, ?_⟩⟩
    · obtain ⟨cs', hc', htr⟩ := hel i (by omega)
      rw [hn] at hc'
      obtain ⟨cs0, hc0, _⟩ := hel 0 (by omega)
      rw [hn] at hc0
      obtain ⟨h1, h2, h3⟩ := World.cells?_some hc'
      obtain ⟨g1, g2, g3⟩ := World.cells?_some hc0
      simp only [hc', Option.getD_some]
      have z0 := g3 0 (by omega)
      have ha0 : (a.add (0 * n)).add 0 = a := by simp [Addr.add]
      rw [ha0, List.getElem?_eq_getElem (by omega)] at z0
      obtain ⟨b, o, rfl, hlt⟩ := addr_of z0
      refine ⟨h2, ⟨b, o, rfl, hlt, fun j u hj => ?_⟩, _, _, htr⟩
      have hjl : j < n := by
        have hj' : cs'[j]? = some u := hj
        have := (List.getElem?_eq_some_iff.1 hj').1
        omega
      have h4 := h3 j hjl
      rw [Addr.add_mid, Addr.add_mid] at h4
      rw [h4]
      exact hj
    · simp only [List.length_map, List.length_range]
      omega
end
end Go.Proofs.YtepgmebklhemgaaGreatDoor
