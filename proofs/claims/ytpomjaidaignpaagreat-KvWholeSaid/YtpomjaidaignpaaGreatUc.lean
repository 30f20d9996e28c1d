/- Arguments that are slices of batches. -/
import Derived.Test.YtpomjaidaignpaaGreatUa
import Derived.Test.YtpomjaidaignpaaGreatU1
set_option linter.unusedVariables false
set_option linter.unusedSimpArgs false
set_option maxRecDepth 100000
namespace Go.Proofs.YtpomjaidaignpaaGreat
open Go.ChangeShapes Go.WideShapes Go.ChangeAt Go.RowKit Wd
theorem Tryz.cells_acts : Tryz.prog.cellsOf 36 = 1 := by kernel_rfl
/-- A slice's cell among others: its elements' cells. -/
theorem rows_of {P : Program} {H : Type} {enc : TypeId × Value → H} {W : World} {t e : TypeId} {fuel : Nat} {cs : List Value} {x : DataW H × List MemPlace} (ht : P.underlying t = some (.slice e)) (n : Nat) (hn : P.cellsOf e = n) (hn0 : 0 < n)
    (hf : DataW.trod enc P W 0 (fun _ => true) true fuel t cs = some x) :
    ∃ (A : Option Addr) (len c : Nat) (X : Nat → List Value), cs = [.slice A len c] ∧ len ≤ c ∧
      (∀ i, i < len → (X i).length = n ∧ (∃ b o, A = some ⟨b, o, none⟩ ∧ b < W.heap.size ∧ W.rangeAt b (o + i * n) (X i)) ∧ ∃ fuel x, DataW.trod enc P W 0 (fun _ => true) true fuel e (X i) = some x) := by
  rcases Deep.open_slice ht hf with ⟨hcs, hx⟩ | ⟨a, len, cap, m, fu, D, Pl, hcs, _, hl, hm, hmm, hx, hel⟩
  · exact ⟨none, 0, 0, fun _ => [], hcs, Nat.le_refl _, fun i hi => absurd hi (Nat.not_lt_zero i)⟩
  · simp only [if_true] at hmm
    subst hmm
    refine ⟨some a, len, m, fun i => ((W.cells? 0 (a.add (i * n)) n).getD []), hcs, hl, fun i hi => ?_⟩
    obtain ⟨cs', hc', htr⟩ := hel i (by omega)
    rw [hn] at hc'
    obtain ⟨cs0, hc0, _⟩ := hel 0 (by omega)
    rw [hn] at hc0
    obtain ⟨h1, h2, h3⟩ := World.cells?_some hc'
    obtain ⟨g1, g2, g3⟩ := World.cells?_some hc0
    simp only [hc', Option.getD_some]
    have z0 := g3 0 (by omega)
    have ha0 : (a.add (0 * n)).add 0 = a := by simp [Addr.add]
    rw [ha0, List.getElem?_eq_getElem (by omega)] at z0
    obtain ⟨b, o, rfl, hlt⟩ := addr_of z0
    refine ⟨h2, ⟨b, o, rfl, hlt, fun j u hj => ?_⟩, _, _, htr⟩
    have hjl : j < n := by
      have hj' : cs'[j]? = some u := hj
      have := (List.getElem?_eq_some_iff.1 hj').1
      omega
    have h4 := h3 j hjl
    rw [Addr.add_mid, Addr.add_mid] at h4
    rw [h4]
    exact hj
theorem acts_of {H : Type} {enc : TypeId × Value → H} {W : World} {A : Option Addr} {len : Nat} {X : Nat → List Value}
    (hX : ∀ i, i < len → (X i).length = 3 ∧ (∃ b o, A = some ⟨b, o, none⟩ ∧ b < W.heap.size ∧ W.rangeAt b (o + i * 3) (X i)) ∧ ∃ fuel x, DataW.trod enc Tryz.prog W 0 (fun _ => true) true fuel 50 (X i) = some x) :
    ∃ l : List Ac, l.length = len ∧ RA W A (acs l) ∧ ∀ a ∈ l, a.p.ok ∧ RB W a.p.A a.p.l := by
  obtain ⟨ax, hl, hp⟩ := choose_list (p := fun i (a : Ac) => X i = ac a ∧ a.p.ok ∧ RB W a.p.A a.p.l) len fun i hi => by
    obtain ⟨_, _, fuel, x, ht⟩ := hX i hi
    exact act_cells ht
  subst hl
  refine ⟨ax, rfl, fun hne => ?_, fun a ha => ?_⟩
  · have h0 : 0 < ax.length := by cases ax with | nil => exact absurd rfl hne | cons _ _ => simp
    obtain ⟨_, ⟨b, o, rfl, hlt, _⟩, _⟩ := hX 0 h0
    refine ⟨b, o, rfl, hlt, fun j u hj => ?_⟩
    obtain ⟨h1, h2⟩ := acs_get ax j u hj
    obtain ⟨_, ⟨b', o', he, _, hr⟩, _⟩ := hX (j / 3) h1
    injection he with he
    injection he with e1 e2
    subst e1 e2
    rw [(hp (j / 3) h1).1] at hr
    have h3 := hr (j % 3) u h2
    rw [Nat.add_assoc, show j / 3 * 3 + j % 3 = j from by omega] at h3
    exact h3
  · obtain ⟨i, hi, rfl⟩ := List.getElem_of_mem ha
    exact (hp i hi).2
theorem arg_batches {H : Type} {enc : TypeId × Value → H} {W : World} {v : Value} {d : DataW H} {ps : List MemPlace} {r : Reach} {b0 : Nat}
    (hw : Value.okWide Tryz.prog W r b0 22 v) (h : DataW.Trod enc Tryz.prog W 0 (fun _ => true) true 22 v d ps) :
    ∃ (A : Option Addr) (c : Nat) (bs : List Bt), v = .slice A bs.length c ∧ RA W A (bs.map Bt.v) ∧ (∀ t ∈ bs, t.n = t.l.length ∧ RA W t.A (acs t.l) ∧ ∀ a ∈ t.l, a.p.ok ∧ RB W a.p.A a.p.l) ∧ bs.length ≤ maxLen := by
  obtain ⟨A, len, c, X, rfl, hA, hc, hm, hX, _⟩ := arg_rows (H := H) (enc := enc) Tryz.underlying22 1 Tryz.cells_acts (by decide) hw h
  obtain ⟨bx, hl, hp⟩ := choose_list (p := fun i (t : Bt) => X i = [t.v] ∧ t.n = t.l.length ∧ RA W t.A (acs t.l) ∧ ∀ a ∈ t.l, a.p.ok ∧ RB W a.p.A a.p.l) len fun i hi => by
    obtain ⟨_, _, fuel, x, ht⟩ := hX i hi
    obtain ⟨A2, n2, c2, X2, h1, _, h3⟩ := rows_of Tryz.underlying36 3 Tryz.cells_act (by decide) ht
    obtain ⟨l, h4, h5, h6⟩ := acts_of h3
    exact ⟨⟨A2, n2, c2, l⟩, h1, h4.symm, h5, h6⟩
  subst hl
  refine ⟨A, c, bx, rfl, fun hne => ?_, fun a ha => ?_, Nat.le_trans hc hm⟩
  · have h0 : 0 < bx.length := by cases bx with | nil => exact absurd rfl hne | cons _ _ => simp
    obtain ⟨_, ⟨b, o, rfl, hlt, _⟩, _⟩ := hX 0 h0
    refine ⟨b, o, rfl, hlt, fun j u hj => ?_⟩
    rw [List.getElem?_map] at hj
    have hjl : j < bx.length := by
      rcases Nat.lt_or_ge j bx.length with h | h
      · exact h
      · rw [List.getElem?_eq_none h] at hj; cases hj
    rw [List.getElem?_eq_getElem hjl] at hj
    simp only [Option.map_some, Option.some.injEq] at hj
    obtain ⟨_, ⟨b', o', he, _, hr⟩, _⟩ := hX j hjl
    injection he with he
    injection he with e1 e2
    subst e1 e2
    rw [(hp j hjl).1] at hr
    have h3 := hr 0 u (by rw [← hj]; rfl)
    rw [Nat.mul_one, Nat.add_zero] at h3
    exact h3
  · obtain ⟨i, hi, rfl⟩ := List.getElem_of_mem ha
    exact (hp i hi).2
end Go.Proofs.YtpomjaidaignpaaGreat
