/- Proved: the statement DueApart of layer 26, for every input, without a condition. -/
import Derived.Test.YtgnlkcdpklgikaaRows
import Derived.Test.YtgnlkcdpklgikaaV6
import Derived.Test.YtgnlkcdpklgikaaVp
import Derived.Test.YtgnlkcdpklgikaaAg
set_option linter.unusedVariables false
set_option linter.unusedSimpArgs false
namespace Go.Proofs.Ytgnlkcdpklgikaa
open Go.ChangeShapes Go.WideShapes Go.ChangeAt Go.RowKit

open Wd in
theorem rows_cells {H : Type} {enc : TypeId × Value → H} {P : Program} {W : World} {fuel : Nat} {x : DataW H × List MemPlace} {cs : List Value} {t e : TypeId} (ht : P.underlying t = some (.slice e)) (n : Nat) (hn : P.cellsOf e = n) (hn0 : 0 < n)
    (hf : DataW.trod enc P W 0 (fun _ => true) true fuel t cs = some x) :
    ∃ (A : Option Addr) (len c : Nat) (X : Nat → List Value), cs = [.slice A len c] ∧ (A = none → c = 0 ∧ len = 0) ∧ len ≤ c ∧ c ≤ maxLen ∧
      (∀ i, i < len → (X i).length = n ∧ (∃ b o, A = some ⟨b, o, none⟩ ∧ b < W.heap.size ∧ W.rangeAt b (o + i * n) (X i)) ∧ ∃ fuel x, DataW.trod enc P W 0 (fun _ => true) true fuel e (X i) = some x) := by
  rcases Deep.open_slice ht hf with ⟨hcs, hx⟩ | ⟨a, len', cap', m, fu, D, Pl, hcs, _, hl, hm, hmm, hx, hel⟩
  · exact ⟨none, 0, 0, fun _ => [], hcs, fun _ => ⟨rfl, rfl⟩, Nat.le_refl _, Nat.zero_le _, fun i hi => absurd hi (Nat.not_lt_zero i)⟩
  · simp only [if_true] at hmm
    subst hmm
    refine ⟨some a, len', m, fun i => ((W.cells? 0 (a.add (i * n)) n).getD []), hcs, fun h => (by cases h), hl, hm, fun i hi => ?_⟩
    obtain ⟨cs', hc', htr⟩ := hel i (by omega)
    rw [hn] at hc'
    obtain ⟨cs0, hc0, _⟩ := hel 0 (by omega)
    rw [hn] at hc0
    obtain ⟨h1, h2, h3⟩ := World.cells?_some hc'
    obtain ⟨g1, g2, g3⟩ := World.cells?_some hc0
    simp only [hc', Option.getD_some]
    have z0 := g3 0 (by omega)
    have ha0 : (a.add (0 * n)).add 0 = a := by simp [Addr.add]
    rw [ha0, List.getElem?_eq_getElem (by omega)] at z0
    obtain ⟨b, o, rfl, hlt⟩ := addr_of z0
    refine ⟨h2, ⟨b, o, rfl, hlt, fun j u hj => ?_⟩, _, _, htr⟩
    have hjl : j < n := by
      have hj' : cs'[j]? = some u := hj
      have := (List.getElem?_eq_some_iff.1 hj').1
      omega
    have h4 := h3 j hjl
    rw [Addr.add_mid, Addr.add_mid] at h4
    rw [h4]
    exact hj
open Wd in
open Du (Due) in
theorem dues_cells {H : Type} {enc : TypeId × Value → H} {W : World} {fuel : Nat} {x : DataW H × List MemPlace} {cs : List Value} (h : DataW.trod enc Try.prog W 0 (fun _ => true) true fuel 22 cs = some x) :
    ∃ (A : Option Addr) (c : Nat) (l : List Due), cs = [.slice A l.length c] ∧ RA W A (dcs l) := by
  obtain ⟨A, len, c, X, rfl, hA, hc, hm, hX⟩ := rows_cells (H := H) (enc := enc) Try.underlying22 3 Try.cells_due (by decide) h
  obtain ⟨ax, hl, hp⟩ := choose_list (p := fun i (a : Due) => X i = dc a) len fun i hi => by
    obtain ⟨_, _, fuel, x, ht⟩ := hX i hi
    exact due_cells ht
  subst hl
  refine ⟨A, c, ax, rfl, fun hne => ?_⟩
  have h0 : 0 < ax.length := by cases ax with | nil => exact absurd rfl hne | cons _ _ => simp
  obtain ⟨_, ⟨b, o, rfl, hlt, _⟩, _⟩ := hX 0 h0
  refine ⟨b, o, rfl, hlt, fun j u hj => ?_⟩
  obtain ⟨h1, h2⟩ := dcs_get' ax j u hj
  obtain ⟨_, ⟨b', o', he, _, hr⟩, _⟩ := hX (j / 3) h1
  injection he with he
  injection he with e1 e2
  subst e1 e2
  rw [hp (j / 3) h1] at hr
  have h3 := hr (j % 3) u h2
  rw [Nat.add_assoc, show j / 3 * 3 + j % 3 = j from by omega] at h3
  exact h3
open Wd in
open Du (Due) in
theorem arg_two {H : Type} {enc : TypeId × Value → H} {W : World} {v : Value} {d : DataW H} {ps : List MemPlace} {r : Reach} {b0 : Nat}
    (hv : Value.okWide Try.prog W r b0 43 v) (h : DataW.Trod enc Try.prog W 0 (fun _ => true) true 43 v d ps) :
    ∃ (B C : Option Addr) (m m' : Nat) (o0 o1 : List Due), v = .agg #[.slice B o0.length m, .slice C o1.length m'] ∧ RA W B (dcs o0) ∧ RA W C (dcs o1) := by
  have ht := Try.underlying43
  simp only [Value.okWide, ht] at hv
  obtain ⟨cs, rfl, hsz, _⟩ := hv
  obtain ⟨fuel, hf⟩ := h
  obtain ⟨xs, n, _, _, hl, hlen, hf⟩ := DataW.trod_array ht hf
  have hct : Try.prog.cellsOf 43 = 2 := by kernel_rfl
  have hc : Try.prog.cellsOf 22 = 1 := by kernel_rfl
  have hl : cs.toList.length = 2 := by rw [Array.length_toList, hsz]; exact hct
  obtain ⟨l⟩ := cs
  match l, hl, hf with
  | [c0, c1], _, hf =>
    match xs, hlen with
    | [y0, y1], _ =>
      have h0 := hf 0 (by omega)
      have h1 := hf 1 (by omega)
      simp only [hc, Value.cells, Nat.zero_mul, Nat.one_mul, List.drop_zero, List.drop_succ_cons, List.take_succ_cons, List.take_zero, List.getElem?_cons_zero, List.getElem?_cons_succ] at h0 h1
      obtain ⟨B, m, o0, e0, r0⟩ := dues_cells h0
      obtain ⟨C, m', o1, e1, r1⟩ := dues_cells h1
      injection e0 with e0 _
      injection e1 with e1 _
      subst e0 e1
      exact ⟨B, C, m, m', o0, o1, rfl, r0, r1⟩
theorem Try.own : ownKnob Try.prog.godebug = none := by kernel_rfl
theorem Try.laidOut : laidOutB Try.prog = true := by kernel_rfl
set_option maxRecDepth 100000 in
theorem dueApart_lifted (os : Os) (started : os.Started) (H : Type) (enc : TypeId × Value → H) :
    ReturnsInHanded {} Try.checked os 6 .any (Rows.dueApartSpec.pre6 enc Try.prog Try.f6 Rows.dueApartRow.domain false) (Rows.dueApartSpec.post enc Try.prog Try.f6 false true false false) := by
  refine returnsInHanded_of_change_sized (C := Try.checked) Try.own started (by kernel_rfl) Try.func6
    (ChangeSpec.witness6 (enc := enc) (C := Try.checked) false ⟨#[], #[.slice none 0 0, .agg #[.slice none 0 0, .slice none 0 0], .agg #[.int .i64 0, .int .i64 0]], []⟩ 8 (by kernel_rfl) (by kernel_rfl) (by kernel_rfl) (by kernel_rfl)) ?_
  intro W base args ds gs before hval0 hW _ hsz0 _
  have hsz : (DataW.weightsEach Try.prog (Try.f6.params.toList ++ Rows.dueApartSpec.plain.varTypes Try.prog) (ds ++ gs)).all (· ≤ reachBytes) = true := hsz0
  clear hsz0
  have hval : ∀ (j : Nat) t v, Try.f6.params[j]? = some t → args[j]? = some v → Value.okWide Try.prog W .any base t v := hval0
  have hW' := hW
  obtain ⟨p, q, hA0, hV, rfl, _, _⟩ := hW
  have hA : DataW.TrodAll enc Try.prog W 0 (fun _ => true) true Try.f6.params.toList args.toList ds p := hA0
  rw [Try.params6] at hA hval hsz
  obtain ⟨v0, v1, v2, d0, d1, d2, p0, p1, p2, rfl, rfl, rfl, h0, h1, h2⟩ := trodAll_three hA
  obtain ⟨rfl, rfl⟩ := trodVars_none hV
  obtain ⟨A, c, l, rfl, hra, hAn, hlc⟩ := arg_dues (hval 0 22 v0 rfl rfl) h0
  obtain ⟨B, C, m, m', o0, o1, rfl, hB, hC⟩ := arg_two (hval 1 43 v1 rfl rfl) h1
  obtain ⟨n, k, rfl, hK, hT⟩ := arg_ints2 Try.underlying33 Try.underlying2 (by kernel_rfl) (by kernel_rfl) (hval 2 33 v2 rfl rfl) h2
  exact (dueApart_any hra rfl hB rfl hC rfl n k).mono fun e W' ⟨he, hb⟩ => ⟨_, he, Lw.post_law hW' rfl Try.laidOut (by kernel_rfl) rfl Try.underlying4 rfl hb⟩

theorem dueApart_holds : Rows.DueApartSaid :=
  OpenClaim.holds_of_wide 6 Try.f6 rfl rfl rfl rfl rfl rfl rfl ⟨rfl, rfl, rfl, rfl, rfl⟩ rfl rfl rfl rfl rfl (by kernel_rfl) Try.func6 (by kernel_rfl)
    (of_decide_eq_true (by kernel_rfl)) (by unfold Func.isWrapper; first | (rw [if_pos (by decide +kernel)]; kernel_rfl) | (rw [if_neg (by decide +kernel)]; exact ⟨rfl, rfl⟩))
    (fun os started H enc _ => dueApart_lifted os started H enc)
end Go.Proofs.Ytgnlkcdpklgikaa
#print axioms Go.Proofs.Ytgnlkcdpklgikaa.dueApart_holds
