/- Proved: the card of the statement TupleOrders of layer 19, for every input, without a condition. -/
import Derived.Test.YtbmiifglpjeegaaDoorCards
import Derived.Test.YtbmiifglpjeegaaDoorTie
import Derived.Test.YtbmiifglpjeegaaDoorN8
import Derived.Test.YtbmiifglpjeegaaDoorLw
import Derived.Test.YtbmiifglpjeegaaDoorN9
set_option linter.unusedVariables false
set_option linter.unusedSimpArgs false
namespace Go.Proofs.YtbmiifglpjeegaaDoor
open Go.ChangeShapes Go.WideShapes Go.ChangeAt Go.RowKit Wd

theorem tupleOrders_contract (H : Type) (enc : TypeId × Value → H) (W : World) (base : Nat) (args : Array Value) (ds gs : List (DataW H)) (before : List MemPlace)
    (hval : ∀ (j : Nat) t v, Tryd.f6.params[j]? = some t → args[j]? = some v → Value.okWide Tryd.prog W .any base t v)
    (hW : DataW.Whole enc Tryd.prog Tryd.f6.params.toList Rows.tupleOrdersSpec.vars false W args.toList ds gs before) (hL : laidMetH Tryd.prog Rows.tupleOrdersRow.laid W) (hsh : W.ShapedOpen Tryd.prog) :
    Calls Tryd.prog 6 args W fun e W' => ∃ v, e = .returned v ∧ Rows.tupleOrdersSpec.post enc Tryd.prog Tryd.f6 false true false false W args v W' := by
  have hmx : MaxI W := maxI_of hsh
  have hW' := hW
  obtain ⟨p, q, hA0, hV, rfl, _, _⟩ := hW
  have hA : DataW.TrodAll enc Tryd.prog W 0 (fun _ => true) true Tryd.f6.params.toList args.toList ds p := hA0
  rw [Tryd.params6] at hA hval
  obtain ⟨v0, v1, d0, d1, p0, p1, rfl, rfl, rfl, h0, h1⟩ := trodAll_two hA
  obtain ⟨rfl, rfl⟩ := trodVars_none hV
  obtain ⟨A, c, l, rfl, hra, hnum, hAn, hlc⟩ := arg_parts_own (hval 0 23 v0 rfl rfl) h0
  obtain ⟨B, d, r, rfl, hrb, hrnum, hB0, hrc⟩ := arg_parts_own (hval 1 23 v1 rfl rfl) h1
  exact (tupleOrders_any hmx hra hrb rfl rfl hnum hrnum ⟨hAn, hlc⟩ ⟨hB0, hrc⟩).mono fun e W' ⟨he, hb⟩ => ⟨_, he, Lw.post_law hW' rfl Tryd.laidOut (by kernel_rfl) rfl Tryd.underlying4 rfl hb⟩
theorem tupleOrders_reads (os : Os) {H : Type} (enc : TypeId × Value → H) : ∃ places, DataW.whole enc Tryd.prog ((World.laidAll Tryd.prog os Rows.tupleOrdersRow.laid).forCall (fun _ _ => 0) ⟨#[], #[.slice none 0 0, .slice none 0 0], []⟩).memory Tryd.f6.params.toList Rows.tupleOrdersSpec.vars false (#[.slice none 0 0, .slice none 0 0] : Array Value).toList 8 = some ([.nil, .nil], [], places) :=
  ⟨[], by kernel_rfl⟩
theorem tupleOrders_met (os : Os) : laidMet Tryd.prog Rows.tupleOrdersRow.laid ((World.laidAll Tryd.prog os Rows.tupleOrdersRow.laid).forCall (fun _ _ => 0) ⟨#[], #[.slice none 0 0, .slice none 0 0], []⟩).memory :=
  laidMet_laidAll #[.slice none 0 0, .slice none 0 0] (by kernel_rfl) (by kernel_rfl)
set_option maxRecDepth 100000 in
theorem tupleOrders_lifted (os : Os) (started : os.Started) (H : Type) (enc : TypeId × Value → H) (F : Stop.Interp) :
    ReturnsInHanded {} Tryd.checked os 6 .any ((OpenSpec.ofChange Rows.tupleOrdersSpec).preRow enc Tryd.prog Tryd.f6 Rows.tupleOrdersRow.domain false Rows.tupleOrdersRow.laid) (((OpenSpec.ofChange Rows.tupleOrdersSpec).at F).post enc Tryd.prog Tryd.f6 false true false false) := by
  obtain ⟨places, hx⟩ := tupleOrders_reads os enc
  refine returnsInHanded_of_row (C := Tryd.checked) (s := OpenSpec.ofChange Rows.tupleOrdersSpec) Tryd.own started (by kernel_rfl) Tryd.func6
    (witness_row_at (enc := enc) (C := Tryd.checked) false (World.laidAll Tryd.prog os Rows.tupleOrdersRow.laid) #[.slice none 0 0, .slice none 0 0] rfl (by kernel_rfl) (by kernel_rfl) (by kernel_rfl)
      (OpenSpec.preRow_of_cond 8 hx (by kernel_rfl) (fun k hk => by cases hk) (by kernel_rfl) (tupleOrders_met os))) ?_
  intro W base args ds gs before hval hW _ _ _ hL hsh _
  exact tupleOrders_contract H enc W base args ds gs before hval hW hL hsh
theorem tupleOrders_said : Rows.TupleOrdersSaid :=
  OpenClaim.holds_of_cond 6 Tryd.f6 rfl rfl rfl rfl rfl rfl rfl ⟨rfl, rfl, rfl, rfl, rfl⟩ rfl rfl rfl rfl rfl (by kernel_rfl) Tryd.func6 (by kernel_rfl)
    (of_decide_eq_true (by kernel_rfl)) (by unfold Func.isWrapper; first | (rw [if_pos (by decide +kernel)]; kernel_rfl) | (rw [if_neg (by decide +kernel)]; exact ⟨rfl, rfl⟩))
    (fun os started H enc _ F => by rw [OpenClaim.pre_eq_preRow]; exact tupleOrders_lifted os started H enc F)
theorem tupleOrders_plain (f : FuncId) (fn : Func) (hf : Tryd.pinned.checked.prog.funcNamed "lantern/lanternlaw19.TupleOrders" = some f) (hfn : Tryd.pinned.checked.prog.funcs[f]? = some fn) :
    false = Tryd.pinned.checked.prog.looks [] ∧ ∀ (j : Nat) t, fn.params[j]? = some t → Tryd.pinned.checked.prog.wantsStandIn t = false := by
  obtain rfl : f = 6 := Option.some.inj ((show Tryd.prog.funcNamed "lantern/lanternlaw19.TupleOrders" = some 6 by kernel_rfl).symm.trans hf) |>.symm
  obtain rfl : fn = Tryd.f6 := (Option.some.inj (Tryd.func6.symm.trans hfn)).symm
  refine ⟨by kernel_rfl, fun j t ht => ?_⟩
  rw [Tryd.params6] at ht
  have hm := Array.mem_of_getElem? ht
  simp only [List.mem_toArray, List.mem_cons, List.not_mem_nil, or_false] at hm
  rcases hm with rfl | rfl
  · exact (show Tryd.prog.wantsStandIn 23 = false by kernel_rfl)
  · exact (show Tryd.prog.wantsStandIn 23 = false by kernel_rfl)
/-- THE CARD. -/
theorem tupleOrders_card : Rows.TupleOrdersCardSaid :=
  Claim7.holds_tied_plain_at .later [] _ _ _ _ tupleOrders_said (fun _ h => by cases h) (by kernel_rfl) (fun _ h => by cases h) tupleOrders_row_tie rfl ⟨rfl, rfl⟩ (by kernel_rfl) rfl tupleOrders_plain (by kernel_rfl)
end Go.Proofs.YtbmiifglpjeegaaDoor
#print axioms Go.Proofs.YtbmiifglpjeegaaDoor.tupleOrders_card
