/- Proved: the card of the statement ShaPieces of layer 2, for every input, without a condition. -/
import Derived.Test.YtcegmakkfhfalaaDoorCards
import Derived.Test.YtcegmakkfhfalaaDoorTie
import Derived.Test.YtcegmakkfhfalaaDoorTa
import Derived.Test.YtcegmakkfhfalaaDoorLp
import Derived.Test.YtcegmakkfhfalaaDoorAr
import Derived.Test.YtcegmakkfhfalaaDoorLw
set_option linter.unusedVariables false
set_option linter.unusedSimpArgs false
namespace Go.Proofs.YtcegmakkfhfalaaDoor
open Go.ChangeShapes Go.WideShapes Go.ChangeAt Go.RowKit Wd

theorem shaPieces_contract (H : Type) (enc : TypeId × Value → H) (W : World) (base : Nat) (args : Array Value) (ds gs : List (DataW H)) (before : List MemPlace)
    (hval : ∀ (j : Nat) t v, Tryd.f5.params[j]? = some t → args[j]? = some v → Value.okWide Tryd.prog W .any base t v)
    (hW : DataW.Whole enc Tryd.prog Tryd.f5.params.toList Rows.shaPiecesSpec.vars false W args.toList ds gs before) (hL : laidMetH Tryd.prog Rows.shaPiecesRow.laid W) :
    Calls Tryd.prog 5 args W fun e W' => ∃ v, e = .returned v ∧ Rows.shaPiecesSpec.post enc Tryd.prog Tryd.f5 false true false false W args v W' := by
  have ht : Tabs W := tabs_of hL
  have hW' := hW
  obtain ⟨p, q, hA0, hV, rfl, _, _⟩ := hW
  have hA : DataW.TrodAll enc Tryd.prog W 0 (fun _ => true) true Tryd.f5.params.toList args.toList ds p := hA0
  rw [Tryd.params5] at hA hval
  obtain ⟨v0, d0, rfl, rfl, h0⟩ := trodAll_one hA
  obtain ⟨rfl, rfl⟩ := trodVars_none hV
  obtain ⟨A, c, pl, rfl, hlen, hp⟩ := arg_pieces Tryd.underlying35 (by kernel_rfl) Tryd.underlying22 Tryd.underlying5 Tryd.cells_byte (hval 0 35 v0 rfl rfl) h0
  exact (shaPieces_any ht hlen hp).mono fun e W' ⟨he, hb⟩ => ⟨_, he, Lw.post_law hW' rfl Tryd.laidOut (by kernel_rfl) rfl Tryd.underlying4 rfl hb⟩
theorem shaPieces_reads (os : Os) {H : Type} (enc : TypeId × Value → H) : ∃ places, DataW.whole enc Tryd.prog ((World.laidAll Tryd.prog os Rows.shaPiecesRow.laid).forCall (fun _ _ => 0) ⟨#[], #[.slice none 0 0], []⟩).memory Tryd.f5.params.toList Rows.shaPiecesSpec.vars false (#[.slice none 0 0] : Array Value).toList 8 = some ([.nil], [], places) :=
  ⟨[], by kernel_rfl⟩
theorem shaPieces_met (os : Os) : laidMet Tryd.prog Rows.shaPiecesRow.laid ((World.laidAll Tryd.prog os Rows.shaPiecesRow.laid).forCall (fun _ _ => 0) ⟨#[], #[.slice none 0 0], []⟩).memory :=
  laidMet_laidAll #[.slice none 0 0] (by kernel_rfl) (by kernel_rfl)
set_option maxRecDepth 100000 in
theorem shaPieces_lifted (os : Os) (started : os.Started) (H : Type) (enc : TypeId × Value → H) (F : Stop.Interp) :
    ReturnsInHanded {} Tryd.checked os 5 .any ((OpenSpec.ofChange Rows.shaPiecesSpec).preRow enc Tryd.prog Tryd.f5 Rows.shaPiecesRow.domain false Rows.shaPiecesRow.laid) (((OpenSpec.ofChange Rows.shaPiecesSpec).at F).post enc Tryd.prog Tryd.f5 false true false false) := by
  obtain ⟨places, hx⟩ := shaPieces_reads os enc
  refine returnsInHanded_of_row (C := Tryd.checked) (s := OpenSpec.ofChange Rows.shaPiecesSpec) Tryd.own started (by kernel_rfl) Tryd.func5
    (witness_row_at (enc := enc) (C := Tryd.checked) false (World.laidAll Tryd.prog os Rows.shaPiecesRow.laid) #[.slice none 0 0] rfl (by kernel_rfl) (by kernel_rfl) (by kernel_rfl)
      (OpenSpec.preRow_of_cond 8 hx (by kernel_rfl) (fun k hk => by cases hk) (by kernel_rfl) (shaPieces_met os))) ?_
  intro W base args ds gs before hval hW _ _ _ hL _ _
  exact shaPieces_contract H enc W base args ds gs before hval hW hL
theorem shaPieces_said : Rows.ShaPiecesSaid :=
  OpenClaim.holds_of_cond 5 Tryd.f5 rfl rfl rfl rfl rfl rfl rfl ⟨rfl, rfl, rfl, rfl, rfl⟩ rfl rfl rfl rfl rfl (by kernel_rfl) Tryd.func5 (by kernel_rfl)
    (of_decide_eq_true (by kernel_rfl)) (by unfold Func.isWrapper; first | (rw [if_pos (by decide +kernel)]; kernel_rfl) | (rw [if_neg (by decide +kernel)]; exact ⟨rfl, rfl⟩))
    (fun os started H enc _ F => by rw [OpenClaim.pre_eq_preRow]; exact shaPieces_lifted os started H enc F)
theorem shaPieces_plain (f : FuncId) (fn : Func) (hf : Tryd.pinned.checked.prog.funcNamed "lantern/lanternlaw02.ShaPieces" = some f) (hfn : Tryd.pinned.checked.prog.funcs[f]? = some fn) :
    false = Tryd.pinned.checked.prog.looks [] ∧ ∀ (j : Nat) t, fn.params[j]? = some t → Tryd.pinned.checked.prog.wantsStandIn t = false := by
  obtain rfl : f = 5 := Option.some.inj ((show Tryd.prog.funcNamed "lantern/lanternlaw02.ShaPieces" = some 5 by kernel_rfl).symm.trans hf) |>.symm
  obtain rfl : fn = Tryd.f5 := (Option.some.inj (Tryd.func5.symm.trans hfn)).symm
  refine ⟨by kernel_rfl, fun j t ht => ?_⟩
  rw [Tryd.params5] at ht
  obtain rfl : t = 35 := by simpa using Array.mem_of_getElem? ht
  exact (show Tryd.prog.wantsStandIn 35 = false by kernel_rfl)
/-- THE CARD. -/
theorem shaPieces_card : Rows.ShaPiecesCardSaid :=
  Claim7.holds_tied_plain_at .later [] _ _ _ _ shaPieces_said (fun _ h => by cases h) (by kernel_rfl) (fun _ h => by cases h) shaPieces_row_tie rfl ⟨rfl, rfl⟩ (by kernel_rfl) rfl shaPieces_plain (by kernel_rfl)
end Go.Proofs.YtcegmakkfhfalaaDoor
#print axioms Go.Proofs.YtcegmakkfhfalaaDoor.shaPieces_card
