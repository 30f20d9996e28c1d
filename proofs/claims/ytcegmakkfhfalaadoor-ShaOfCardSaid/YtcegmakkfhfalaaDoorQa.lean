/- Proved: the card of the statement ShaOf of layer 2, for every input, without a condition. -/
import Derived.Test.YtcegmakkfhfalaaDoorCards
import Derived.Test.YtcegmakkfhfalaaDoorTie
import Derived.Test.YtcegmakkfhfalaaDoorTa
import Derived.Test.YtcegmakkfhfalaaDoorLo
import Derived.Test.YtcegmakkfhfalaaDoorAr
import Derived.Test.YtcegmakkfhfalaaDoorLw
set_option linter.unusedVariables false
set_option linter.unusedSimpArgs false
namespace Go.Proofs.YtcegmakkfhfalaaDoor
open Go.ChangeShapes Go.WideShapes Go.ChangeAt Go.RowKit Wd

theorem shaOf_contract (H : Type) (enc : TypeId × Value → H) (W : World) (base : Nat) (args : Array Value) (ds gs : List (DataW H)) (before : List MemPlace)
    (hval : ∀ (j : Nat) t v, Tryd.f3.params[j]? = some t → args[j]? = some v → Value.okWide Tryd.prog W .any base t v)
    (hW : DataW.Whole enc Tryd.prog Tryd.f3.params.toList Rows.shaOfSpec.vars false W args.toList ds gs before) (hL : laidMetH Tryd.prog Rows.shaOfRow.laid W) :
    Calls Tryd.prog 3 args W fun e W' => ∃ v, e = .returned v ∧ Rows.shaOfSpec.post enc Tryd.prog Tryd.f3 false true false false W args v W' := by
  have ht : Tabs W := tabs_of hL
  have hW' := hW
  obtain ⟨p, q, hA0, hV, rfl, _, _⟩ := hW
  have hA : DataW.TrodAll enc Tryd.prog W 0 (fun _ => true) true Tryd.f3.params.toList args.toList ds p := hA0
  rw [Tryd.params3] at hA hval
  obtain ⟨v0, d0, rfl, rfl, h0⟩ := trodAll_one hA
  obtain ⟨rfl, rfl⟩ := trodVars_none hV
  obtain ⟨A, c, l, rfl, hA1, hcl, hrb, hd⟩ := arg_bytes Tryd.underlying22 Tryd.underlying5 Tryd.cells_byte (hval 0 22 v0 rfl rfl) h0
  exact (shaOf_any ht hA1 hrb hcl).mono fun e W' ⟨he, hb⟩ => ⟨_, he, Lw.post_law hW' rfl Tryd.laidOut (by kernel_rfl) rfl Tryd.underlying4 rfl hb⟩
theorem shaOf_reads (os : Os) {H : Type} (enc : TypeId × Value → H) : ∃ places, DataW.whole enc Tryd.prog ((World.laidAll Tryd.prog os Rows.shaOfRow.laid).forCall (fun _ _ => 0) ⟨#[], #[.slice none 0 0], []⟩).memory Tryd.f3.params.toList Rows.shaOfSpec.vars false (#[.slice none 0 0] : Array Value).toList 8 = some ([.nil], [], places) :=
  ⟨[], by kernel_rfl⟩
theorem shaOf_met (os : Os) : laidMet Tryd.prog Rows.shaOfRow.laid ((World.laidAll Tryd.prog os Rows.shaOfRow.laid).forCall (fun _ _ => 0) ⟨#[], #[.slice none 0 0], []⟩).memory :=
  laidMet_laidAll #[.slice none 0 0] (by kernel_rfl) (by kernel_rfl)
set_option maxRecDepth 100000 in
theorem shaOf_lifted (os : Os) (started : os.Started) (H : Type) (enc : TypeId × Value → H) (F : Stop.Interp) :
    ReturnsInHanded {} Tryd.checked os 3 .any ((OpenSpec.ofChange Rows.shaOfSpec).preRow enc Tryd.prog Tryd.f3 Rows.shaOfRow.domain false Rows.shaOfRow.laid) (((OpenSpec.ofChange Rows.shaOfSpec).at F).post enc Tryd.prog Tryd.f3 false true false false) := by
  obtain ⟨places, hx⟩ := shaOf_reads os enc
  refine returnsInHanded_of_row (C := Tryd.checked) (s := OpenSpec.ofChange Rows.shaOfSpec) Tryd.own started (by kernel_rfl) Tryd.func3
    (witness_row_at (enc := enc) (C := Tryd.checked) false (World.laidAll Tryd.prog os Rows.shaOfRow.laid) #[.slice none 0 0] rfl (by kernel_rfl) (by kernel_rfl) (by kernel_rfl)
      (OpenSpec.preRow_of_cond 8 hx (by kernel_rfl) (fun k hk => by cases hk) (by kernel_rfl) (shaOf_met os))) ?_
  intro W base args ds gs before hval hW _ _ _ hL _ _
  exact shaOf_contract H enc W base args ds gs before hval hW hL
theorem shaOf_said : Rows.ShaOfSaid :=
  OpenClaim.holds_of_cond 3 Tryd.f3 rfl rfl rfl rfl rfl rfl rfl ⟨rfl, rfl, rfl, rfl, rfl⟩ rfl rfl rfl rfl rfl (by kernel_rfl) Tryd.func3 (by kernel_rfl)
    (of_decide_eq_true (by kernel_rfl)) (by unfold Func.isWrapper; first | (rw [if_pos (by decide +kernel)]; kernel_rfl) | (rw [if_neg (by decide +kernel)]; exact ⟨rfl, rfl⟩))
    (fun os started H enc _ F => by rw [OpenClaim.pre_eq_preRow]; exact shaOf_lifted os started H enc F)
theorem shaOf_plain (f : FuncId) (fn : Func) (hf : Tryd.pinned.checked.prog.funcNamed "lantern/lanternlaw02.ShaOf" = some f) (hfn : Tryd.pinned.checked.prog.funcs[f]? = some fn) :
    false = Tryd.pinned.checked.prog.looks [] ∧ ∀ (j : Nat) t, fn.params[j]? = some t → Tryd.pinned.checked.prog.wantsStandIn t = false := by
  obtain rfl : f = 3 := Option.some.inj ((show Tryd.prog.funcNamed "lantern/lanternlaw02.ShaOf" = some 3 by kernel_rfl).symm.trans hf) |>.symm
  obtain rfl : fn = Tryd.f3 := (Option.some.inj (Tryd.func3.symm.trans hfn)).symm
  refine ⟨by kernel_rfl, fun j t ht => ?_⟩
  rw [Tryd.params3] at ht
  obtain rfl : t = 22 := by simpa using Array.mem_of_getElem? ht
  exact (show Tryd.prog.wantsStandIn 22 = false by kernel_rfl)
/-- THE CARD. -/
theorem shaOf_card : Rows.ShaOfCardSaid :=
  Claim7.holds_tied_plain_at .later [] _ _ _ _ shaOf_said (fun _ h => by cases h) (by kernel_rfl) (fun _ h => by cases h) shaOf_row_tie rfl ⟨rfl, rfl⟩ (by kernel_rfl) rfl shaOf_plain (by kernel_rfl)
end Go.Proofs.YtcegmakkfhfalaaDoor
#print axioms Go.Proofs.YtcegmakkfhfalaaDoor.shaOf_card
