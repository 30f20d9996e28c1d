/- Proved: the card of the statement CapStrange of layer 21, for every input, without a condition. -/
import Derived.Test.YtepgmebklhemgaaGreatDoorCards
import Derived.Test.YtepgmebklhemgaaGreatDoorTie
import Derived.Test.YtepgmebklhemgaaGreatDoorCP
import Derived.Test.YtepgmebklhemgaaGreatDoorCQ
import Derived.Test.YtepgmebklhemgaaGreatDoorLw
set_option linter.unusedVariables false
set_option linter.unusedSimpArgs false
namespace Go.Proofs.YtepgmebklhemgaaGreatDoor
open Go.ChangeShapes Go.WideShapes Go.ChangeAt Go.RowKit Wd

set_option maxRecDepth 100000 in
theorem capStrange_contract (H : Type) (enc : TypeId × Value → H) (W : World) (base : Nat) (args : Array Value) (ds gs : List (DataW H)) (before : List MemPlace)
    (hval : ∀ (j : Nat) t v, Tryz.f4.params[j]? = some t → args[j]? = some v → Value.okWide Tryz.prog W .any base t v)
    (hW : DataW.Whole enc Tryz.prog Tryz.f4.params.toList Rows.capStrangeSpec.vars false W args.toList ds gs before) (hL : laidMetH Tryz.prog Rows.capStrangeRow.laid W) (hsh : W.ShapedOpen Tryz.prog) :
    Calls Tryz.prog 4 args W fun e W' => ∃ v, e = .returned v ∧ Rows.capStrangeSpec.post enc Tryz.prog Tryz.f4 false true false false W args v W' := by
  have hmx : Tp.MaxI W := maxI_of hsh
  have hW' := hW
  obtain ⟨p, q, hA0, hV, rfl, _, _⟩ := hW
  have hA : DataW.TrodAll enc Tryz.prog W 0 (fun _ => true) true Tryz.f4.params.toList args.toList ds p := hA0
  rw [Tryz.params4] at hA hval
  obtain ⟨v0, d0, rfl, rfl, h0⟩ := trodAll_one hA
  obtain ⟨rfl, rfl⟩ := trodVars_none hV
  obtain ⟨d, rfl, ⟨hn, hA1, hc1, hra, hnum⟩, hpo, hrb, hT⟩ := arg_do (hval 0 32 v0 rfl rfl) h0
  exact (capStrange_any hmx hT hn hA1 hc1 hra hnum hpo hrb).mono fun e W' ⟨he, hb⟩ => ⟨_, he, Lw.post_law hW' rfl Tryz.laidOut (by kernel_rfl) rfl Tryz.underlying4 rfl hb⟩
theorem capStrange_reads (os : Os) {H : Type} (enc : TypeId × Value → H) : ∃ places, DataW.whole enc Tryz.prog ((World.laidAll Tryz.prog os Rows.capStrangeRow.laid).forCall (fun _ _ => 0) ⟨#[], #[.agg #[.int .u64 0, .slice none 0 0, .bool false, .slice none 0 0]], []⟩).memory Tryz.f4.params.toList Rows.capStrangeSpec.vars false (#[.agg #[.int .u64 0, .slice none 0 0, .bool false, .slice none 0 0]] : Array Value).toList 8 = some ([.agg [.lit (.int .u64 0), .nil, .lit (.bool false), .nil]], [], places) :=
  ⟨[], by kernel_rfl⟩
theorem capStrange_met (os : Os) : laidMet Tryz.prog Rows.capStrangeRow.laid ((World.laidAll Tryz.prog os Rows.capStrangeRow.laid).forCall (fun _ _ => 0) ⟨#[], #[.agg #[.int .u64 0, .slice none 0 0, .bool false, .slice none 0 0]], []⟩).memory :=
  laidMet_laidAll #[.agg #[.int .u64 0, .slice none 0 0, .bool false, .slice none 0 0]] (by kernel_rfl) (by kernel_rfl)
set_option maxRecDepth 100000 in
theorem capStrange_lifted (os : Os) (started : os.Started) (H : Type) (enc : TypeId × Value → H) (F : Stop.Interp) :
    ReturnsInHanded {} Tryz.checked os 4 .any ((OpenSpec.ofChange Rows.capStrangeSpec).preRow enc Tryz.prog Tryz.f4 Rows.capStrangeRow.domain false Rows.capStrangeRow.laid) (((OpenSpec.ofChange Rows.capStrangeSpec).at F).post enc Tryz.prog Tryz.f4 false true false false) := by
  obtain ⟨places, hx⟩ := capStrange_reads os enc
  refine returnsInHanded_of_row (C := Tryz.checked) (s := OpenSpec.ofChange Rows.capStrangeSpec) Tryz.own started (by kernel_rfl) Tryz.func4
    (witness_row_at (enc := enc) (C := Tryz.checked) false (World.laidAll Tryz.prog os Rows.capStrangeRow.laid) #[.agg #[.int .u64 0, .slice none 0 0, .bool false, .slice none 0 0]] rfl (by kernel_rfl) (by kernel_rfl) (by kernel_rfl)
      (OpenSpec.preRow_of_cond 8 hx (by kernel_rfl) (fun k hk => by cases hk) (by kernel_rfl) (capStrange_met os))) ?_
  intro W base args ds gs before hval hW _ _ _ hL hsh _
  exact capStrange_contract H enc W base args ds gs before hval hW hL hsh
theorem capStrange_said : Rows.CapStrangeSaid :=
  OpenClaim.holds_of_cond 4 Tryz.f4 rfl rfl rfl rfl rfl rfl rfl ⟨rfl, rfl, rfl, rfl, rfl⟩ rfl rfl rfl rfl rfl (by kernel_rfl) Tryz.func4 (by kernel_rfl)
    (of_decide_eq_true (by kernel_rfl)) (by unfold Func.isWrapper; first | (rw [if_pos (by decide +kernel)]; kernel_rfl) | (rw [if_neg (by decide +kernel)]; exact ⟨rfl, rfl⟩))
    (fun os started H enc _ F => by rw [OpenClaim.pre_eq_preRow]; exact capStrange_lifted os started H enc F)
theorem capStrange_plain (f : FuncId) (fn : Func) (hf : Tryz.pinned.checked.prog.funcNamed "lantern/lanternlaw21.CapStrange" = some f) (hfn : Tryz.pinned.checked.prog.funcs[f]? = some fn) :
    true = Tryz.pinned.checked.prog.looks [] ∧ ∀ (j : Nat) t, fn.params[j]? = some t → Tryz.pinned.checked.prog.wantsStandIn t = false := by
  obtain rfl : f = 4 := Option.some.inj ((show Tryz.prog.funcNamed "lantern/lanternlaw21.CapStrange" = some 4 by kernel_rfl).symm.trans hf) |>.symm
  obtain rfl : fn = Tryz.f4 := (Option.some.inj (Tryz.func4.symm.trans hfn)).symm
  refine ⟨by kernel_rfl, fun j t ht => ?_⟩
  rw [Tryz.params4] at ht
  obtain rfl : t = 32 := by simpa using Array.mem_of_getElem? ht
  exact (show Tryz.prog.wantsStandIn 32 = false by kernel_rfl)
/-- THE CARD. -/
theorem capStrange_card : Rows.CapStrangeCardSaid :=
  Claim7.holds_tied_plain_at .later [] _ _ _ _ capStrange_said (fun _ h => by cases h) (by kernel_rfl) (fun _ h => by cases h) capStrange_row_tie rfl ⟨rfl, rfl⟩ (by kernel_rfl) rfl capStrange_plain (by kernel_rfl)
end Go.Proofs.YtepgmebklhemgaaGreatDoor
#print axioms Go.Proofs.YtepgmebklhemgaaGreatDoor.capStrange_card
