/- Proved: the card of the statement MacDerives of layer 3, for every input, without a condition. -/
import Derived.Test.YthlbenbkgkahoaaDoorCards
import Derived.Test.YthlbenbkgkahoaaDoorTie
import Derived.Test.YthlbenbkgkahoaaDoorTa
import Derived.Test.YthlbenbkgkahoaaDoorM5
import Derived.Test.YthlbenbkgkahoaaDoorEa
import Derived.Test.YthlbenbkgkahoaaDoorAr
import Derived.Test.YthlbenbkgkahoaaDoorAg
import Derived.Test.YthlbenbkgkahoaaDoorLw
set_option linter.unusedVariables false
set_option linter.unusedSimpArgs false
namespace Go.Proofs.YthlbenbkgkahoaaDoor
open Go.ChangeShapes Go.WideShapes Go.ChangeAt Go.RowKit Wd

theorem macDerives_contract (H : Type) (enc : TypeId × Value → H) (W : World) (base : Nat) (args : Array Value) (ds gs : List (DataW H)) (before : List MemPlace)
    (hval : ∀ (j : Nat) t v, Tryd.f7.params[j]? = some t → args[j]? = some v → Value.okWide Tryd.prog W .any base t v)
    (hW : DataW.Whole enc Tryd.prog Tryd.f7.params.toList Rows.macDerivesSpec.vars false W args.toList ds gs before) (hL : laidMetH Tryd.prog Rows.macDerivesRow.laid W) :
    Calls Tryd.prog 7 args W fun e W' => ∃ v, e = .returned v ∧ Rows.macDerivesSpec.post enc Tryd.prog Tryd.f7 false true false false W args v W' := by
  have ht : Tabs W := tabs_of hL
  have hW' := hW
  obtain ⟨p, q, hA0, hV, rfl, _, _⟩ := hW
  have hA : DataW.TrodAll enc Tryd.prog W 0 (fun _ => true) true Tryd.f7.params.toList args.toList ds p := hA0
  rw [Tryd.params7] at hA hval
  obtain ⟨v0, v1, v2, d0, d1, d2, p0, p1, p2, rfl, rfl, rfl, h0, h1, h2⟩ := trodAll_three hA
  obtain ⟨rfl, rfl⟩ := trodVars_none hV
  obtain ⟨A, c, k, rfl, hA1, hkc, hrk, _⟩ := arg_bytes Tryd.underlying22 Tryd.underlying5 Tryd.cells_byte (hval 0 22 v0 rfl rfl) h0
  obtain ⟨s, rfl, rfl, rfl, hs⟩ := Go.ChangeMaps.open_string Tryd.underlying9 (hval 1 9 v1 rfl rfl) h1
  obtain ⟨⟨s⟩⟩ := s
  obtain ⟨K, T, rfl, hK, hT⟩ := arg_ints2 Tryd.underlying37 Tryd.underlying3 (by kernel_rfl) (by kernel_rfl) (hval 2 37 v2 rfl rfl) h2
  exact (macDerives_any ht hA1 hrk hkc K T).mono fun e W' ⟨he, hb⟩ => ⟨_, he, Lw.post_law hW' rfl Tryd.laidOut (by kernel_rfl) rfl Tryd.underlying4 rfl hb⟩
theorem macDerives_reads (os : Os) {H : Type} (enc : TypeId × Value → H) : ∃ places, DataW.whole enc Tryd.prog ((World.laidAll Tryd.prog os Rows.macDerivesRow.laid).forCall (fun _ _ => 0) ⟨#[], #[.slice none 0 0, .string ⟨#[]⟩, .agg #[.int .i64 0, .int .i64 0]], []⟩).memory Tryd.f7.params.toList Rows.macDerivesSpec.vars false (#[.slice none 0 0, .string ⟨#[]⟩, .agg #[.int .i64 0, .int .i64 0]] : Array Value).toList 8 = some ([.nil, .lit (.string []), .agg [.lit (.int .i64 0), .lit (.int .i64 0)]], [], places) :=
  ⟨[], by kernel_rfl⟩
theorem macDerives_met (os : Os) : laidMet Tryd.prog Rows.macDerivesRow.laid ((World.laidAll Tryd.prog os Rows.macDerivesRow.laid).forCall (fun _ _ => 0) ⟨#[], #[.slice none 0 0, .string ⟨#[]⟩, .agg #[.int .i64 0, .int .i64 0]], []⟩).memory :=
  laidMet_laidAll #[.slice none 0 0, .string ⟨#[]⟩, .agg #[.int .i64 0, .int .i64 0]] (by kernel_rfl) (by kernel_rfl)
set_option maxRecDepth 100000 in
theorem macDerives_lifted (os : Os) (started : os.Started) (H : Type) (enc : TypeId × Value → H) (F : Stop.Interp) :
    ReturnsInHanded {} Tryd.checked os 7 .any ((OpenSpec.ofChange Rows.macDerivesSpec).preRow enc Tryd.prog Tryd.f7 Rows.macDerivesRow.domain false Rows.macDerivesRow.laid) (((OpenSpec.ofChange Rows.macDerivesSpec).at F).post enc Tryd.prog Tryd.f7 false true false false) := by
  obtain ⟨places, hx⟩ := macDerives_reads os enc
  refine returnsInHanded_of_row (C := Tryd.checked) (s := OpenSpec.ofChange Rows.macDerivesSpec) Tryd.own started (by kernel_rfl) Tryd.func7
    (witness_row_at (enc := enc) (C := Tryd.checked) false (World.laidAll Tryd.prog os Rows.macDerivesRow.laid) #[.slice none 0 0, .string ⟨#[]⟩, .agg #[.int .i64 0, .int .i64 0]] rfl (by kernel_rfl) (by kernel_rfl) (by kernel_rfl)
      (OpenSpec.preRow_of_cond 8 hx (by kernel_rfl) (fun k hk => by cases hk) (by kernel_rfl) (macDerives_met os))) ?_
  intro W base args ds gs before hval hW _ _ _ hL _ _
  exact macDerives_contract H enc W base args ds gs before hval hW hL
theorem macDerives_said : Rows.MacDerivesSaid :=
  OpenClaim.holds_of_cond 7 Tryd.f7 rfl rfl rfl rfl rfl rfl rfl ⟨rfl, rfl, rfl, rfl, rfl⟩ rfl rfl rfl rfl rfl (by kernel_rfl) Tryd.func7 (by kernel_rfl)
    (of_decide_eq_true (by kernel_rfl)) (by unfold Func.isWrapper; first | (rw [if_pos (by decide +kernel)]; kernel_rfl) | (rw [if_neg (by decide +kernel)]; exact ⟨rfl, rfl⟩))
    (fun os started H enc _ F => by rw [OpenClaim.pre_eq_preRow]; exact macDerives_lifted os started H enc F)
theorem macDerives_plain (f : FuncId) (fn : Func) (hf : Tryd.pinned.checked.prog.funcNamed "lantern/lanternlaw03.MacDerives" = some f) (hfn : Tryd.pinned.checked.prog.funcs[f]? = some fn) :
    false = Tryd.pinned.checked.prog.looks [] ∧ ∀ (j : Nat) t, fn.params[j]? = some t → Tryd.pinned.checked.prog.wantsStandIn t = false := by
  obtain rfl : f = 7 := Option.some.inj ((show Tryd.prog.funcNamed "lantern/lanternlaw03.MacDerives" = some 7 by kernel_rfl).symm.trans hf) |>.symm
  obtain rfl : fn = Tryd.f7 := (Option.some.inj (Tryd.func7.symm.trans hfn)).symm
  refine ⟨by kernel_rfl, fun j t ht => ?_⟩
  rw [Tryd.params7] at ht
  have hm := Array.mem_of_getElem? ht
  simp only [List.mem_toArray, List.mem_cons, List.not_mem_nil, or_false] at hm
  rcases hm with rfl | rfl | rfl
  · exact (show Tryd.prog.wantsStandIn 22 = false by kernel_rfl)
  · exact (show Tryd.prog.wantsStandIn 9 = false by kernel_rfl)
  · exact (show Tryd.prog.wantsStandIn 37 = false by kernel_rfl)
/-- THE CARD. -/
theorem macDerives_card : Rows.MacDerivesCardSaid :=
  Claim7.holds_tied_plain_at .later [] _ _ _ _ macDerives_said (fun _ h => by cases h) (by kernel_rfl) (fun _ h => by cases h) macDerives_row_tie rfl ⟨rfl, rfl⟩ (by kernel_rfl) rfl macDerives_plain (by kernel_rfl)
end Go.Proofs.YthlbenbkgkahoaaDoor
#print axioms Go.Proofs.YthlbenbkgkahoaaDoor.macDerives_card
