/- Proved: the card of the statement VaultWho of layer 22, for every input, without a condition. -/
import Derived.Test.YtcdljlaoedaliaaDoorCards
import Derived.Test.YtcdljlaoedaliaaDoorTie
import Derived.Test.YtcdljlaoedaliaaDoorTa
import Derived.Test.YtcdljlaoedaliaaDoorT7
import Derived.Test.YtcdljlaoedaliaaDoorT6
import Derived.Test.YtcdljlaoedaliaaDoorLw
set_option linter.unusedVariables false
set_option linter.unusedSimpArgs false
namespace Go.Proofs.YtcdljlaoedaliaaDoor
open Go.ChangeShapes Go.WideShapes Go.ChangeAt Go.RowKit Wd

set_option maxRecDepth 100000 in
theorem vaultWho_contract (H : Type) (enc : TypeId × Value → H) (W : World) (base : Nat) (args : Array Value) (ds gs : List (DataW H)) (before : List MemPlace)
    (hval : ∀ (j : Nat) t v, Tryd.f5.params[j]? = some t → args[j]? = some v → Value.okWide Tryd.prog W .any base t v)
    (hW : DataW.Whole enc Tryd.prog Tryd.f5.params.toList Rows.vaultWhoSpec.vars false W args.toList ds gs before) (hwt : (DataW.weightsEach Tryd.prog (Tryd.f5.params.toList ++ (OpenSpec.ofChange Rows.vaultWhoSpec).bare.plain.varTypes Tryd.prog) (ds ++ gs)).all (· ≤ reachBytes) = true) (hL : laidMetH Tryd.prog Rows.vaultWhoRow.laid W) (hsh : W.ShapedOpen Tryd.prog) :
    Calls Tryd.prog 5 args W fun e W' => ∃ v, e = .returned v ∧ Rows.vaultWhoSpec.post enc Tryd.prog Tryd.f5 false true false false W args v W' := by
  have ht : Tabs W := tabs_of hL
  have hW' := hW
  obtain ⟨p, q, hA0, hV, rfl, _, _⟩ := hW
  have hA : DataW.TrodAll enc Tryd.prog W 0 (fun _ => true) true Tryd.f5.params.toList args.toList ds p := hA0
  rw [Tryd.params5] at hA hval hwt
  obtain ⟨v0, v1, v2, d0, d1, d2, p0, p1, p2, rfl, rfl, rfl, h0, h1, h2⟩ := trodAll_three hA
  obtain ⟨rfl, rfl⟩ := trodVars_none hV
  obtain ⟨A, c, l, rfl, hra, hAn, hlc⟩ := arg_accs (hval 0 22 v0 rfl rfl) h0

  obtain ⟨sx, rfl, rfl, rfl, hsx⟩ := Go.ChangeMaps.open_string Tryd.underlying9 (hval 1 9 v1 rfl rfl) h1
  obtain ⟨⟨sx⟩⟩ := sx
  have hw2 : ∀ x ∈ d2.weights Tryd.prog 44, x ≤ reachBytes := fun x hx => by
    have h := List.all_eq_true.1 hwt x (by
      simp only [List.cons_append, DataW.weightsEach, List.mem_append]
      exact .inr (.inr (.inl hx)))
    simpa using h
  obtain ⟨A2, c2, lh, rfl, hra2, hsz⟩ := arg_heads (hval 2 44 v2 rfl rfl) h2 hw2
  exact (vaultWho_any ht hra rfl sx hra2 rfl hsz).mono fun e W' ⟨he, hb⟩ => ⟨_, he, Lw.post_law hW' rfl Tryd.laidOut (by kernel_rfl) rfl Tryd.underlying4 rfl hb⟩
theorem vaultWho_reads (os : Os) {H : Type} (enc : TypeId × Value → H) : ∃ places, DataW.whole enc Tryd.prog ((World.laidAll Tryd.prog os Rows.vaultWhoRow.laid).forCall (fun _ _ => 0) ⟨#[], #[.slice none 0 0, .string ⟨#[]⟩, .slice none 0 0], []⟩).memory Tryd.f5.params.toList Rows.vaultWhoSpec.vars false (#[.slice none 0 0, .string ⟨#[]⟩, .slice none 0 0] : Array Value).toList 8 = some ([.nil, .lit (.string []), .nil], [], places) :=
  ⟨[], by kernel_rfl⟩
theorem vaultWho_met (os : Os) : laidMet Tryd.prog Rows.vaultWhoRow.laid ((World.laidAll Tryd.prog os Rows.vaultWhoRow.laid).forCall (fun _ _ => 0) ⟨#[], #[.slice none 0 0, .string ⟨#[]⟩, .slice none 0 0], []⟩).memory :=
  laidMet_laidAll #[.slice none 0 0, .string ⟨#[]⟩, .slice none 0 0] (by kernel_rfl) (by kernel_rfl)
set_option maxRecDepth 100000 in
theorem vaultWho_lifted (os : Os) (started : os.Started) (H : Type) (enc : TypeId × Value → H) (F : Stop.Interp) :
    ReturnsInHanded {} Tryd.checked os 5 .any ((OpenSpec.ofChange Rows.vaultWhoSpec).preRow enc Tryd.prog Tryd.f5 Rows.vaultWhoRow.domain false Rows.vaultWhoRow.laid) (((OpenSpec.ofChange Rows.vaultWhoSpec).at F).post enc Tryd.prog Tryd.f5 false true false false) := by
  obtain ⟨places, hx⟩ := vaultWho_reads os enc
  refine returnsInHanded_of_row (C := Tryd.checked) (s := OpenSpec.ofChange Rows.vaultWhoSpec) Tryd.own started (by kernel_rfl) Tryd.func5
    (witness_row_at (enc := enc) (C := Tryd.checked) false (World.laidAll Tryd.prog os Rows.vaultWhoRow.laid) #[.slice none 0 0, .string ⟨#[]⟩, .slice none 0 0] rfl (by kernel_rfl) (by kernel_rfl) (by kernel_rfl)
      (OpenSpec.preRow_of_cond 8 hx (by kernel_rfl) (fun k hk => by cases hk) (by kernel_rfl) (vaultWho_met os))) ?_
  intro W base args ds gs before hval hW _ _ hwt hL hsh _
  exact vaultWho_contract H enc W base args ds gs before hval hW hwt hL hsh
theorem vaultWho_said : Rows.VaultWhoSaid :=
  OpenClaim.holds_of_cond 5 Tryd.f5 rfl rfl rfl rfl rfl rfl rfl ⟨rfl, rfl, rfl, rfl, rfl⟩ rfl rfl rfl rfl rfl (by kernel_rfl) Tryd.func5 (by kernel_rfl)
    (of_decide_eq_true (by kernel_rfl)) (by unfold Func.isWrapper; first | (rw [if_pos (by decide +kernel)]; kernel_rfl) | (rw [if_neg (by decide +kernel)]; exact ⟨rfl, rfl⟩))
    (fun os started H enc _ F => by rw [OpenClaim.pre_eq_preRow]; exact vaultWho_lifted os started H enc F)
theorem vaultWho_plain (f : FuncId) (fn : Func) (hf : Tryd.pinned.checked.prog.funcNamed "lantern/lanternlaw22.VaultWho" = some f) (hfn : Tryd.pinned.checked.prog.funcs[f]? = some fn) :
    false = Tryd.pinned.checked.prog.looks [] ∧ ∀ (j : Nat) t, fn.params[j]? = some t → Tryd.pinned.checked.prog.wantsStandIn t = false := by
  obtain rfl : f = 5 := Option.some.inj ((show Tryd.prog.funcNamed "lantern/lanternlaw22.VaultWho" = some 5 by kernel_rfl).symm.trans hf) |>.symm
  obtain rfl : fn = Tryd.f5 := (Option.some.inj (Tryd.func5.symm.trans hfn)).symm
  refine ⟨by kernel_rfl, fun j t ht => ?_⟩
  rw [Tryd.params5] at ht
  have hm := Array.mem_of_getElem? ht
  simp only [List.mem_toArray, List.mem_cons, List.not_mem_nil, or_false] at hm
  rcases hm with rfl | rfl | rfl
  · exact (show Tryd.prog.wantsStandIn 22 = false by kernel_rfl)
  · exact (show Tryd.prog.wantsStandIn 9 = false by kernel_rfl)
  · exact (show Tryd.prog.wantsStandIn 44 = false by kernel_rfl)
/-- THE CARD. -/
theorem vaultWho_card : Rows.VaultWhoCardSaid :=
  Claim7.holds_tied_plain_at .later [] _ _ _ _ vaultWho_said (fun _ h => by cases h) (by kernel_rfl) (fun _ h => by cases h) vaultWho_row_tie rfl ⟨rfl, rfl⟩ (by kernel_rfl) rfl vaultWho_plain (by kernel_rfl)
end Go.Proofs.YtcdljlaoedaliaaDoor
#print axioms Go.Proofs.YtcdljlaoedaliaaDoor.vaultWho_card
