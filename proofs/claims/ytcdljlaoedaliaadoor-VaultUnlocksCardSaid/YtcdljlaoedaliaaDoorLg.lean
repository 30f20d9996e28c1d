/- Proved: the card of the statement VaultUnlocks of layer 22, for every input, without a condition. -/
import Derived.Test.YtcdljlaoedaliaaDoorCards
import Derived.Test.YtcdljlaoedaliaaDoorTie
import Derived.Test.YtcdljlaoedaliaaDoorTa
import Derived.Test.YtcdljlaoedaliaaDoorT9
import Derived.Test.YtcdljlaoedaliaaDoorT6
import Derived.Test.YtcdljlaoedaliaaDoorLw
set_option linter.unusedVariables false
set_option linter.unusedSimpArgs false
namespace Go.Proofs.YtcdljlaoedaliaaDoor
open Go.ChangeShapes Go.WideShapes Go.ChangeAt Go.RowKit Wd

set_option maxRecDepth 100000 in
theorem vaultUnlocks_contract (H : Type) (enc : TypeId × Value → H) (W : World) (base : Nat) (args : Array Value) (ds gs : List (DataW H)) (before : List MemPlace)
    (hval : ∀ (j : Nat) t v, Tryd.f6.params[j]? = some t → args[j]? = some v → Value.okWide Tryd.prog W .any base t v)
    (hW : DataW.Whole enc Tryd.prog Tryd.f6.params.toList Rows.vaultUnlocksSpec.vars false W args.toList ds gs before) (hL : laidMetH Tryd.prog Rows.vaultUnlocksRow.laid W) (hsh : W.ShapedOpen Tryd.prog) :
    Calls Tryd.prog 6 args W fun e W' => ∃ v, e = .returned v ∧ Rows.vaultUnlocksSpec.post enc Tryd.prog Tryd.f6 false true false false W args v W' := by
  obtain ⟨ht, h10⟩ := tabs_of5 hL
  have hW' := hW
  obtain ⟨p, q, hA0, hV, rfl, _, _⟩ := hW
  have hA : DataW.TrodAll enc Tryd.prog W 0 (fun _ => true) true Tryd.f6.params.toList args.toList ds p := hA0
  rw [Tryd.params6] at hA hval
  obtain ⟨v0, v1, v2, d0, d1, d2, p0, p1, p2, rfl, rfl, rfl, h0, h1, h2⟩ := trodAll_three hA
  obtain ⟨rfl, rfl⟩ := trodVars_none hV
  obtain ⟨A, c, k, rfl, hA1, hkc, hrk, _⟩ := arg_bytes Tryd.underlying42 Tryd.underlying5 Tryd.cells_byte (hval 0 42 v0 rfl rfl) h0
  obtain ⟨ca, cb, cu, cp, rfl, hca, hcb⟩ := arg_cred (hval 1 52 v1 rfl rfl) h1
  obtain ⟨C, f, sb, rfl, hC1, hsf, hrs, _⟩ := arg_bytes Tryd.underlying42 Tryd.underlying5 Tryd.cells_byte (hval 2 42 v2 rfl rfl) h2
  exact (vaultUnlocks_any ht h10 hrk hA1 hkc ca cb hca hcb cu cp hrs hC1 hsf).mono fun e W' ⟨he, hb⟩ => ⟨_, he, Lw.post_law hW' rfl Tryd.laidOut (by kernel_rfl) rfl Tryd.underlying4 rfl hb⟩
theorem vaultUnlocks_reads (os : Os) {H : Type} (enc : TypeId × Value → H) : ∃ places, DataW.whole enc Tryd.prog ((World.laidAll Tryd.prog os Rows.vaultUnlocksRow.laid).forCall (fun _ _ => 0) ⟨#[], #[.slice none 0 0, .agg #[.int .u64 0, .int .u64 0, .string ⟨#[]⟩, .string ⟨#[]⟩], .slice none 0 0], []⟩).memory Tryd.f6.params.toList Rows.vaultUnlocksSpec.vars false (#[.slice none 0 0, .agg #[.int .u64 0, .int .u64 0, .string ⟨#[]⟩, .string ⟨#[]⟩], .slice none 0 0] : Array Value).toList 8 = some ([.nil, .agg [.lit (.int .u64 0), .lit (.int .u64 0), .lit (.string []), .lit (.string [])], .nil], [], places) :=
  ⟨[], by kernel_rfl⟩
theorem vaultUnlocks_met (os : Os) : laidMet Tryd.prog Rows.vaultUnlocksRow.laid ((World.laidAll Tryd.prog os Rows.vaultUnlocksRow.laid).forCall (fun _ _ => 0) ⟨#[], #[.slice none 0 0, .agg #[.int .u64 0, .int .u64 0, .string ⟨#[]⟩, .string ⟨#[]⟩], .slice none 0 0], []⟩).memory :=
  laidMet_laidAll #[.slice none 0 0, .agg #[.int .u64 0, .int .u64 0, .string ⟨#[]⟩, .string ⟨#[]⟩], .slice none 0 0] (by kernel_rfl) (by kernel_rfl)
set_option maxRecDepth 100000 in
theorem vaultUnlocks_lifted (os : Os) (started : os.Started) (H : Type) (enc : TypeId × Value → H) (F : Stop.Interp) :
    ReturnsInHanded {} Tryd.checked os 6 .any ((OpenSpec.ofChange Rows.vaultUnlocksSpec).preRow enc Tryd.prog Tryd.f6 Rows.vaultUnlocksRow.domain false Rows.vaultUnlocksRow.laid) (((OpenSpec.ofChange Rows.vaultUnlocksSpec).at F).post enc Tryd.prog Tryd.f6 false true false false) := by
  obtain ⟨places, hx⟩ := vaultUnlocks_reads os enc
  refine returnsInHanded_of_row (C := Tryd.checked) (s := OpenSpec.ofChange Rows.vaultUnlocksSpec) Tryd.own started (by kernel_rfl) Tryd.func6
    (witness_row_at (enc := enc) (C := Tryd.checked) false (World.laidAll Tryd.prog os Rows.vaultUnlocksRow.laid) #[.slice none 0 0, .agg #[.int .u64 0, .int .u64 0, .string ⟨#[]⟩, .string ⟨#[]⟩], .slice none 0 0] rfl (by kernel_rfl) (by kernel_rfl) (by kernel_rfl)
      (OpenSpec.preRow_of_cond 8 hx (by kernel_rfl) (fun k hk => by cases hk) (by kernel_rfl) (vaultUnlocks_met os))) ?_
  intro W base args ds gs before hval hW _ _ _ hL hsh _
  exact vaultUnlocks_contract H enc W base args ds gs before hval hW hL hsh
theorem vaultUnlocks_said : Rows.VaultUnlocksSaid :=
  OpenClaim.holds_of_cond 6 Tryd.f6 rfl rfl rfl rfl rfl rfl rfl ⟨rfl, rfl, rfl, rfl, rfl⟩ rfl rfl rfl rfl rfl (by kernel_rfl) Tryd.func6 (by kernel_rfl)
    (of_decide_eq_true (by kernel_rfl)) (by unfold Func.isWrapper; first | (rw [if_pos (by decide +kernel)]; kernel_rfl) | (rw [if_neg (by decide +kernel)]; exact ⟨rfl, rfl⟩))
    (fun os started H enc _ F => by rw [OpenClaim.pre_eq_preRow]; exact vaultUnlocks_lifted os started H enc F)
theorem vaultUnlocks_plain (f : FuncId) (fn : Func) (hf : Tryd.pinned.checked.prog.funcNamed "lantern/lanternlaw22.VaultUnlocks" = some f) (hfn : Tryd.pinned.checked.prog.funcs[f]? = some fn) :
    false = Tryd.pinned.checked.prog.looks [] ∧ ∀ (j : Nat) t, fn.params[j]? = some t → Tryd.pinned.checked.prog.wantsStandIn t = false := by
  obtain rfl : f = 6 := Option.some.inj ((show Tryd.prog.funcNamed "lantern/lanternlaw22.VaultUnlocks" = some 6 by kernel_rfl).symm.trans hf) |>.symm
  obtain rfl : fn = Tryd.f6 := (Option.some.inj (Tryd.func6.symm.trans hfn)).symm
  refine ⟨by kernel_rfl, fun j t ht => ?_⟩
  rw [Tryd.params6] at ht
  have hm := Array.mem_of_getElem? ht
  simp only [List.mem_toArray, List.mem_cons, List.not_mem_nil, or_false] at hm
  rcases hm with rfl | rfl | rfl
  · exact (show Tryd.prog.wantsStandIn 42 = false by kernel_rfl)
  · exact (show Tryd.prog.wantsStandIn 52 = false by kernel_rfl)
  · exact (show Tryd.prog.wantsStandIn 42 = false by kernel_rfl)
/-- THE CARD. -/
theorem vaultUnlocks_card : Rows.VaultUnlocksCardSaid :=
  Claim7.holds_tied_plain_at .later [] _ _ _ _ vaultUnlocks_said (fun _ h => by cases h) (by kernel_rfl) (fun _ h => by cases h) vaultUnlocks_row_tie rfl ⟨rfl, rfl⟩ (by kernel_rfl) rfl vaultUnlocks_plain (by kernel_rfl)
end Go.Proofs.YtcdljlaoedaliaaDoor
#print axioms Go.Proofs.YtcdljlaoedaliaaDoor.vaultUnlocks_card
