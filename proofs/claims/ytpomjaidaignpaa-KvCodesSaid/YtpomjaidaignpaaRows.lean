/-
  No cell of these rows narrows 'for every input' (looked for: loops, veiled, ifaces, maps, wideKeys, modest, calm, conditions, laid).
  DERIVED. THE GIVEN ROWS OF THIS SEAT. 3 by the template 'for every input the law returns true; each argument reads behind the call as it read before'; 0 by the template 'total and deterministic' (their statements: YtpomjaidaignpaaTotals.lean).
  GIVEN WITH THE SEED: the statements are not yours to turn. If you find one false, say at which input.
  Laid BY PROGRAM, IN A SANDBOX (cutbox-rows.mjs): the forced cells as the released guide's own fill.sh prints them over the translation 7d36b8547fe34ca3… (all of the seat's roots in one cut). By AI agents, Wed Nov 11 2026. No macro, syntax, notation, axiom, sorry.
-/
import Derived.Test.YtpomjaidaignpaaChecked
import GoSem.Claim
import GoSem.ClaimJoined
import GoSem.ClaimMapViews
import Derived.JoinedTies
import Derived.KernelRfl
namespace Go.Proofs.Ytpomjaidaignpaa
/- THE CELL 'sum', in the pinned program and in every row, IS THE sha256 OF THE DUMP (.gsa) THAT YtpomjaidaignpaaProg.lean LOADS. Nothing in Lean hashes anything: it is a label: what it is worth is what the hold of that sum in a sandbox is worth. -/
noncomputable def Try.pinned : Pinned := { name := "ytpomjaidaignpaa", sum := "7d36b8547fe34ca3bed4ee1ead196b72434ae8b2e6c5bfcb5a68979d7fa03f7f", checked := Try.checked }
namespace Rows
def none {H : Type} : Left H := { results := [], args := [] }

/-- 'lanternlaw20.KvCodes': WHATEVER THE INPUT: true; the input reads as it did. -/
def kvCodesSpec : ChangeSpec := { name := "kvCodes", fn := fun _ => fun
  | [d] => { results := [.lit (.bool true)], args := [d] }
  | _ => none }
def kvCodesRow : OpenClaim := { program := "ytpomjaidaignpaa", sum := "7d36b8547fe34ca3bed4ee1ead196b72434ae8b2e6c5bfcb5a68979d7fa03f7f", func := "lantern/lanternlaw20.KvCodes", spec := "kvCodes", inPlace := ["maps.clone", "internal/bytealg.abigen_runtime_cmpstring"], unfollowed := true, recurses := true, apart := false }
def KvCodesSaid : Prop := kvCodesRow.holds Try.pinned (OpenSpec.ofChange kvCodesSpec)

/-- ITS FALSE NEIGHBOUR: 'it returns false'. Refute it at one input. -/
def kvCodesWrong : ChangeSpec := { name := "kvCodes", fn := fun _ => fun
  | [d] => { results := [.lit (.bool false)], args := [d] }
  | _ => none }
def KvCodesWrongFalsely : Prop := kvCodesRow.holds Try.pinned (OpenSpec.ofChange kvCodesWrong)

/-- 'lanternlaw20.KvDecodes': WHATEVER THE INPUT: true; the input reads as it did. -/
def kvDecodesSpec : ChangeSpec := { name := "kvDecodes", fn := fun _ => fun
  | [d] => { results := [.lit (.bool true)], args := [d] }
  | _ => none }
def kvDecodesRow : OpenClaim := { program := "ytpomjaidaignpaa", sum := "7d36b8547fe34ca3bed4ee1ead196b72434ae8b2e6c5bfcb5a68979d7fa03f7f", func := "lantern/lanternlaw20.KvDecodes", spec := "kvDecodes", inPlace := ["maps.clone", "internal/bytealg.abigen_runtime_cmpstring"], unfollowed := true, recurses := true, apart := false }
def KvDecodesSaid : Prop := kvDecodesRow.holds Try.pinned (OpenSpec.ofChange kvDecodesSpec)

/-- ITS FALSE NEIGHBOUR: 'it returns false'. Refute it at one input. -/
def kvDecodesWrong : ChangeSpec := { name := "kvDecodes", fn := fun _ => fun
  | [d] => { results := [.lit (.bool false)], args := [d] }
  | _ => none }
def KvDecodesWrongFalsely : Prop := kvDecodesRow.holds Try.pinned (OpenSpec.ofChange kvDecodesWrong)

/-- 'lanternlaw20.KvNobody': WHATEVER THE INPUT: true; the input reads as it did. -/
def kvNobodySpec : ChangeSpec := { name := "kvNobody", fn := fun _ => fun
  | [d1, d2] => { results := [.lit (.bool true)], args := [d1, d2] }
  | _ => none }
def kvNobodyRow : OpenClaim := { program := "ytpomjaidaignpaa", sum := "7d36b8547fe34ca3bed4ee1ead196b72434ae8b2e6c5bfcb5a68979d7fa03f7f", func := "lantern/lanternlaw20.KvNobody", spec := "kvNobody", inPlace := ["maps.clone", "internal/bytealg.abigen_runtime_cmpstring"], unfollowed := true, recurses := true, apart := false }
def KvNobodySaid : Prop := kvNobodyRow.holds Try.pinned (OpenSpec.ofChange kvNobodySpec)

/-- ITS FALSE NEIGHBOUR: 'it returns false'. Refute it at one input. -/
def kvNobodyWrong : ChangeSpec := { name := "kvNobody", fn := fun _ => fun
  | [d1, d2] => { results := [.lit (.bool false)], args := [d1, d2] }
  | _ => none }
def KvNobodyWrongFalsely : Prop := kvNobodyRow.holds Try.pinned (OpenSpec.ofChange kvNobodyWrong)

/- THE SECOND FORM. 'bulk': how many values and letters a reading holds, each counted each time it is reached (what is shared counts as often as it is met; a slice's spare places count too). A statement '..UptoSaid' is the law's where the arguments, and the package variables that the reading takes, are together of bulk at most 1048576: NARROWER than '..Said'. Prove '..Said' where nothing that the law and all that it calls make is longer than what came in: it says more and counts as full. Else prove '..UptoSaid'. A law counts once. -/
mutual
def uptoBulk {H : Type} : DataW H → Nat
  | .lit (.string bytes) => bytes.length + 1
  | .lit _ => 1
  | .nil => 1
  | .ptr d => uptoBulk d + 1
  | .slice elems spare => uptoBulkAll elems + uptoBulkAll spare + 1
  | .agg parts => uptoBulkAll parts + 1
  | .iface _ d => uptoBulk d + 1
  | .map entries => uptoBulkEntries entries + 1
  | .held _ => 1
def uptoBulkAll {H : Type} : List (DataW H) → Nat
  | [] => 0
  | d :: r => uptoBulk d + uptoBulkAll r
def uptoBulkEntries {H : Type} : List (Lit × DataW H) → Nat
  | [] => 0
  | x :: r => uptoBulkEntry x + uptoBulkEntries r
def uptoBulkEntry {H : Type} : Lit × DataW H → Nat
  | (.string bytes, d) => bytes.length + uptoBulk d + 1
  | (_, d) => uptoBulk d + 1
 end
def uptoSmall : (H : Type) → List (DataW H) → Bool := fun _ ds => decide (uptoBulkAll ds ≤ 1048576)
def OpenSpec.upto (s : _root_.Go.ChangeSpec) : _root_.Go.OpenSpec := { _root_.Go.OpenSpec.ofChange s with cond := some uptoSmall }

/-- 'lanternlaw20.KvCodes', WHERE WHAT IT READS IS OF BULK AT MOST 1048576: true; the input reads as it did. -/
def kvCodesUptoRow : OpenClaim := { program := "ytpomjaidaignpaa", sum := "7d36b8547fe34ca3bed4ee1ead196b72434ae8b2e6c5bfcb5a68979d7fa03f7f", func := "lantern/lanternlaw20.KvCodes", spec := "kvCodes", inPlace := ["maps.clone", "internal/bytealg.abigen_runtime_cmpstring"], unfollowed := true, recurses := true, apart := false, narrowed := true }
def KvCodesUptoSaid : Prop := kvCodesUptoRow.holds Try.pinned (OpenSpec.upto kvCodesSpec)

/-- 'lanternlaw20.KvDecodes', WHERE WHAT IT READS IS OF BULK AT MOST 1048576: true; the input reads as it did. -/
def kvDecodesUptoRow : OpenClaim := { program := "ytpomjaidaignpaa", sum := "7d36b8547fe34ca3bed4ee1ead196b72434ae8b2e6c5bfcb5a68979d7fa03f7f", func := "lantern/lanternlaw20.KvDecodes", spec := "kvDecodes", inPlace := ["maps.clone", "internal/bytealg.abigen_runtime_cmpstring"], unfollowed := true, recurses := true, apart := false, narrowed := true }
def KvDecodesUptoSaid : Prop := kvDecodesUptoRow.holds Try.pinned (OpenSpec.upto kvDecodesSpec)

/-- 'lanternlaw20.KvNobody', WHERE WHAT IT READS IS OF BULK AT MOST 1048576: true; the input reads as it did. -/
def kvNobodyUptoRow : OpenClaim := { program := "ytpomjaidaignpaa", sum := "7d36b8547fe34ca3bed4ee1ead196b72434ae8b2e6c5bfcb5a68979d7fa03f7f", func := "lantern/lanternlaw20.KvNobody", spec := "kvNobody", inPlace := ["maps.clone", "internal/bytealg.abigen_runtime_cmpstring"], unfollowed := true, recurses := true, apart := false, narrowed := true }
def KvNobodyUptoSaid : Prop := kvNobodyUptoRow.holds Try.pinned (OpenSpec.upto kvNobodySpec)

end Rows
end Go.Proofs.Ytpomjaidaignpaa
