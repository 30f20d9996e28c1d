/-
  No cell of these rows narrows 'for every input' (looked for: loops, veiled, ifaces, maps, wideKeys, modest, calm, conditions, laid).
  DERIVED. THE GIVEN ROWS OF THIS SEAT. 5 by the template 'for every input the law returns true; each argument reads behind the call as it read before'; 0 by the template 'total and deterministic' (their statements: YtinhpiggakillaaTotals.lean).
  GIVEN WITH THE SEED: the statements are not yours to turn. If you find one false, say at which input.
  Laid BY PROGRAM, IN A SANDBOX (cutbox-rows.mjs): the forced cells as the released guide's own fill.sh prints them over the translation 41965df7b9009bb5… (all of the seat's roots in one cut). By AI agents, Wed Nov 11 2026. No macro, syntax, notation, axiom, sorry.
-/
import Derived.Test.YtinhpiggakillaaChecked
import GoSem.Claim
import GoSem.ClaimJoined
import GoSem.ClaimMapViews
import Derived.JoinedTies
import Derived.KernelRfl
namespace Go.Proofs.Ytinhpiggakillaa
/- THE CELL 'sum', in the pinned program and in every row, IS THE sha256 OF THE DUMP (.gsa) THAT YtinhpiggakillaaProg.lean LOADS. Nothing in Lean hashes anything: it is a label: what it is worth is what the hold of that sum in a sandbox is worth. -/
noncomputable def Try.pinned : Pinned := { name := "ytinhpiggakillaa", sum := "41965df7b9009bb5f056c10c9397600270f7c3439a98a7b082c8b92be98d15a4", checked := Try.checked }
namespace Rows
def none {H : Type} : Left H := { results := [], args := [] }

/-- 'lanternlaw17.BlockOwns': WHATEVER THE INPUT: true; the input reads as it did. -/
def blockOwnsSpec : ChangeSpec := { name := "blockOwns", fn := fun _ => fun
  | [d1, d2] => { results := [.lit (.bool true)], args := [d1, d2] }
  | _ => none }
def blockOwnsRow : OpenClaim := { program := "ytinhpiggakillaa", sum := "41965df7b9009bb5f056c10c9397600270f7c3439a98a7b082c8b92be98d15a4", func := "lantern/lanternlaw17.BlockOwns", spec := "blockOwns", apart := false }
def BlockOwnsSaid : Prop := blockOwnsRow.holds Try.pinned (OpenSpec.ofChange blockOwnsSpec)

/-- ITS FALSE NEIGHBOUR: 'it returns false'. Refute it at one input. -/
def blockOwnsWrong : ChangeSpec := { name := "blockOwns", fn := fun _ => fun
  | [d1, d2] => { results := [.lit (.bool false)], args := [d1, d2] }
  | _ => none }
def BlockOwnsWrongFalsely : Prop := blockOwnsRow.holds Try.pinned (OpenSpec.ofChange blockOwnsWrong)

/-- 'lanternlaw17.BlockSafe': WHATEVER THE INPUT: true; the input reads as it did. -/
def blockSafeSpec : ChangeSpec := { name := "blockSafe", fn := fun _ => fun
  | [d1, d2, d3] => { results := [.lit (.bool true)], args := [d1, d2, d3] }
  | _ => none }
def blockSafeRow : OpenClaim := { program := "ytinhpiggakillaa", sum := "41965df7b9009bb5f056c10c9397600270f7c3439a98a7b082c8b92be98d15a4", func := "lantern/lanternlaw17.BlockSafe", spec := "blockSafe", apart := false }
def BlockSafeSaid : Prop := blockSafeRow.holds Try.pinned (OpenSpec.ofChange blockSafeSpec)

/-- ITS FALSE NEIGHBOUR: 'it returns false'. Refute it at one input. -/
def blockSafeWrong : ChangeSpec := { name := "blockSafe", fn := fun _ => fun
  | [d1, d2, d3] => { results := [.lit (.bool false)], args := [d1, d2, d3] }
  | _ => none }
def BlockSafeWrongFalsely : Prop := blockSafeRow.holds Try.pinned (OpenSpec.ofChange blockSafeWrong)

/-- 'lanternlaw17.BlockFuse': WHATEVER THE INPUT: true; the input reads as it did. -/
def blockFuseSpec : ChangeSpec := { name := "blockFuse", fn := fun _ => fun
  | [d1, d2, d3] => { results := [.lit (.bool true)], args := [d1, d2, d3] }
  | _ => none }
def blockFuseRow : OpenClaim := { program := "ytinhpiggakillaa", sum := "41965df7b9009bb5f056c10c9397600270f7c3439a98a7b082c8b92be98d15a4", func := "lantern/lanternlaw17.BlockFuse", spec := "blockFuse", apart := false }
def BlockFuseSaid : Prop := blockFuseRow.holds Try.pinned (OpenSpec.ofChange blockFuseSpec)

/-- ITS FALSE NEIGHBOUR: 'it returns false'. Refute it at one input. -/
def blockFuseWrong : ChangeSpec := { name := "blockFuse", fn := fun _ => fun
  | [d1, d2, d3] => { results := [.lit (.bool false)], args := [d1, d2, d3] }
  | _ => none }
def BlockFuseWrongFalsely : Prop := blockFuseRow.holds Try.pinned (OpenSpec.ofChange blockFuseWrong)

/-- 'lanternlaw17.BlockNobody': WHATEVER THE INPUT: true; the input reads as it did. -/
def blockNobodySpec : ChangeSpec := { name := "blockNobody", fn := fun _ => fun
  | [d] => { results := [.lit (.bool true)], args := [d] }
  | _ => none }
def blockNobodyRow : OpenClaim := { program := "ytinhpiggakillaa", sum := "41965df7b9009bb5f056c10c9397600270f7c3439a98a7b082c8b92be98d15a4", func := "lantern/lanternlaw17.BlockNobody", spec := "blockNobody", apart := false }
def BlockNobodySaid : Prop := blockNobodyRow.holds Try.pinned (OpenSpec.ofChange blockNobodySpec)

/-- ITS FALSE NEIGHBOUR: 'it returns false'. Refute it at one input. -/
def blockNobodyWrong : ChangeSpec := { name := "blockNobody", fn := fun _ => fun
  | [d] => { results := [.lit (.bool false)], args := [d] }
  | _ => none }
def BlockNobodyWrongFalsely : Prop := blockNobodyRow.holds Try.pinned (OpenSpec.ofChange blockNobodyWrong)

/-- 'lanternlaw17.BlockActs': WHATEVER THE INPUT: true; the input reads as it did. -/
def blockActsSpec : ChangeSpec := { name := "blockActs", fn := fun _ => fun
  | [d1, d2] => { results := [.lit (.bool true)], args := [d1, d2] }
  | _ => none }
def blockActsRow : OpenClaim := { program := "ytinhpiggakillaa", sum := "41965df7b9009bb5f056c10c9397600270f7c3439a98a7b082c8b92be98d15a4", func := "lantern/lanternlaw17.BlockActs", spec := "blockActs", apart := false }
def BlockActsSaid : Prop := blockActsRow.holds Try.pinned (OpenSpec.ofChange blockActsSpec)

/-- ITS FALSE NEIGHBOUR: 'it returns false'. Refute it at one input. -/
def blockActsWrong : ChangeSpec := { name := "blockActs", fn := fun _ => fun
  | [d1, d2] => { results := [.lit (.bool false)], args := [d1, d2] }
  | _ => none }
def BlockActsWrongFalsely : Prop := blockActsRow.holds Try.pinned (OpenSpec.ofChange blockActsWrong)

/- THE SECOND FORM. 'bulk': how many values and letters a reading holds, each counted each time it is reached (what is shared counts as often as it is met; a slice's spare places count too). A statement '..UptoSaid' is the law's where the arguments, and the package variables that the reading takes, are together of bulk at most 1048576: NARROWER than '..Said'. Prove '..Said' where nothing that the law and all that it calls make is longer than what came in: it says more and counts as full. Else prove '..UptoSaid'. A law counts once. -/
mutual
def uptoBulk {H : Type} : DataW H → Nat
  | .lit (.string bytes) => bytes.length + 1
  | .lit _ => 1
  | .nil => 1
  | .ptr d => uptoBulk d + 1
  | .slice elems spare => uptoBulkAll elems + uptoBulkAll spare + 1
  | .agg parts => uptoBulkAll parts + 1
  | .iface _ d => uptoBulk d + 1
  | .map entries => uptoBulkEntries entries + 1
  | .held _ => 1
def uptoBulkAll {H : Type} : List (DataW H) → Nat
  | [] => 0
  | d :: r => uptoBulk d + uptoBulkAll r
def uptoBulkEntries {H : Type} : List (Lit × DataW H) → Nat
  | [] => 0
  | x :: r => uptoBulkEntry x + uptoBulkEntries r
def uptoBulkEntry {H : Type} : Lit × DataW H → Nat
  | (.string bytes, d) => bytes.length + uptoBulk d + 1
  | (_, d) => uptoBulk d + 1
 end
def uptoSmall : (H : Type) → List (DataW H) → Bool := fun _ ds => decide (uptoBulkAll ds ≤ 1048576)
def OpenSpec.upto (s : _root_.Go.ChangeSpec) : _root_.Go.OpenSpec := { _root_.Go.OpenSpec.ofChange s with cond := some uptoSmall }

/-- 'lanternlaw17.BlockOwns', WHERE WHAT IT READS IS OF BULK AT MOST 1048576: true; the input reads as it did. -/
def blockOwnsUptoRow : OpenClaim := { program := "ytinhpiggakillaa", sum := "41965df7b9009bb5f056c10c9397600270f7c3439a98a7b082c8b92be98d15a4", func := "lantern/lanternlaw17.BlockOwns", spec := "blockOwns", apart := false, narrowed := true }
def BlockOwnsUptoSaid : Prop := blockOwnsUptoRow.holds Try.pinned (OpenSpec.upto blockOwnsSpec)

/-- 'lanternlaw17.BlockSafe', WHERE WHAT IT READS IS OF BULK AT MOST 1048576: true; the input reads as it did. -/
def blockSafeUptoRow : OpenClaim := { program := "ytinhpiggakillaa", sum := "41965df7b9009bb5f056c10c9397600270f7c3439a98a7b082c8b92be98d15a4", func := "lantern/lanternlaw17.BlockSafe", spec := "blockSafe", apart := false, narrowed := true }
def BlockSafeUptoSaid : Prop := blockSafeUptoRow.holds Try.pinned (OpenSpec.upto blockSafeSpec)

/-- 'lanternlaw17.BlockFuse', WHERE WHAT IT READS IS OF BULK AT MOST 1048576: true; the input reads as it did. -/
def blockFuseUptoRow : OpenClaim := { program := "ytinhpiggakillaa", sum := "41965df7b9009bb5f056c10c9397600270f7c3439a98a7b082c8b92be98d15a4", func := "lantern/lanternlaw17.BlockFuse", spec := "blockFuse", apart := false, narrowed := true }
def BlockFuseUptoSaid : Prop := blockFuseUptoRow.holds Try.pinned (OpenSpec.upto blockFuseSpec)

/-- 'lanternlaw17.BlockNobody', WHERE WHAT IT READS IS OF BULK AT MOST 1048576: true; the input reads as it did. -/
def blockNobodyUptoRow : OpenClaim := { program := "ytinhpiggakillaa", sum := "41965df7b9009bb5f056c10c9397600270f7c3439a98a7b082c8b92be98d15a4", func := "lantern/lanternlaw17.BlockNobody", spec := "blockNobody", apart := false, narrowed := true }
def BlockNobodyUptoSaid : Prop := blockNobodyUptoRow.holds Try.pinned (OpenSpec.upto blockNobodySpec)

/-- 'lanternlaw17.BlockActs', WHERE WHAT IT READS IS OF BULK AT MOST 1048576: true; the input reads as it did. -/
def blockActsUptoRow : OpenClaim := { program := "ytinhpiggakillaa", sum := "41965df7b9009bb5f056c10c9397600270f7c3439a98a7b082c8b92be98d15a4", func := "lantern/lanternlaw17.BlockActs", spec := "blockActs", apart := false, narrowed := true }
def BlockActsUptoSaid : Prop := blockActsUptoRow.holds Try.pinned (OpenSpec.upto blockActsSpec)

end Rows
end Go.Proofs.Ytinhpiggakillaa
