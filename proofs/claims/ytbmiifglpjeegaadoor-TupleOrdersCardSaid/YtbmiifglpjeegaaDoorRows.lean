/-
  NARROWER THAN 'FOR EVERY INPUT', by the rows' own cells (each row's printed sentence says how): TupleDecodes: laid · TupleCodes: laid · TupleAfter: laid · TupleOrders: laid.
  DERIVED. THE GIVEN ROWS OF THIS SEAT. 4 by the template 'for every input the law returns true; each argument reads behind the call as it read before'; 0 by the template 'total and deterministic' (their statements: YtbmiifglpjeegaaDoorTotals.lean).
  GIVEN WITH THE SEED: the statements are not yours to turn. If you find one false, say at which input.
  Laid BY PROGRAM, IN A SANDBOX (cutbox-rows.mjs): the forced cells as the released guide's own fill.sh prints them over the translation e7f2627ab61c6bb9… (all of the seat's roots in one cut). By AI agents, Wed Nov 11 2026. No macro, syntax, notation, axiom, sorry.
-/
import Derived.Test.YtbmiifglpjeegaaDoorChecked
import GoSem.PinnedTables
import GoSem.Claim
import GoSem.ClaimJoined
import GoSem.ClaimMapViews
import Derived.JoinedTies
import Derived.KernelRfl
namespace Go.Proofs.YtbmiifglpjeegaaDoor
/- THE CELL 'sum', in the pinned program and in every row, IS THE sha256 OF THE DUMP (.gsa) THAT YtbmiifglpjeegaaDoorProg.lean LOADS. Nothing in Lean hashes anything: it is a label: what it is worth is what the hold of that sum in a sandbox is worth. -/
noncomputable def Tryd.pinned : Pinned := { name := "ytbmiifglpjeegaadoor", sum := "e7f2627ab61c6bb9645f3cc44bef71f46b0ec8e935806c272905d21b2e048e9c", checked := Tryd.checked }
namespace Rows
def none {H : Type} : Left H := { results := [], args := [] }

/- WHAT THE LISTED PACKAGE-LEVEL VARIABLES READ AS WHEN THE CALL BEGINS. Each datum BY PROGRAM (the guide's laid-datum.mjs) off the statement by which the dump's own 'gosem.cut.vars' lays the variable. In a bare row this is a premise. The card (YtbmiifglpjeegaaDoorCards.lean) ties it to the program's text. -/
def laid_unicode_utf8_acceptRanges {H : Type} : DataW H := .agg [.agg [.lit (.int .u8 128), .lit (.int .u8 191)], .agg [.lit (.int .u8 160), .lit (.int .u8 191)], .agg [.lit (.int .u8 128), .lit (.int .u8 159)], .agg [.lit (.int .u8 144), .lit (.int .u8 191)], .agg [.lit (.int .u8 128), .lit (.int .u8 143)], .agg [.lit (.int .u8 0), .lit (.int .u8 0)], .agg [.lit (.int .u8 0), .lit (.int .u8 0)], .agg [.lit (.int .u8 0), .lit (.int .u8 0)], .agg [.lit (.int .u8 0), .lit (.int .u8 0)], .agg [.lit (.int .u8 0), .lit (.int .u8 0)], .agg [.lit (.int .u8 0), .lit (.int .u8 0)], .agg [.lit (.int .u8 0), .lit (.int .u8 0)], .agg [.lit (.int .u8 0), .lit (.int .u8 0)], .agg [.lit (.int .u8 0), .lit (.int .u8 0)], .agg [.lit (.int .u8 0), .lit (.int .u8 0)], .agg [.lit (.int .u8 0), .lit (.int .u8 0)]]
/-- One of Go's own tables, pinned by name: the form's constant. -/
def laid_unicode_utf8_first : DataW Unit := Go.Pinned.utf8First

/-- 'lanternlaw19.TupleDecodes': WHATEVER THE INPUT: true; the input reads as it did. -/
def tupleDecodesSpec : ChangeSpec := { name := "tupleDecodes", fn := fun _ => fun
  | [d] => { results := [.lit (.bool true)], args := [d] }
  | _ => none }
def tupleDecodesRow : OpenClaim := { program := "ytbmiifglpjeegaadoor", sum := "e7f2627ab61c6bb9645f3cc44bef71f46b0ec8e935806c272905d21b2e048e9c", func := "lantern/lanternlaw19.TupleDecodes", spec := "tupleDecodes", inPlace := ["internal/abi.NoEscape", "internal/bytealg.CountString", "internal/bytealg.IndexByteString", "internal/bytealg.IndexString", "internal/bytealg.MakeNoZero"], unfollowed := true, recurses := true, named := ["internal/bytealg.MaxLen", "unicode/utf8.first", "unicode/utf8.acceptRanges"], apart := false, laid := [("unicode/utf8.acceptRanges", laid_unicode_utf8_acceptRanges), ("unicode/utf8.first", laid_unicode_utf8_first)] }
def TupleDecodesSaid : Prop := tupleDecodesRow.holds Tryd.pinned (OpenSpec.ofChange tupleDecodesSpec)

/-- ITS FALSE NEIGHBOUR: 'it returns false'. Refute it at one input. -/
def tupleDecodesWrong : ChangeSpec := { name := "tupleDecodes", fn := fun _ => fun
  | [d] => { results := [.lit (.bool false)], args := [d] }
  | _ => none }
def TupleDecodesWrongFalsely : Prop := tupleDecodesRow.holds Tryd.pinned (OpenSpec.ofChange tupleDecodesWrong)

/-- 'lanternlaw19.TupleCodes': WHATEVER THE INPUT: true; the input reads as it did. -/
def tupleCodesSpec : ChangeSpec := { name := "tupleCodes", fn := fun _ => fun
  | [d] => { results := [.lit (.bool true)], args := [d] }
  | _ => none }
def tupleCodesRow : OpenClaim := { program := "ytbmiifglpjeegaadoor", sum := "e7f2627ab61c6bb9645f3cc44bef71f46b0ec8e935806c272905d21b2e048e9c", func := "lantern/lanternlaw19.TupleCodes", spec := "tupleCodes", inPlace := ["internal/abi.NoEscape", "internal/bytealg.CountString", "internal/bytealg.IndexByteString", "internal/bytealg.IndexString", "internal/bytealg.MakeNoZero"], unfollowed := true, recurses := true, named := ["internal/bytealg.MaxLen", "unicode/utf8.first", "unicode/utf8.acceptRanges"], apart := false, laid := [("unicode/utf8.acceptRanges", laid_unicode_utf8_acceptRanges), ("unicode/utf8.first", laid_unicode_utf8_first)] }
def TupleCodesSaid : Prop := tupleCodesRow.holds Tryd.pinned (OpenSpec.ofChange tupleCodesSpec)

/-- ITS FALSE NEIGHBOUR: 'it returns false'. Refute it at one input. -/
def tupleCodesWrong : ChangeSpec := { name := "tupleCodes", fn := fun _ => fun
  | [d] => { results := [.lit (.bool false)], args := [d] }
  | _ => none }
def TupleCodesWrongFalsely : Prop := tupleCodesRow.holds Tryd.pinned (OpenSpec.ofChange tupleCodesWrong)

/-- 'lanternlaw19.TupleAfter': WHATEVER THE INPUT: true; the input reads as it did. -/
def tupleAfterSpec : ChangeSpec := { name := "tupleAfter", fn := fun _ => fun
  | [d1, d2] => { results := [.lit (.bool true)], args := [d1, d2] }
  | _ => none }
def tupleAfterRow : OpenClaim := { program := "ytbmiifglpjeegaadoor", sum := "e7f2627ab61c6bb9645f3cc44bef71f46b0ec8e935806c272905d21b2e048e9c", func := "lantern/lanternlaw19.TupleAfter", spec := "tupleAfter", inPlace := ["internal/abi.NoEscape", "internal/bytealg.CountString", "internal/bytealg.IndexByteString", "internal/bytealg.IndexString", "internal/bytealg.MakeNoZero"], unfollowed := true, recurses := true, named := ["internal/bytealg.MaxLen", "unicode/utf8.first", "unicode/utf8.acceptRanges"], apart := false, laid := [("unicode/utf8.acceptRanges", laid_unicode_utf8_acceptRanges), ("unicode/utf8.first", laid_unicode_utf8_first)] }
def TupleAfterSaid : Prop := tupleAfterRow.holds Tryd.pinned (OpenSpec.ofChange tupleAfterSpec)

/-- ITS FALSE NEIGHBOUR: 'it returns false'. Refute it at one input. -/
def tupleAfterWrong : ChangeSpec := { name := "tupleAfter", fn := fun _ => fun
  | [d1, d2] => { results := [.lit (.bool false)], args := [d1, d2] }
  | _ => none }
def TupleAfterWrongFalsely : Prop := tupleAfterRow.holds Tryd.pinned (OpenSpec.ofChange tupleAfterWrong)

/-- 'lanternlaw19.TupleOrders': WHATEVER THE INPUT: true; the input reads as it did. -/
def tupleOrdersSpec : ChangeSpec := { name := "tupleOrders", fn := fun _ => fun
  | [d1, d2] => { results := [.lit (.bool true)], args := [d1, d2] }
  | _ => none }
def tupleOrdersRow : OpenClaim := { program := "ytbmiifglpjeegaadoor", sum := "e7f2627ab61c6bb9645f3cc44bef71f46b0ec8e935806c272905d21b2e048e9c", func := "lantern/lanternlaw19.TupleOrders", spec := "tupleOrders", inPlace := ["internal/abi.NoEscape", "internal/bytealg.CountString", "internal/bytealg.IndexByteString", "internal/bytealg.IndexString", "internal/bytealg.MakeNoZero", "internal/bytealg.abigen_runtime_cmpstring"], unfollowed := true, recurses := true, named := ["internal/bytealg.MaxLen", "unicode/utf8.first", "unicode/utf8.acceptRanges"], apart := false, laid := [("unicode/utf8.acceptRanges", laid_unicode_utf8_acceptRanges), ("unicode/utf8.first", laid_unicode_utf8_first)] }
def TupleOrdersSaid : Prop := tupleOrdersRow.holds Tryd.pinned (OpenSpec.ofChange tupleOrdersSpec)

/-- ITS FALSE NEIGHBOUR: 'it returns false'. Refute it at one input. -/
def tupleOrdersWrong : ChangeSpec := { name := "tupleOrders", fn := fun _ => fun
  | [d1, d2] => { results := [.lit (.bool false)], args := [d1, d2] }
  | _ => none }
def TupleOrdersWrongFalsely : Prop := tupleOrdersRow.holds Tryd.pinned (OpenSpec.ofChange tupleOrdersWrong)

/- THE SECOND FORM. 'bulk': how many values and letters a reading holds, each counted each time it is reached (what is shared counts as often as it is met; a slice's spare places count too). A statement '..UptoSaid' is the law's where the arguments, and the package variables that the reading takes, are together of bulk at most 1048576: NARROWER than '..Said'. Prove '..Said' where nothing that the law and all that it calls make is longer than what came in: it says more and counts as full. Else prove '..UptoSaid'. A law counts once. -/
mutual
def uptoBulk {H : Type} : DataW H → Nat
  | .lit (.string bytes) => bytes.length + 1
  | .lit _ => 1
  | .nil => 1
  | .ptr d => uptoBulk d + 1
  | .slice elems spare => uptoBulkAll elems + uptoBulkAll spare + 1
  | .agg parts => uptoBulkAll parts + 1
  | .iface _ d => uptoBulk d + 1
  | .map entries => uptoBulkEntries entries + 1
  | .held _ => 1
def uptoBulkAll {H : Type} : List (DataW H) → Nat
  | [] => 0
  | d :: r => uptoBulk d + uptoBulkAll r
def uptoBulkEntries {H : Type} : List (Lit × DataW H) → Nat
  | [] => 0
  | x :: r => uptoBulkEntry x + uptoBulkEntries r
def uptoBulkEntry {H : Type} : Lit × DataW H → Nat
  | (.string bytes, d) => bytes.length + uptoBulk d + 1
  | (_, d) => uptoBulk d + 1
 end
def uptoSmall : (H : Type) → List (DataW H) → Bool := fun _ ds => decide (uptoBulkAll ds ≤ 1048576)
def OpenSpec.upto (s : _root_.Go.ChangeSpec) : _root_.Go.OpenSpec := { _root_.Go.OpenSpec.ofChange s with cond := some uptoSmall }

/-- 'lanternlaw19.TupleDecodes', WHERE WHAT IT READS IS OF BULK AT MOST 1048576: true; the input reads as it did. -/
def tupleDecodesUptoRow : OpenClaim := { program := "ytbmiifglpjeegaadoor", sum := "e7f2627ab61c6bb9645f3cc44bef71f46b0ec8e935806c272905d21b2e048e9c", func := "lantern/lanternlaw19.TupleDecodes", spec := "tupleDecodes", inPlace := ["internal/abi.NoEscape", "internal/bytealg.CountString", "internal/bytealg.IndexByteString", "internal/bytealg.IndexString", "internal/bytealg.MakeNoZero"], unfollowed := true, recurses := true, named := ["internal/bytealg.MaxLen", "unicode/utf8.first", "unicode/utf8.acceptRanges"], apart := false, laid := [("unicode/utf8.acceptRanges", laid_unicode_utf8_acceptRanges), ("unicode/utf8.first", laid_unicode_utf8_first)], narrowed := true }
def TupleDecodesUptoSaid : Prop := tupleDecodesUptoRow.holds Tryd.pinned (OpenSpec.upto tupleDecodesSpec)

/-- 'lanternlaw19.TupleCodes', WHERE WHAT IT READS IS OF BULK AT MOST 1048576: true; the input reads as it did. -/
def tupleCodesUptoRow : OpenClaim := { program := "ytbmiifglpjeegaadoor", sum := "e7f2627ab61c6bb9645f3cc44bef71f46b0ec8e935806c272905d21b2e048e9c", func := "lantern/lanternlaw19.TupleCodes", spec := "tupleCodes", inPlace := ["internal/abi.NoEscape", "internal/bytealg.CountString", "internal/bytealg.IndexByteString", "internal/bytealg.IndexString", "internal/bytealg.MakeNoZero"], unfollowed := true, recurses := true, named := ["internal/bytealg.MaxLen", "unicode/utf8.first", "unicode/utf8.acceptRanges"], apart := false, laid := [("unicode/utf8.acceptRanges", laid_unicode_utf8_acceptRanges), ("unicode/utf8.first", laid_unicode_utf8_first)], narrowed := true }
def TupleCodesUptoSaid : Prop := tupleCodesUptoRow.holds Tryd.pinned (OpenSpec.upto tupleCodesSpec)

/-- 'lanternlaw19.TupleAfter', WHERE WHAT IT READS IS OF BULK AT MOST 1048576: true; the input reads as it did. -/
def tupleAfterUptoRow : OpenClaim := { program := "ytbmiifglpjeegaadoor", sum := "e7f2627ab61c6bb9645f3cc44bef71f46b0ec8e935806c272905d21b2e048e9c", func := "lantern/lanternlaw19.TupleAfter", spec := "tupleAfter", inPlace := ["internal/abi.NoEscape", "internal/bytealg.CountString", "internal/bytealg.IndexByteString", "internal/bytealg.IndexString", "internal/bytealg.MakeNoZero"], unfollowed := true, recurses := true, named := ["internal/bytealg.MaxLen", "unicode/utf8.first", "unicode/utf8.acceptRanges"], apart := false, laid := [("unicode/utf8.acceptRanges", laid_unicode_utf8_acceptRanges), ("unicode/utf8.first", laid_unicode_utf8_first)], narrowed := true }
def TupleAfterUptoSaid : Prop := tupleAfterUptoRow.holds Tryd.pinned (OpenSpec.upto tupleAfterSpec)

/-- 'lanternlaw19.TupleOrders', WHERE WHAT IT READS IS OF BULK AT MOST 1048576: true; the input reads as it did. -/
def tupleOrdersUptoRow : OpenClaim := { program := "ytbmiifglpjeegaadoor", sum := "e7f2627ab61c6bb9645f3cc44bef71f46b0ec8e935806c272905d21b2e048e9c", func := "lantern/lanternlaw19.TupleOrders", spec := "tupleOrders", inPlace := ["internal/abi.NoEscape", "internal/bytealg.CountString", "internal/bytealg.IndexByteString", "internal/bytealg.IndexString", "internal/bytealg.MakeNoZero", "internal/bytealg.abigen_runtime_cmpstring"], unfollowed := true, recurses := true, named := ["internal/bytealg.MaxLen", "unicode/utf8.first", "unicode/utf8.acceptRanges"], apart := false, laid := [("unicode/utf8.acceptRanges", laid_unicode_utf8_acceptRanges), ("unicode/utf8.first", laid_unicode_utf8_first)], narrowed := true }
def TupleOrdersUptoSaid : Prop := tupleOrdersUptoRow.holds Tryd.pinned (OpenSpec.upto tupleOrdersSpec)

end Rows
end Go.Proofs.YtbmiifglpjeegaaDoor
