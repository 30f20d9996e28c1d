/-
  DERIVED. GIVEN WITH THE SEED: THE CARDS: each row of YtbmiifglpjeegaaDoorRows.lean that lists a variable, with what it lists TIED to the program's text (the seventh form; the later family's looks); each row that meets fmt, with fmt's text TOLD by the authors' own Lean function (tested against real Go, not proved from fmt's source: count such statements apart). THE CARD IS WHAT COUNTS. Prove the row's statement (the work); the ties are given (YtbmiifglpjeegaaDoorTie.lean); close each card by the builder's one call (the guide's Derived/Test/ToyasCard.lean, 'card_holds'). Laid BY PROGRAM, IN A SANDBOX (cutbox-door.mjs). By AI agents, Wed Nov 11 2026. No macro, syntax, notation, axiom, sorry.
-/
import Derived.Test.YtbmiifglpjeegaaDoorRows
import GoSem.ClaimSeven
namespace Go.Proofs.YtbmiifglpjeegaaDoor
namespace Rows

/-- THE TIED CARD OF 'lanternlaw19.TupleDecodes'. -/
def tupleDecodesCard : Claim7 := { stood := { row := tupleDecodesRow, standIns := [], harness := (true, "c330972c3c8cc09e0185dbe7f38b73adda37d975b0cd193c09a3025b12a1b768"), looks := false }, kinds := [], alts := [], laidByText := true, laidKinds := [.data, .pinned], laidTests := true, laidLooks := .later }
def TupleDecodesCardSaid : Prop := Claim7.holds Tryd.pinned (.plain (OpenSpec.ofChange tupleDecodesSpec)) tupleDecodesCard

/-- THE TIED CARD OF 'lanternlaw19.TupleCodes'. -/
def tupleCodesCard : Claim7 := { stood := { row := tupleCodesRow, standIns := [], harness := (true, "c330972c3c8cc09e0185dbe7f38b73adda37d975b0cd193c09a3025b12a1b768"), looks := false }, kinds := [], alts := [], laidByText := true, laidKinds := [.data, .pinned], laidTests := true, laidLooks := .later }
def TupleCodesCardSaid : Prop := Claim7.holds Tryd.pinned (.plain (OpenSpec.ofChange tupleCodesSpec)) tupleCodesCard

/-- THE TIED CARD OF 'lanternlaw19.TupleAfter'. -/
def tupleAfterCard : Claim7 := { stood := { row := tupleAfterRow, standIns := [], harness := (true, "c330972c3c8cc09e0185dbe7f38b73adda37d975b0cd193c09a3025b12a1b768"), looks := false }, kinds := [], alts := [], laidByText := true, laidKinds := [.data, .pinned], laidTests := true, laidLooks := .later }
def TupleAfterCardSaid : Prop := Claim7.holds Tryd.pinned (.plain (OpenSpec.ofChange tupleAfterSpec)) tupleAfterCard

/-- THE TIED CARD OF 'lanternlaw19.TupleOrders'. -/
def tupleOrdersCard : Claim7 := { stood := { row := tupleOrdersRow, standIns := [], harness := (true, "c330972c3c8cc09e0185dbe7f38b73adda37d975b0cd193c09a3025b12a1b768"), looks := false }, kinds := [], alts := [], laidByText := true, laidKinds := [.data, .pinned], laidTests := true, laidLooks := .later }
def TupleOrdersCardSaid : Prop := Claim7.holds Tryd.pinned (.plain (OpenSpec.ofChange tupleOrdersSpec)) tupleOrdersCard

/-- THE SECOND FORM's CARD OF 'lanternlaw19.TupleDecodes'. -/
def tupleDecodesUptoCard : Claim7 := { stood := { row := tupleDecodesUptoRow, standIns := [], harness := (true, "c330972c3c8cc09e0185dbe7f38b73adda37d975b0cd193c09a3025b12a1b768"), looks := false }, kinds := [], alts := [], laidByText := true, laidKinds := [.data, .pinned], laidTests := true, laidLooks := .later }
def TupleDecodesUptoCardSaid : Prop := Claim7.holds Tryd.pinned (.plain (OpenSpec.upto tupleDecodesSpec)) tupleDecodesUptoCard

/-- THE SECOND FORM's CARD OF 'lanternlaw19.TupleCodes'. -/
def tupleCodesUptoCard : Claim7 := { stood := { row := tupleCodesUptoRow, standIns := [], harness := (true, "c330972c3c8cc09e0185dbe7f38b73adda37d975b0cd193c09a3025b12a1b768"), looks := false }, kinds := [], alts := [], laidByText := true, laidKinds := [.data, .pinned], laidTests := true, laidLooks := .later }
def TupleCodesUptoCardSaid : Prop := Claim7.holds Tryd.pinned (.plain (OpenSpec.upto tupleCodesSpec)) tupleCodesUptoCard

/-- THE SECOND FORM's CARD OF 'lanternlaw19.TupleAfter'. -/
def tupleAfterUptoCard : Claim7 := { stood := { row := tupleAfterUptoRow, standIns := [], harness := (true, "c330972c3c8cc09e0185dbe7f38b73adda37d975b0cd193c09a3025b12a1b768"), looks := false }, kinds := [], alts := [], laidByText := true, laidKinds := [.data, .pinned], laidTests := true, laidLooks := .later }
def TupleAfterUptoCardSaid : Prop := Claim7.holds Tryd.pinned (.plain (OpenSpec.upto tupleAfterSpec)) tupleAfterUptoCard

/-- THE SECOND FORM's CARD OF 'lanternlaw19.TupleOrders'. -/
def tupleOrdersUptoCard : Claim7 := { stood := { row := tupleOrdersUptoRow, standIns := [], harness := (true, "c330972c3c8cc09e0185dbe7f38b73adda37d975b0cd193c09a3025b12a1b768"), looks := false }, kinds := [], alts := [], laidByText := true, laidKinds := [.data, .pinned], laidTests := true, laidLooks := .later }
def TupleOrdersUptoCardSaid : Prop := Claim7.holds Tryd.pinned (.plain (OpenSpec.upto tupleOrdersSpec)) tupleOrdersUptoCard
end Rows
end Go.Proofs.YtbmiifglpjeegaaDoor
