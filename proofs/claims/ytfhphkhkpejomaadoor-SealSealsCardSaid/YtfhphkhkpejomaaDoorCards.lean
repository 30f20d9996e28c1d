/-
  DERIVED. GIVEN WITH THE SEED: THE CARDS: each row of YtfhphkhkpejomaaDoorRows.lean that lists a variable, with what it lists TIED to the program's text (the seventh form; the later family's looks); each row that meets fmt, with fmt's text TOLD by the authors' own Lean function (tested against real Go, not proved from fmt's source: count such statements apart). THE CARD IS WHAT COUNTS. Prove the row's statement (the work); the ties are given (YtfhphkhkpejomaaDoorTie.lean); close each card by the builder's one call (the guide's Derived/Test/ToyasCard.lean, 'card_holds'). Laid BY PROGRAM, IN A SANDBOX (cutbox-door.mjs). By AI agents, Wed Nov 11 2026. No macro, syntax, notation, axiom, sorry.
-/
import Derived.Test.YtfhphkhkpejomaaDoorRows
import GoSem.ClaimSeven
namespace Go.Proofs.YtfhphkhkpejomaaDoor
namespace Rows

/-- THE TIED CARD OF 'lanternlaw04.SealOpens'. -/
def sealOpensCard : Claim7 := { stood := { row := sealOpensRow, standIns := [], harness := (true, "4abdd9f4d2d2e9a61510a9e14b613a9f22567b441dd45c79f612c08cc9601ff5"), looks := false }, kinds := [], alts := [], laidByText := true, laidKinds := [.data, .data], laidTests := true, laidLooks := .later }
def SealOpensCardSaid : Prop := Claim7.holds Tryd.pinned (.plain (OpenSpec.ofChange sealOpensSpec)) sealOpensCard

/-- THE TIED CARD OF 'lanternlaw04.SealTurns'. -/
def sealTurnsCard : Claim7 := { stood := { row := sealTurnsRow, standIns := [], harness := (true, "4abdd9f4d2d2e9a61510a9e14b613a9f22567b441dd45c79f612c08cc9601ff5"), looks := false }, kinds := [], alts := [], laidByText := true, laidKinds := [.data, .data], laidTests := true, laidLooks := .later }
def SealTurnsCardSaid : Prop := Claim7.holds Tryd.pinned (.plain (OpenSpec.ofChange sealTurnsSpec)) sealTurnsCard

/-- THE TIED CARD OF 'lanternlaw04.SealSeals'. -/
def sealSealsCard : Claim7 := { stood := { row := sealSealsRow, standIns := [], harness := (true, "4abdd9f4d2d2e9a61510a9e14b613a9f22567b441dd45c79f612c08cc9601ff5"), looks := false }, kinds := [], alts := [], laidByText := true, laidKinds := [.data, .data], laidTests := true, laidLooks := .later }
def SealSealsCardSaid : Prop := Claim7.holds Tryd.pinned (.plain (OpenSpec.ofChange sealSealsSpec)) sealSealsCard

/-- THE TIED CARD OF 'lanternlaw04.SealSizes'. -/
def sealSizesCard : Claim7 := { stood := { row := sealSizesRow, standIns := [], harness := (true, "4abdd9f4d2d2e9a61510a9e14b613a9f22567b441dd45c79f612c08cc9601ff5"), looks := false }, kinds := [], alts := [], laidByText := true, laidKinds := [.data, .data], laidTests := true, laidLooks := .later }
def SealSizesCardSaid : Prop := Claim7.holds Tryd.pinned (.plain (OpenSpec.ofChange sealSizesSpec)) sealSizesCard

/-- THE SECOND FORM's CARD OF 'lanternlaw04.SealOpens'. -/
def sealOpensUptoCard : Claim7 := { stood := { row := sealOpensUptoRow, standIns := [], harness := (true, "4abdd9f4d2d2e9a61510a9e14b613a9f22567b441dd45c79f612c08cc9601ff5"), looks := false }, kinds := [], alts := [], laidByText := true, laidKinds := [.data, .data], laidTests := true, laidLooks := .later }
def SealOpensUptoCardSaid : Prop := Claim7.holds Tryd.pinned (.plain (OpenSpec.upto sealOpensSpec)) sealOpensUptoCard

/-- THE SECOND FORM's CARD OF 'lanternlaw04.SealTurns'. -/
def sealTurnsUptoCard : Claim7 := { stood := { row := sealTurnsUptoRow, standIns := [], harness := (true, "4abdd9f4d2d2e9a61510a9e14b613a9f22567b441dd45c79f612c08cc9601ff5"), looks := false }, kinds := [], alts := [], laidByText := true, laidKinds := [.data, .data], laidTests := true, laidLooks := .later }
def SealTurnsUptoCardSaid : Prop := Claim7.holds Tryd.pinned (.plain (OpenSpec.upto sealTurnsSpec)) sealTurnsUptoCard

/-- THE SECOND FORM's CARD OF 'lanternlaw04.SealSeals'. -/
def sealSealsUptoCard : Claim7 := { stood := { row := sealSealsUptoRow, standIns := [], harness := (true, "4abdd9f4d2d2e9a61510a9e14b613a9f22567b441dd45c79f612c08cc9601ff5"), looks := false }, kinds := [], alts := [], laidByText := true, laidKinds := [.data, .data], laidTests := true, laidLooks := .later }
def SealSealsUptoCardSaid : Prop := Claim7.holds Tryd.pinned (.plain (OpenSpec.upto sealSealsSpec)) sealSealsUptoCard

/-- THE SECOND FORM's CARD OF 'lanternlaw04.SealSizes'. -/
def sealSizesUptoCard : Claim7 := { stood := { row := sealSizesUptoRow, standIns := [], harness := (true, "4abdd9f4d2d2e9a61510a9e14b613a9f22567b441dd45c79f612c08cc9601ff5"), looks := false }, kinds := [], alts := [], laidByText := true, laidKinds := [.data, .data], laidTests := true, laidLooks := .later }
def SealSizesUptoCardSaid : Prop := Claim7.holds Tryd.pinned (.plain (OpenSpec.upto sealSizesSpec)) sealSizesUptoCard
end Rows
end Go.Proofs.YtfhphkhkpejomaaDoor
