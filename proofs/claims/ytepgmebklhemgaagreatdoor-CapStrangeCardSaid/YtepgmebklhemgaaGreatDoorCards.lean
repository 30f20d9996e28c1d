/-
  DERIVED. GIVEN WITH THE SEED: THE CARDS: each row of YtepgmebklhemgaaGreatDoorRows.lean that lists a variable, with what it lists TIED to the program's text (the seventh form; the later family's looks); each row that meets fmt, with fmt's text TOLD by the authors' own Lean function (tested against real Go, not proved from fmt's source: count such statements apart). THE CARD IS WHAT COUNTS. Prove the row's statement (the work); the ties are given (YtepgmebklhemgaaGreatDoorTie.lean); close each card by the builder's one call (the guide's Derived/Test/ToyasCard.lean, 'card_holds'). Laid BY PROGRAM, IN A SANDBOX (cutbox-door.mjs). By AI agents, Wed Nov 11 2026. No macro, syntax, notation, axiom, sorry.
-/
import Derived.Test.YtepgmebklhemgaaGreatDoorRows
import GoSem.ClaimSeven
namespace Go.Proofs.YtepgmebklhemgaaGreatDoor
namespace Rows

/-- THE TIED CARD OF 'lanternlaw21.CapActs'. -/
def capActsCard : Claim7 := { stood := { row := capActsRow, standIns := [], harness := (true, "7efe053e09f0d2c1d2365218ba4cf34a49ef15073e923c1f6314ba4bded85a2e"), looks := true }, kinds := [], alts := [], laidByText := true, laidKinds := [.data, .pinned], laidTests := true, laidLooks := .later }
def CapActsCardSaid : Prop := Claim7.holds Tryz.pinned (.plain (OpenSpec.ofChange capActsSpec)) capActsCard

/-- THE TIED CARD OF 'lanternlaw21.CapStrange'. -/
def capStrangeCard : Claim7 := { stood := { row := capStrangeRow, standIns := [], harness := (true, "7efe053e09f0d2c1d2365218ba4cf34a49ef15073e923c1f6314ba4bded85a2e"), looks := true }, kinds := [], alts := [], laidByText := true, laidKinds := [.data, .pinned], laidTests := true, laidLooks := .later }
def CapStrangeCardSaid : Prop := Claim7.holds Tryz.pinned (.plain (OpenSpec.ofChange capStrangeSpec)) capStrangeCard

/-- THE TIED CARD OF 'lanternlaw21.CapOpens'. -/
def capOpensCard : Claim7 := { stood := { row := capOpensRow, standIns := [], harness := (true, "7efe053e09f0d2c1d2365218ba4cf34a49ef15073e923c1f6314ba4bded85a2e"), looks := true }, kinds := [], alts := [], laidByText := true, laidKinds := [.data, .pinned], laidTests := true, laidLooks := .later }
def CapOpensCardSaid : Prop := Claim7.holds Tryz.pinned (.plain (OpenSpec.ofChange capOpensSpec)) capOpensCard

/-- THE SECOND FORM's CARD OF 'lanternlaw21.CapActs'. -/
def capActsUptoCard : Claim7 := { stood := { row := capActsUptoRow, standIns := [], harness := (true, "7efe053e09f0d2c1d2365218ba4cf34a49ef15073e923c1f6314ba4bded85a2e"), looks := true }, kinds := [], alts := [], laidByText := true, laidKinds := [.data, .pinned], laidTests := true, laidLooks := .later }
def CapActsUptoCardSaid : Prop := Claim7.holds Tryz.pinned (.plain (OpenSpec.upto capActsSpec)) capActsUptoCard

/-- THE SECOND FORM's CARD OF 'lanternlaw21.CapStrange'. -/
def capStrangeUptoCard : Claim7 := { stood := { row := capStrangeUptoRow, standIns := [], harness := (true, "7efe053e09f0d2c1d2365218ba4cf34a49ef15073e923c1f6314ba4bded85a2e"), looks := true }, kinds := [], alts := [], laidByText := true, laidKinds := [.data, .pinned], laidTests := true, laidLooks := .later }
def CapStrangeUptoCardSaid : Prop := Claim7.holds Tryz.pinned (.plain (OpenSpec.upto capStrangeSpec)) capStrangeUptoCard

/-- THE SECOND FORM's CARD OF 'lanternlaw21.CapOpens'. -/
def capOpensUptoCard : Claim7 := { stood := { row := capOpensUptoRow, standIns := [], harness := (true, "7efe053e09f0d2c1d2365218ba4cf34a49ef15073e923c1f6314ba4bded85a2e"), looks := true }, kinds := [], alts := [], laidByText := true, laidKinds := [.data, .pinned], laidTests := true, laidLooks := .later }
def CapOpensUptoCardSaid : Prop := Claim7.holds Tryz.pinned (.plain (OpenSpec.upto capOpensSpec)) capOpensUptoCard
end Rows
end Go.Proofs.YtepgmebklhemgaaGreatDoor
