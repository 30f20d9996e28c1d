/-
  DERIVED. GIVEN WITH THE SEED: THE CARDS: each row of YthlbenbkgkahoaaDoorRows.lean that lists a variable, with what it lists TIED to the program's text (the seventh form; the later family's looks); each row that meets fmt, with fmt's text TOLD by the authors' own Lean function (tested against real Go, not proved from fmt's source: count such statements apart). THE CARD IS WHAT COUNTS. Prove the row's statement (the work); the ties are given (YthlbenbkgkahoaaDoorTie.lean); close each card by the builder's one call (the guide's Derived/Test/ToyasCard.lean, 'card_holds'). Laid BY PROGRAM, IN A SANDBOX (cutbox-door.mjs). By AI agents, Wed Nov 11 2026. No macro, syntax, notation, axiom, sorry.
-/
import Derived.Test.YthlbenbkgkahoaaDoorRows
import GoSem.ClaimSeven
namespace Go.Proofs.YthlbenbkgkahoaaDoor
namespace Rows

/-- THE TIED CARD OF 'lanternlaw03.MacOf'. -/
def macOfCard : Claim7 := { stood := { row := macOfRow, standIns := [], harness := (true, "f5a07217fbfc4c63c7c7b6f58add6302f5763d77b9e0288748c10d72e218b7ce"), looks := false }, kinds := [], alts := [], laidByText := true, laidKinds := [.data, .data], laidTests := true, laidLooks := .later }
def MacOfCardSaid : Prop := Claim7.holds Tryd.pinned (.plain (OpenSpec.ofChange macOfSpec)) macOfCard

/-- THE TIED CARD OF 'lanternlaw03.MacSame'. -/
def macSameCard : Claim7 := { stood := { row := macSameRow, standIns := [], harness := (true, "f5a07217fbfc4c63c7c7b6f58add6302f5763d77b9e0288748c10d72e218b7ce"), looks := false }, kinds := [], alts := [], laidByText := true, laidKinds := [.data, .data], laidTests := true, laidLooks := .later }
def MacSameCardSaid : Prop := Claim7.holds Tryd.pinned (.plain (OpenSpec.ofChange macSameSpec)) macSameCard

/-- THE TIED CARD OF 'lanternlaw03.MacLong'. -/
def macLongCard : Claim7 := { stood := { row := macLongRow, standIns := [], harness := (true, "f5a07217fbfc4c63c7c7b6f58add6302f5763d77b9e0288748c10d72e218b7ce"), looks := false }, kinds := [], alts := [], laidByText := true, laidKinds := [.data, .data], laidTests := true, laidLooks := .later }
def MacLongCardSaid : Prop := Claim7.holds Tryd.pinned (.plain (OpenSpec.ofChange macLongSpec)) macLongCard

/-- THE TIED CARD OF 'lanternlaw03.MacStores'. -/
def macStoresCard : Claim7 := { stood := { row := macStoresRow, standIns := [], harness := (true, "f5a07217fbfc4c63c7c7b6f58add6302f5763d77b9e0288748c10d72e218b7ce"), looks := false }, kinds := [], alts := [], laidByText := true, laidKinds := [.data, .data], laidTests := true, laidLooks := .later }
def MacStoresCardSaid : Prop := Claim7.holds Tryd.pinned (.plain (OpenSpec.ofChange macStoresSpec)) macStoresCard

/-- THE TIED CARD OF 'lanternlaw03.MacDerives'. -/
def macDerivesCard : Claim7 := { stood := { row := macDerivesRow, standIns := [], harness := (true, "f5a07217fbfc4c63c7c7b6f58add6302f5763d77b9e0288748c10d72e218b7ce"), looks := false }, kinds := [], alts := [], laidByText := true, laidKinds := [.data, .data], laidTests := true, laidLooks := .later }
def MacDerivesCardSaid : Prop := Claim7.holds Tryd.pinned (.plain (OpenSpec.ofChange macDerivesSpec)) macDerivesCard

/-- THE SECOND FORM's CARD OF 'lanternlaw03.MacOf'. -/
def macOfUptoCard : Claim7 := { stood := { row := macOfUptoRow, standIns := [], harness := (true, "f5a07217fbfc4c63c7c7b6f58add6302f5763d77b9e0288748c10d72e218b7ce"), looks := false }, kinds := [], alts := [], laidByText := true, laidKinds := [.data, .data], laidTests := true, laidLooks := .later }
def MacOfUptoCardSaid : Prop := Claim7.holds Tryd.pinned (.plain (OpenSpec.upto macOfSpec)) macOfUptoCard

/-- THE SECOND FORM's CARD OF 'lanternlaw03.MacSame'. -/
def macSameUptoCard : Claim7 := { stood := { row := macSameUptoRow, standIns := [], harness := (true, "f5a07217fbfc4c63c7c7b6f58add6302f5763d77b9e0288748c10d72e218b7ce"), looks := false }, kinds := [], alts := [], laidByText := true, laidKinds := [.data, .data], laidTests := true, laidLooks := .later }
def MacSameUptoCardSaid : Prop := Claim7.holds Tryd.pinned (.plain (OpenSpec.upto macSameSpec)) macSameUptoCard

/-- THE SECOND FORM's CARD OF 'lanternlaw03.MacLong'. -/
def macLongUptoCard : Claim7 := { stood := { row := macLongUptoRow, standIns := [], harness := (true, "f5a07217fbfc4c63c7c7b6f58add6302f5763d77b9e0288748c10d72e218b7ce"), looks := false }, kinds := [], alts := [], laidByText := true, laidKinds := [.data, .data], laidTests := true, laidLooks := .later }
def MacLongUptoCardSaid : Prop := Claim7.holds Tryd.pinned (.plain (OpenSpec.upto macLongSpec)) macLongUptoCard

/-- THE SECOND FORM's CARD OF 'lanternlaw03.MacStores'. -/
def macStoresUptoCard : Claim7 := { stood := { row := macStoresUptoRow, standIns := [], harness := (true, "f5a07217fbfc4c63c7c7b6f58add6302f5763d77b9e0288748c10d72e218b7ce"), looks := false }, kinds := [], alts := [], laidByText := true, laidKinds := [.data, .data], laidTests := true, laidLooks := .later }
def MacStoresUptoCardSaid : Prop := Claim7.holds Tryd.pinned (.plain (OpenSpec.upto macStoresSpec)) macStoresUptoCard

/-- THE SECOND FORM's CARD OF 'lanternlaw03.MacDerives'. -/
def macDerivesUptoCard : Claim7 := { stood := { row := macDerivesUptoRow, standIns := [], harness := (true, "f5a07217fbfc4c63c7c7b6f58add6302f5763d77b9e0288748c10d72e218b7ce"), looks := false }, kinds := [], alts := [], laidByText := true, laidKinds := [.data, .data], laidTests := true, laidLooks := .later }
def MacDerivesUptoCardSaid : Prop := Claim7.holds Tryd.pinned (.plain (OpenSpec.upto macDerivesSpec)) macDerivesUptoCard
end Rows
end Go.Proofs.YthlbenbkgkahoaaDoor
