/-
  DERIVED. GIVEN WITH THE SEED: THE CARDS: each row of YtcdljlaoedaliaaDoorRows.lean that lists a variable, with what it lists TIED to the program's text (the seventh form; the later family's looks); each row that meets fmt, with fmt's text TOLD by the authors' own Lean function (tested against real Go, not proved from fmt's source: count such statements apart). THE CARD IS WHAT COUNTS. Prove the row's statement (the work); the ties are given (YtcdljlaoedaliaaDoorTie.lean); close each card by the builder's one call (the guide's Derived/Test/ToyasCard.lean, 'card_holds'). Laid BY PROGRAM, IN A SANDBOX (cutbox-door.mjs). By AI agents, Wed Nov 11 2026. No macro, syntax, notation, axiom, sorry.
-/
import Derived.Test.YtcdljlaoedaliaaDoorRows
import GoSem.ClaimSeven
namespace Go.Proofs.YtcdljlaoedaliaaDoor
namespace Rows

/-- THE TIED CARD OF 'lanternlaw22.VaultTurns'. -/
def vaultTurnsCard : Claim7 := { stood := { row := vaultTurnsRow, standIns := [], harness := (true, "c2f0b9896266f0a4a90ad3f642078c4890a41efddc30944fc9a287fac445c951"), looks := false }, kinds := [], alts := [], laidByText := true, laidKinds := [.data, .data], laidTests := true, laidLooks := .later }
def VaultTurnsCardSaid : Prop := Claim7.holds Tryd.pinned (.plain (OpenSpec.ofChange vaultTurnsSpec)) vaultTurnsCard

/-- THE TIED CARD OF 'lanternlaw22.VaultGone'. -/
def vaultGoneCard : Claim7 := { stood := { row := vaultGoneRow, standIns := [], harness := (true, "c2f0b9896266f0a4a90ad3f642078c4890a41efddc30944fc9a287fac445c951"), looks := false }, kinds := [], alts := [], laidByText := true, laidKinds := [.data, .data], laidTests := true, laidLooks := .later }
def VaultGoneCardSaid : Prop := Claim7.holds Tryd.pinned (.plain (OpenSpec.ofChange vaultGoneSpec)) vaultGoneCard

/-- THE TIED CARD OF 'lanternlaw22.VaultWho'. -/
def vaultWhoCard : Claim7 := { stood := { row := vaultWhoRow, standIns := [], harness := (true, "c2f0b9896266f0a4a90ad3f642078c4890a41efddc30944fc9a287fac445c951"), looks := false }, kinds := [], alts := [], laidByText := true, laidKinds := [.data, .data], laidTests := true, laidLooks := .later }
def VaultWhoCardSaid : Prop := Claim7.holds Tryd.pinned (.plain (OpenSpec.ofChange vaultWhoSpec)) vaultWhoCard

/-- THE TIED CARD OF 'lanternlaw22.VaultUnlocks'. -/
def vaultUnlocksCard : Claim7 := { stood := { row := vaultUnlocksRow, standIns := [], harness := (true, "c2f0b9896266f0a4a90ad3f642078c4890a41efddc30944fc9a287fac445c951"), looks := false }, kinds := [], alts := [], laidByText := true, laidKinds := [.data, .data, .data, .data, .data], laidTests := true, laidLooks := .later }
def VaultUnlocksCardSaid : Prop := Claim7.holds Tryd.pinned (.plain (OpenSpec.ofChange vaultUnlocksSpec)) vaultUnlocksCard

/-- THE TIED CARD OF 'lanternlaw22.VaultLocks'. -/
def vaultLocksCard : Claim7 := { stood := { row := vaultLocksRow, standIns := [], harness := (true, "c2f0b9896266f0a4a90ad3f642078c4890a41efddc30944fc9a287fac445c951"), looks := false }, kinds := [], alts := [], laidByText := true, laidKinds := [.data, .data, .data, .data, .data], laidTests := true, laidLooks := .later }
def VaultLocksCardSaid : Prop := Claim7.holds Tryd.pinned (.plain (OpenSpec.ofChange vaultLocksSpec)) vaultLocksCard

/-- THE SECOND FORM's CARD OF 'lanternlaw22.VaultTurns'. -/
def vaultTurnsUptoCard : Claim7 := { stood := { row := vaultTurnsUptoRow, standIns := [], harness := (true, "c2f0b9896266f0a4a90ad3f642078c4890a41efddc30944fc9a287fac445c951"), looks := false }, kinds := [], alts := [], laidByText := true, laidKinds := [.data, .data], laidTests := true, laidLooks := .later }
def VaultTurnsUptoCardSaid : Prop := Claim7.holds Tryd.pinned (.plain (OpenSpec.upto vaultTurnsSpec)) vaultTurnsUptoCard

/-- THE SECOND FORM's CARD OF 'lanternlaw22.VaultGone'. -/
def vaultGoneUptoCard : Claim7 := { stood := { row := vaultGoneUptoRow, standIns := [], harness := (true, "c2f0b9896266f0a4a90ad3f642078c4890a41efddc30944fc9a287fac445c951"), looks := false }, kinds := [], alts := [], laidByText := true, laidKinds := [.data, .data], laidTests := true, laidLooks := .later }
def VaultGoneUptoCardSaid : Prop := Claim7.holds Tryd.pinned (.plain (OpenSpec.upto vaultGoneSpec)) vaultGoneUptoCard

/-- THE SECOND FORM's CARD OF 'lanternlaw22.VaultWho'. -/
def vaultWhoUptoCard : Claim7 := { stood := { row := vaultWhoUptoRow, standIns := [], harness := (true, "c2f0b9896266f0a4a90ad3f642078c4890a41efddc30944fc9a287fac445c951"), looks := false }, kinds := [], alts := [], laidByText := true, laidKinds := [.data, .data], laidTests := true, laidLooks := .later }
def VaultWhoUptoCardSaid : Prop := Claim7.holds Tryd.pinned (.plain (OpenSpec.upto vaultWhoSpec)) vaultWhoUptoCard

/-- THE SECOND FORM's CARD OF 'lanternlaw22.VaultUnlocks'. -/
def vaultUnlocksUptoCard : Claim7 := { stood := { row := vaultUnlocksUptoRow, standIns := [], harness := (true, "c2f0b9896266f0a4a90ad3f642078c4890a41efddc30944fc9a287fac445c951"), looks := false }, kinds := [], alts := [], laidByText := true, laidKinds := [.data, .data, .data, .data, .data], laidTests := true, laidLooks := .later }
def VaultUnlocksUptoCardSaid : Prop := Claim7.holds Tryd.pinned (.plain (OpenSpec.upto vaultUnlocksSpec)) vaultUnlocksUptoCard

/-- THE SECOND FORM's CARD OF 'lanternlaw22.VaultLocks'. -/
def vaultLocksUptoCard : Claim7 := { stood := { row := vaultLocksUptoRow, standIns := [], harness := (true, "c2f0b9896266f0a4a90ad3f642078c4890a41efddc30944fc9a287fac445c951"), looks := false }, kinds := [], alts := [], laidByText := true, laidKinds := [.data, .data, .data, .data, .data], laidTests := true, laidLooks := .later }
def VaultLocksUptoCardSaid : Prop := Claim7.holds Tryd.pinned (.plain (OpenSpec.upto vaultLocksSpec)) vaultLocksUptoCard
end Rows
end Go.Proofs.YtcdljlaoedaliaaDoor
