/-
  NARROWER THAN 'FOR EVERY INPUT', by the rows' own cells (each row's printed sentence says how): ShaOf: laid · ShaRoots: laid · ShaPieces: laid · ShaNobody: laid · ShaHex: laid · ShaUnhex: laid.
  DERIVED. THE GIVEN ROWS OF THIS SEAT. 6 by the template 'for every input the law returns true; each argument reads behind the call as it read before'; 0 by the template 'total and deterministic' (their statements: YtcegmakkfhfalaaDoorTotals.lean).
  GIVEN WITH THE SEED: the statements are not yours to turn. If you find one false, say at which input.
  Laid BY PROGRAM, IN A SANDBOX (cutbox-rows.mjs): the forced cells as the released guide's own fill.sh prints them over the translation 8fa1a4c3df1e0907… (all of the seat's roots in one cut). By AI agents, Wed Nov 11 2026. No macro, syntax, notation, axiom, sorry.
-/
import Derived.Test.YtcegmakkfhfalaaDoorChecked
import GoSem.Claim
import GoSem.ClaimJoined
import GoSem.ClaimMapViews
import Derived.JoinedTies
import Derived.KernelRfl
namespace Go.Proofs.YtcegmakkfhfalaaDoor
/- THE CELL 'sum', in the pinned program and in every row, IS THE sha256 OF THE DUMP (.gsa) THAT YtcegmakkfhfalaaDoorProg.lean LOADS. Nothing in Lean hashes anything: it is a label: what it is worth is what the hold of that sum in a sandbox is worth. -/
noncomputable def Tryd.pinned : Pinned := { name := "ytcegmakkfhfalaadoor", sum := "8fa1a4c3df1e0907af965f9d985cc2b0f55a7f4f9a3727343a92f342c4e48edf", checked := Tryd.checked }
namespace Rows
def none {H : Type} : Left H := { results := [], args := [] }

/- WHAT THE LISTED PACKAGE-LEVEL VARIABLES READ AS WHEN THE CALL BEGINS. Each datum BY PROGRAM (the guide's laid-datum.mjs) off the statement by which the dump's own 'gosem.cut.vars' lays the variable. In a bare row this is a premise. The card (YtcegmakkfhfalaaDoorCards.lean) ties it to the program's text. -/
def laid_lantern_sha_first {H : Type} : DataW H := .agg [.lit (.int .u32 1779033703), .lit (.int .u32 3144134277), .lit (.int .u32 1013904242), .lit (.int .u32 2773480762), .lit (.int .u32 1359893119), .lit (.int .u32 2600822924), .lit (.int .u32 528734635), .lit (.int .u32 1541459225)]
def laid_lantern_sha_known {H : Type} : DataW H := .agg [.lit (.int .u32 1116352408), .lit (.int .u32 1899447441), .lit (.int .u32 3049323471), .lit (.int .u32 3921009573), .lit (.int .u32 961987163), .lit (.int .u32 1508970993), .lit (.int .u32 2453635748), .lit (.int .u32 2870763221), .lit (.int .u32 3624381080), .lit (.int .u32 310598401), .lit (.int .u32 607225278), .lit (.int .u32 1426881987), .lit (.int .u32 1925078388), .lit (.int .u32 2162078206), .lit (.int .u32 2614888103), .lit (.int .u32 3248222580), .lit (.int .u32 3835390401), .lit (.int .u32 4022224774), .lit (.int .u32 264347078), .lit (.int .u32 604807628), .lit (.int .u32 770255983), .lit (.int .u32 1249150122), .lit (.int .u32 1555081692), .lit (.int .u32 1996064986), .lit (.int .u32 2554220882), .lit (.int .u32 2821834349), .lit (.int .u32 2952996808), .lit (.int .u32 3210313671), .lit (.int .u32 3336571891), .lit (.int .u32 3584528711), .lit (.int .u32 113926993), .lit (.int .u32 338241895), .lit (.int .u32 666307205), .lit (.int .u32 773529912), .lit (.int .u32 1294757372), .lit (.int .u32 1396182291), .lit (.int .u32 1695183700), .lit (.int .u32 1986661051), .lit (.int .u32 2177026350), .lit (.int .u32 2456956037), .lit (.int .u32 2730485921), .lit (.int .u32 2820302411), .lit (.int .u32 3259730800), .lit (.int .u32 3345764771), .lit (.int .u32 3516065817), .lit (.int .u32 3600352804), .lit (.int .u32 4094571909), .lit (.int .u32 275423344), .lit (.int .u32 430227734), .lit (.int .u32 506948616), .lit (.int .u32 659060556), .lit (.int .u32 883997877), .lit (.int .u32 958139571), .lit (.int .u32 1322822218), .lit (.int .u32 1537002063), .lit (.int .u32 1747873779), .lit (.int .u32 1955562222), .lit (.int .u32 2024104815), .lit (.int .u32 2227730452), .lit (.int .u32 2361852424), .lit (.int .u32 2428436474), .lit (.int .u32 2756734187), .lit (.int .u32 3204031479), .lit (.int .u32 3329325298)]

/-- 'lanternlaw02.ShaOf': WHATEVER THE INPUT: true; the input reads as it did. -/
def shaOfSpec : ChangeSpec := { name := "shaOf", fn := fun _ => fun
  | [d] => { results := [.lit (.bool true)], args := [d] }
  | _ => none }
def shaOfRow : OpenClaim := { program := "ytcegmakkfhfalaadoor", sum := "8fa1a4c3df1e0907af965f9d985cc2b0f55a7f4f9a3727343a92f342c4e48edf", func := "lantern/lanternlaw02.ShaOf", spec := "shaOf", recurses := true, named := ["lantern/sha.first", "lantern/sha.known"], apart := false, laid := [("lantern/sha.first", laid_lantern_sha_first), ("lantern/sha.known", laid_lantern_sha_known)] }
def ShaOfSaid : Prop := shaOfRow.holds Tryd.pinned (OpenSpec.ofChange shaOfSpec)

/-- ITS FALSE NEIGHBOUR: 'it returns false'. Refute it at one input. -/
def shaOfWrong : ChangeSpec := { name := "shaOf", fn := fun _ => fun
  | [d] => { results := [.lit (.bool false)], args := [d] }
  | _ => none }
def ShaOfWrongFalsely : Prop := shaOfRow.holds Tryd.pinned (OpenSpec.ofChange shaOfWrong)

/-- 'lanternlaw02.ShaRoots': WHATEVER THE INPUT: true; the input reads as it did. -/
def shaRootsSpec : ChangeSpec := { name := "shaRoots", fn := fun _ => fun
  | [d] => { results := [.lit (.bool true)], args := [d] }
  | _ => none }
def shaRootsRow : OpenClaim := { program := "ytcegmakkfhfalaadoor", sum := "8fa1a4c3df1e0907af965f9d985cc2b0f55a7f4f9a3727343a92f342c4e48edf", func := "lantern/lanternlaw02.ShaRoots", spec := "shaRoots", recurses := true, named := ["lantern/sha.first", "lantern/sha.known"], apart := false, laid := [("lantern/sha.first", laid_lantern_sha_first), ("lantern/sha.known", laid_lantern_sha_known)] }
def ShaRootsSaid : Prop := shaRootsRow.holds Tryd.pinned (OpenSpec.ofChange shaRootsSpec)

/-- ITS FALSE NEIGHBOUR: 'it returns false'. Refute it at one input. -/
def shaRootsWrong : ChangeSpec := { name := "shaRoots", fn := fun _ => fun
  | [d] => { results := [.lit (.bool false)], args := [d] }
  | _ => none }
def ShaRootsWrongFalsely : Prop := shaRootsRow.holds Tryd.pinned (OpenSpec.ofChange shaRootsWrong)

/-- 'lanternlaw02.ShaPieces': WHATEVER THE INPUT: true; the input reads as it did. -/
def shaPiecesSpec : ChangeSpec := { name := "shaPieces", fn := fun _ => fun
  | [d] => { results := [.lit (.bool true)], args := [d] }
  | _ => none }
def shaPiecesRow : OpenClaim := { program := "ytcegmakkfhfalaadoor", sum := "8fa1a4c3df1e0907af965f9d985cc2b0f55a7f4f9a3727343a92f342c4e48edf", func := "lantern/lanternlaw02.ShaPieces", spec := "shaPieces", recurses := true, named := ["lantern/sha.first", "lantern/sha.known"], apart := false, laid := [("lantern/sha.first", laid_lantern_sha_first), ("lantern/sha.known", laid_lantern_sha_known)] }
def ShaPiecesSaid : Prop := shaPiecesRow.holds Tryd.pinned (OpenSpec.ofChange shaPiecesSpec)

/-- ITS FALSE NEIGHBOUR: 'it returns false'. Refute it at one input. -/
def shaPiecesWrong : ChangeSpec := { name := "shaPieces", fn := fun _ => fun
  | [d] => { results := [.lit (.bool false)], args := [d] }
  | _ => none }
def ShaPiecesWrongFalsely : Prop := shaPiecesRow.holds Tryd.pinned (OpenSpec.ofChange shaPiecesWrong)

/-- 'lanternlaw02.ShaNobody': WHATEVER THE INPUT: true; the input reads as it did. -/
def shaNobodySpec : ChangeSpec := { name := "shaNobody", fn := fun _ => fun
  | [d] => { results := [.lit (.bool true)], args := [d] }
  | _ => none }
def shaNobodyRow : OpenClaim := { program := "ytcegmakkfhfalaadoor", sum := "8fa1a4c3df1e0907af965f9d985cc2b0f55a7f4f9a3727343a92f342c4e48edf", func := "lantern/lanternlaw02.ShaNobody", spec := "shaNobody", recurses := true, named := ["lantern/sha.first", "lantern/sha.known"], apart := false, laid := [("lantern/sha.first", laid_lantern_sha_first), ("lantern/sha.known", laid_lantern_sha_known)] }
def ShaNobodySaid : Prop := shaNobodyRow.holds Tryd.pinned (OpenSpec.ofChange shaNobodySpec)

/-- ITS FALSE NEIGHBOUR: 'it returns false'. Refute it at one input. -/
def shaNobodyWrong : ChangeSpec := { name := "shaNobody", fn := fun _ => fun
  | [d] => { results := [.lit (.bool false)], args := [d] }
  | _ => none }
def ShaNobodyWrongFalsely : Prop := shaNobodyRow.holds Tryd.pinned (OpenSpec.ofChange shaNobodyWrong)

/-- 'lanternlaw02.ShaHex': WHATEVER THE INPUT: true; the input reads as it did. -/
def shaHexSpec : ChangeSpec := { name := "shaHex", fn := fun _ => fun
  | [d] => { results := [.lit (.bool true)], args := [d] }
  | _ => none }
def shaHexRow : OpenClaim := { program := "ytcegmakkfhfalaadoor", sum := "8fa1a4c3df1e0907af965f9d985cc2b0f55a7f4f9a3727343a92f342c4e48edf", func := "lantern/lanternlaw02.ShaHex", spec := "shaHex", inPlace := ["internal/bytealg.IndexByteString"], recurses := true, named := ["lantern/sha.first", "lantern/sha.known"], apart := false, laid := [("lantern/sha.first", laid_lantern_sha_first), ("lantern/sha.known", laid_lantern_sha_known)] }
def ShaHexSaid : Prop := shaHexRow.holds Tryd.pinned (OpenSpec.ofChange shaHexSpec)

/-- ITS FALSE NEIGHBOUR: 'it returns false'. Refute it at one input. -/
def shaHexWrong : ChangeSpec := { name := "shaHex", fn := fun _ => fun
  | [d] => { results := [.lit (.bool false)], args := [d] }
  | _ => none }
def ShaHexWrongFalsely : Prop := shaHexRow.holds Tryd.pinned (OpenSpec.ofChange shaHexWrong)

/-- 'lanternlaw02.ShaUnhex': WHATEVER THE INPUT: true; the input reads as it did. -/
def shaUnhexSpec : ChangeSpec := { name := "shaUnhex", fn := fun _ => fun
  | [d] => { results := [.lit (.bool true)], args := [d] }
  | _ => none }
def shaUnhexRow : OpenClaim := { program := "ytcegmakkfhfalaadoor", sum := "8fa1a4c3df1e0907af965f9d985cc2b0f55a7f4f9a3727343a92f342c4e48edf", func := "lantern/lanternlaw02.ShaUnhex", spec := "shaUnhex", inPlace := ["internal/bytealg.IndexByteString"], recurses := true, named := ["lantern/sha.first", "lantern/sha.known"], apart := false, laid := [("lantern/sha.first", laid_lantern_sha_first), ("lantern/sha.known", laid_lantern_sha_known)] }
def ShaUnhexSaid : Prop := shaUnhexRow.holds Tryd.pinned (OpenSpec.ofChange shaUnhexSpec)

/-- ITS FALSE NEIGHBOUR: 'it returns false'. Refute it at one input. -/
def shaUnhexWrong : ChangeSpec := { name := "shaUnhex", fn := fun _ => fun
  | [d] => { results := [.lit (.bool false)], args := [d] }
  | _ => none }
def ShaUnhexWrongFalsely : Prop := shaUnhexRow.holds Tryd.pinned (OpenSpec.ofChange shaUnhexWrong)

/- THE SECOND FORM. 'bulk': how many values and letters a reading holds, each counted each time it is reached (what is shared counts as often as it is met; a slice's spare places count too). A statement '..UptoSaid' is the law's where the arguments, and the package variables that the reading takes, are together of bulk at most 1048576: NARROWER than '..Said'. Prove '..Said' where nothing that the law and all that it calls make is longer than what came in: it says more and counts as full. Else prove '..UptoSaid'. A law counts once. -/
mutual
def uptoBulk {H : Type} : DataW H → Nat
  | .lit (.string bytes) => bytes.length + 1
  | .lit _ => 1
  | .nil => 1
  | .ptr d => uptoBulk d + 1
  | .slice elems spare => uptoBulkAll elems + uptoBulkAll spare + 1
  | .agg parts => uptoBulkAll parts + 1
  | .iface _ d => uptoBulk d + 1
  | .map entries => uptoBulkEntries entries + 1
  | .held _ => 1
def uptoBulkAll {H : Type} : List (DataW H) → Nat
  | [] => 0
  | d :: r => uptoBulk d + uptoBulkAll r
def uptoBulkEntries {H : Type} : List (Lit × DataW H) → Nat
  | [] => 0
  | x :: r => uptoBulkEntry x + uptoBulkEntries r
def uptoBulkEntry {H : Type} : Lit × DataW H → Nat
  | (.string bytes, d) => bytes.length + uptoBulk d + 1
  | (_, d) => uptoBulk d + 1
 end
def uptoSmall : (H : Type) → List (DataW H) → Bool := fun _ ds => decide (uptoBulkAll ds ≤ 1048576)
def OpenSpec.upto (s : _root_.Go.ChangeSpec) : _root_.Go.OpenSpec := { _root_.Go.OpenSpec.ofChange s with cond := some uptoSmall }

/-- 'lanternlaw02.ShaOf', WHERE WHAT IT READS IS OF BULK AT MOST 1048576: true; the input reads as it did. -/
def shaOfUptoRow : OpenClaim := { program := "ytcegmakkfhfalaadoor", sum := "8fa1a4c3df1e0907af965f9d985cc2b0f55a7f4f9a3727343a92f342c4e48edf", func := "lantern/lanternlaw02.ShaOf", spec := "shaOf", recurses := true, named := ["lantern/sha.first", "lantern/sha.known"], apart := false, laid := [("lantern/sha.first", laid_lantern_sha_first), ("lantern/sha.known", laid_lantern_sha_known)], narrowed := true }
def ShaOfUptoSaid : Prop := shaOfUptoRow.holds Tryd.pinned (OpenSpec.upto shaOfSpec)

/-- 'lanternlaw02.ShaRoots', WHERE WHAT IT READS IS OF BULK AT MOST 1048576: true; the input reads as it did. -/
def shaRootsUptoRow : OpenClaim := { program := "ytcegmakkfhfalaadoor", sum := "8fa1a4c3df1e0907af965f9d985cc2b0f55a7f4f9a3727343a92f342c4e48edf", func := "lantern/lanternlaw02.ShaRoots", spec := "shaRoots", recurses := true, named := ["lantern/sha.first", "lantern/sha.known"], apart := false, laid := [("lantern/sha.first", laid_lantern_sha_first), ("lantern/sha.known", laid_lantern_sha_known)], narrowed := true }
def ShaRootsUptoSaid : Prop := shaRootsUptoRow.holds Tryd.pinned (OpenSpec.upto shaRootsSpec)

/-- 'lanternlaw02.ShaPieces', WHERE WHAT IT READS IS OF BULK AT MOST 1048576: true; the input reads as it did. -/
def shaPiecesUptoRow : OpenClaim := { program := "ytcegmakkfhfalaadoor", sum := "8fa1a4c3df1e0907af965f9d985cc2b0f55a7f4f9a3727343a92f342c4e48edf", func := "lantern/lanternlaw02.ShaPieces", spec := "shaPieces", recurses := true, named := ["lantern/sha.first", "lantern/sha.known"], apart := false, laid := [("lantern/sha.first", laid_lantern_sha_first), ("lantern/sha.known", laid_lantern_sha_known)], narrowed := true }
def ShaPiecesUptoSaid : Prop := shaPiecesUptoRow.holds Tryd.pinned (OpenSpec.upto shaPiecesSpec)

/-- 'lanternlaw02.ShaNobody', WHERE WHAT IT READS IS OF BULK AT MOST 1048576: true; the input reads as it did. -/
def shaNobodyUptoRow : OpenClaim := { program := "ytcegmakkfhfalaadoor", sum := "8fa1a4c3df1e0907af965f9d985cc2b0f55a7f4f9a3727343a92f342c4e48edf", func := "lantern/lanternlaw02.ShaNobody", spec := "shaNobody", recurses := true, named := ["lantern/sha.first", "lantern/sha.known"], apart := false, laid := [("lantern/sha.first", laid_lantern_sha_first), ("lantern/sha.known", laid_lantern_sha_known)], narrowed := true }
def ShaNobodyUptoSaid : Prop := shaNobodyUptoRow.holds Tryd.pinned (OpenSpec.upto shaNobodySpec)

/-- 'lanternlaw02.ShaHex', WHERE WHAT IT READS IS OF BULK AT MOST 1048576: true; the input reads as it did. -/
def shaHexUptoRow : OpenClaim := { program := "ytcegmakkfhfalaadoor", sum := "8fa1a4c3df1e0907af965f9d985cc2b0f55a7f4f9a3727343a92f342c4e48edf", func := "lantern/lanternlaw02.ShaHex", spec := "shaHex", inPlace := ["internal/bytealg.IndexByteString"], recurses := true, named := ["lantern/sha.first", "lantern/sha.known"], apart := false, laid := [("lantern/sha.first", laid_lantern_sha_first), ("lantern/sha.known", laid_lantern_sha_known)], narrowed := true }
def ShaHexUptoSaid : Prop := shaHexUptoRow.holds Tryd.pinned (OpenSpec.upto shaHexSpec)

/-- 'lanternlaw02.ShaUnhex', WHERE WHAT IT READS IS OF BULK AT MOST 1048576: true; the input reads as it did. -/
def shaUnhexUptoRow : OpenClaim := { program := "ytcegmakkfhfalaadoor", sum := "8fa1a4c3df1e0907af965f9d985cc2b0f55a7f4f9a3727343a92f342c4e48edf", func := "lantern/lanternlaw02.ShaUnhex", spec := "shaUnhex", inPlace := ["internal/bytealg.IndexByteString"], recurses := true, named := ["lantern/sha.first", "lantern/sha.known"], apart := false, laid := [("lantern/sha.first", laid_lantern_sha_first), ("lantern/sha.known", laid_lantern_sha_known)], narrowed := true }
def ShaUnhexUptoSaid : Prop := shaUnhexUptoRow.holds Tryd.pinned (OpenSpec.upto shaUnhexSpec)

end Rows
end Go.Proofs.YtcegmakkfhfalaaDoor
