/-
  No cell of these rows narrows 'for every input' (looked for: loops, veiled, ifaces, maps, wideKeys, modest, calm, conditions, laid).
  DERIVED. THE GIVEN ROWS OF THIS SEAT. 4 by the template 'for every input the law returns true; each argument reads behind the call as it read before'; 0 by the template 'total and deterministic' (their statements: YtgnlkcdpklgikaaTotals.lean).
  GIVEN WITH THE SEED: the statements are not yours to turn. If you find one false, say at which input.
  Laid BY PROGRAM, IN A SANDBOX (cutbox-rows.mjs): the forced cells as the released guide's own fill.sh prints them over the translation 0151feafe4239352… (all of the seat's roots in one cut). By AI agents, Wed Nov 11 2026. No macro, syntax, notation, axiom, sorry.
-/
import Derived.Test.YtgnlkcdpklgikaaChecked
import GoSem.Claim
import GoSem.ClaimJoined
import GoSem.ClaimMapViews
import Derived.JoinedTies
import Derived.KernelRfl
namespace Go.Proofs.Ytgnlkcdpklgikaa
/- THE CELL 'sum', in the pinned program and in every row, IS THE sha256 OF THE DUMP (.gsa) THAT YtgnlkcdpklgikaaProg.lean LOADS. Nothing in Lean hashes anything: it is a label: what it is worth is what the hold of that sum in a sandbox is worth. -/
noncomputable def Try.pinned : Pinned := { name := "ytgnlkcdpklgikaa", sum := "0151feafe4239352af6561b6753911351b835679a68ed1570b320f849ce43e3d", checked := Try.checked }
namespace Rows
def none {H : Type} : Left H := { results := [], args := [] }

/-- 'lanternlaw26.DuePicks': WHATEVER THE INPUT: true; the input reads as it did. -/
def duePicksSpec : ChangeSpec := { name := "duePicks", fn := fun _ => fun
  | [d1, d2, d3] => { results := [.lit (.bool true)], args := [d1, d2, d3] }
  | _ => none }
def duePicksRow : OpenClaim := { program := "ytgnlkcdpklgikaa", sum := "0151feafe4239352af6561b6753911351b835679a68ed1570b320f849ce43e3d", func := "lantern/lanternlaw26.DuePicks", spec := "duePicks", unfollowed := true, recurses := true, apart := false }
def DuePicksSaid : Prop := duePicksRow.holds Try.pinned (OpenSpec.ofChange duePicksSpec)

/-- ITS FALSE NEIGHBOUR: 'it returns false'. Refute it at one input. -/
def duePicksWrong : ChangeSpec := { name := "duePicks", fn := fun _ => fun
  | [d1, d2, d3] => { results := [.lit (.bool false)], args := [d1, d2, d3] }
  | _ => none }
def DuePicksWrongFalsely : Prop := duePicksRow.holds Try.pinned (OpenSpec.ofChange duePicksWrong)

/-- 'lanternlaw26.DueDone': WHATEVER THE INPUT: true; the input reads as it did. -/
def dueDoneSpec : ChangeSpec := { name := "dueDone", fn := fun _ => fun
  | [d1, d2, d3] => { results := [.lit (.bool true)], args := [d1, d2, d3] }
  | _ => none }
def dueDoneRow : OpenClaim := { program := "ytgnlkcdpklgikaa", sum := "0151feafe4239352af6561b6753911351b835679a68ed1570b320f849ce43e3d", func := "lantern/lanternlaw26.DueDone", spec := "dueDone", unfollowed := true, recurses := true, apart := false }
def DueDoneSaid : Prop := dueDoneRow.holds Try.pinned (OpenSpec.ofChange dueDoneSpec)

/-- ITS FALSE NEIGHBOUR: 'it returns false'. Refute it at one input. -/
def dueDoneWrong : ChangeSpec := { name := "dueDone", fn := fun _ => fun
  | [d1, d2, d3] => { results := [.lit (.bool false)], args := [d1, d2, d3] }
  | _ => none }
def DueDoneWrongFalsely : Prop := dueDoneRow.holds Try.pinned (OpenSpec.ofChange dueDoneWrong)

/-- 'lanternlaw26.DueFresh': WHATEVER THE INPUT: true; the input reads as it did. -/
def dueFreshSpec : ChangeSpec := { name := "dueFresh", fn := fun _ => fun
  | [d1, d2, d3] => { results := [.lit (.bool true)], args := [d1, d2, d3] }
  | _ => none }
def dueFreshRow : OpenClaim := { program := "ytgnlkcdpklgikaa", sum := "0151feafe4239352af6561b6753911351b835679a68ed1570b320f849ce43e3d", func := "lantern/lanternlaw26.DueFresh", spec := "dueFresh", unfollowed := true, recurses := true, apart := false }
def DueFreshSaid : Prop := dueFreshRow.holds Try.pinned (OpenSpec.ofChange dueFreshSpec)

/-- ITS FALSE NEIGHBOUR: 'it returns false'. Refute it at one input. -/
def dueFreshWrong : ChangeSpec := { name := "dueFresh", fn := fun _ => fun
  | [d1, d2, d3] => { results := [.lit (.bool false)], args := [d1, d2, d3] }
  | _ => none }
def DueFreshWrongFalsely : Prop := dueFreshRow.holds Try.pinned (OpenSpec.ofChange dueFreshWrong)

/-- 'lanternlaw26.DueApart': WHATEVER THE INPUT: true; the input reads as it did. -/
def dueApartSpec : ChangeSpec := { name := "dueApart", fn := fun _ => fun
  | [d1, d2, d3] => { results := [.lit (.bool true)], args := [d1, d2, d3] }
  | _ => none }
def dueApartRow : OpenClaim := { program := "ytgnlkcdpklgikaa", sum := "0151feafe4239352af6561b6753911351b835679a68ed1570b320f849ce43e3d", func := "lantern/lanternlaw26.DueApart", spec := "dueApart", inPlace := ["slices.overlaps[lantern/api.Due]"], unfollowed := true, recurses := true, apart := false }
def DueApartSaid : Prop := dueApartRow.holds Try.pinned (OpenSpec.ofChange dueApartSpec)

/-- ITS FALSE NEIGHBOUR: 'it returns false'. Refute it at one input. -/
def dueApartWrong : ChangeSpec := { name := "dueApart", fn := fun _ => fun
  | [d1, d2, d3] => { results := [.lit (.bool false)], args := [d1, d2, d3] }
  | _ => none }
def DueApartWrongFalsely : Prop := dueApartRow.holds Try.pinned (OpenSpec.ofChange dueApartWrong)

/- THE SECOND FORM. 'bulk': how many values and letters a reading holds, each counted each time it is reached (what is shared counts as often as it is met; a slice's spare places count too). A statement '..UptoSaid' is the law's where the arguments, and the package variables that the reading takes, are together of bulk at most 1048576: NARROWER than '..Said'. Prove '..Said' where nothing that the law and all that it calls make is longer than what came in: it says more and counts as full. Else prove '..UptoSaid'. A law counts once. -/
mutual
def uptoBulk {H : Type} : DataW H → Nat
  | .lit (.string bytes) => bytes.length + 1
  | .lit _ => 1
  | .nil => 1
  | .ptr d => uptoBulk d + 1
  | .slice elems spare => uptoBulkAll elems + uptoBulkAll spare + 1
  | .agg parts => uptoBulkAll parts + 1
  | .iface _ d => uptoBulk d + 1
  | .map entries => uptoBulkEntries entries + 1
  | .held _ => 1
def uptoBulkAll {H : Type} : List (DataW H) → Nat
  | [] => 0
  | d :: r => uptoBulk d + uptoBulkAll r
def uptoBulkEntries {H : Type} : List (Lit × DataW H) → Nat
  | [] => 0
  | x :: r => uptoBulkEntry x + uptoBulkEntries r
def uptoBulkEntry {H : Type} : Lit × DataW H → Nat
  | (.string bytes, d) => bytes.length + uptoBulk d + 1
  | (_, d) => uptoBulk d + 1
 end
def uptoSmall : (H : Type) → List (DataW H) → Bool := fun _ ds => decide (uptoBulkAll ds ≤ 1048576)
def OpenSpec.upto (s : _root_.Go.ChangeSpec) : _root_.Go.OpenSpec := { _root_.Go.OpenSpec.ofChange s with cond := some uptoSmall }

/-- 'lanternlaw26.DuePicks', WHERE WHAT IT READS IS OF BULK AT MOST 1048576: true; the input reads as it did. -/
def duePicksUptoRow : OpenClaim := { program := "ytgnlkcdpklgikaa", sum := "0151feafe4239352af6561b6753911351b835679a68ed1570b320f849ce43e3d", func := "lantern/lanternlaw26.DuePicks", spec := "duePicks", unfollowed := true, recurses := true, apart := false, narrowed := true }
def DuePicksUptoSaid : Prop := duePicksUptoRow.holds Try.pinned (OpenSpec.upto duePicksSpec)

/-- 'lanternlaw26.DueDone', WHERE WHAT IT READS IS OF BULK AT MOST 1048576: true; the input reads as it did. -/
def dueDoneUptoRow : OpenClaim := { program := "ytgnlkcdpklgikaa", sum := "0151feafe4239352af6561b6753911351b835679a68ed1570b320f849ce43e3d", func := "lantern/lanternlaw26.DueDone", spec := "dueDone", unfollowed := true, recurses := true, apart := false, narrowed := true }
def DueDoneUptoSaid : Prop := dueDoneUptoRow.holds Try.pinned (OpenSpec.upto dueDoneSpec)

/-- 'lanternlaw26.DueFresh', WHERE WHAT IT READS IS OF BULK AT MOST 1048576: true; the input reads as it did. -/
def dueFreshUptoRow : OpenClaim := { program := "ytgnlkcdpklgikaa", sum := "0151feafe4239352af6561b6753911351b835679a68ed1570b320f849ce43e3d", func := "lantern/lanternlaw26.DueFresh", spec := "dueFresh", unfollowed := true, recurses := true, apart := false, narrowed := true }
def DueFreshUptoSaid : Prop := dueFreshUptoRow.holds Try.pinned (OpenSpec.upto dueFreshSpec)

/-- 'lanternlaw26.DueApart', WHERE WHAT IT READS IS OF BULK AT MOST 1048576: true; the input reads as it did. -/
def dueApartUptoRow : OpenClaim := { program := "ytgnlkcdpklgikaa", sum := "0151feafe4239352af6561b6753911351b835679a68ed1570b320f849ce43e3d", func := "lantern/lanternlaw26.DueApart", spec := "dueApart", inPlace := ["slices.overlaps[lantern/api.Due]"], unfollowed := true, recurses := true, apart := false, narrowed := true }
def DueApartUptoSaid : Prop := dueApartUptoRow.holds Try.pinned (OpenSpec.upto dueApartSpec)

end Rows
end Go.Proofs.Ytgnlkcdpklgikaa
