/-
  No cell of these rows narrows 'for every input' (looked for: loops, veiled, ifaces, maps, wideKeys, modest, calm, conditions, laid).
  DERIVED. THE GIVEN ROWS OF THIS SEAT. 8 by the template 'for every input the law returns true; each argument reads behind the call as it read before'; 0 by the template 'total and deterministic' (their statements: YtdkcpnmaglkmnaaTotals.lean).
  GIVEN WITH THE SEED: the statements are not yours to turn. If you find one false, say at which input.
  Laid BY PROGRAM, IN A SANDBOX (cutbox-rows.mjs): the forced cells as the released guide's own fill.sh prints them over the translation d0990d34e9ebbf9d… (all of the seat's roots in one cut). By AI agents, Wed Nov 11 2026. No macro, syntax, notation, axiom, sorry.
-/
import Derived.Test.YtdkcpnmaglkmnaaChecked
import GoSem.Claim
import GoSem.ClaimJoined
import GoSem.ClaimMapViews
import Derived.JoinedTies
import Derived.KernelRfl
namespace Go.Proofs.Ytdkcpnmaglkmnaa
/- THE CELL 'sum', in the pinned program and in every row, IS THE sha256 OF THE DUMP (.gsa) THAT YtdkcpnmaglkmnaaProg.lean LOADS. Nothing in Lean hashes anything: it is a label: what it is worth is what the hold of that sum in a sandbox is worth. -/
noncomputable def Try.pinned : Pinned := { name := "ytdkcpnmaglkmnaa", sum := "d0990d34e9ebbf9d00a5ecfea9047d14f41dc21f165d5e2f9be757a07ac2439d", checked := Try.checked }
namespace Rows
def none {H : Type} : Left H := { results := [], args := [] }

/-- 'parcenerlaw30.LandWalks': WHATEVER THE INPUT: true; the input reads as it did. -/
def landWalksSpec : ChangeSpec := { name := "landWalks", fn := fun _ => fun
  | [d1, d2, d3] => { results := [.lit (.bool true)], args := [d1, d2, d3] }
  | _ => none }
def landWalksRow : OpenClaim := { program := "ytdkcpnmaglkmnaa", sum := "d0990d34e9ebbf9d00a5ecfea9047d14f41dc21f165d5e2f9be757a07ac2439d", func := "parcener/parcenerlaw30.LandWalks", spec := "landWalks", unfollowed := true, recurses := true, apart := false }
def LandWalksSaid : Prop := landWalksRow.holds Try.pinned (OpenSpec.ofChange landWalksSpec)

/-- ITS FALSE NEIGHBOUR: 'it returns false'. Refute it at one input. -/
def landWalksWrong : ChangeSpec := { name := "landWalks", fn := fun _ => fun
  | [d1, d2, d3] => { results := [.lit (.bool false)], args := [d1, d2, d3] }
  | _ => none }
def LandWalksWrongFalsely : Prop := landWalksRow.holds Try.pinned (OpenSpec.ofChange landWalksWrong)

/-- 'parcenerlaw30.LandParts': WHATEVER THE INPUT: true; the input reads as it did. -/
def landPartsSpec : ChangeSpec := { name := "landParts", fn := fun _ => fun
  | [d1, d2, d3, d4] => { results := [.lit (.bool true)], args := [d1, d2, d3, d4] }
  | _ => none }
def landPartsRow : OpenClaim := { program := "ytdkcpnmaglkmnaa", sum := "d0990d34e9ebbf9d00a5ecfea9047d14f41dc21f165d5e2f9be757a07ac2439d", func := "parcener/parcenerlaw30.LandParts", spec := "landParts", unfollowed := true, recurses := true, apart := false }
def LandPartsSaid : Prop := landPartsRow.holds Try.pinned (OpenSpec.ofChange landPartsSpec)

/-- ITS FALSE NEIGHBOUR: 'it returns false'. Refute it at one input. -/
def landPartsWrong : ChangeSpec := { name := "landParts", fn := fun _ => fun
  | [d1, d2, d3, d4] => { results := [.lit (.bool false)], args := [d1, d2, d3, d4] }
  | _ => none }
def LandPartsWrongFalsely : Prop := landPartsRow.holds Try.pinned (OpenSpec.ofChange landPartsWrong)

/-- 'parcenerlaw30.LandWhole': WHATEVER THE INPUT: true; the input reads as it did. -/
def landWholeSpec : ChangeSpec := { name := "landWhole", fn := fun _ => fun
  | [d1, d2] => { results := [.lit (.bool true)], args := [d1, d2] }
  | _ => none }
def landWholeRow : OpenClaim := { program := "ytdkcpnmaglkmnaa", sum := "d0990d34e9ebbf9d00a5ecfea9047d14f41dc21f165d5e2f9be757a07ac2439d", func := "parcener/parcenerlaw30.LandWhole", spec := "landWhole", unfollowed := true, recurses := true, apart := false }
def LandWholeSaid : Prop := landWholeRow.holds Try.pinned (OpenSpec.ofChange landWholeSpec)

/-- ITS FALSE NEIGHBOUR: 'it returns false'. Refute it at one input. -/
def landWholeWrong : ChangeSpec := { name := "landWhole", fn := fun _ => fun
  | [d1, d2] => { results := [.lit (.bool false)], args := [d1, d2] }
  | _ => none }
def LandWholeWrongFalsely : Prop := landWholeRow.holds Try.pinned (OpenSpec.ofChange landWholeWrong)

/-- 'parcenerlaw30.LandSides': WHATEVER THE INPUT: true; the input reads as it did. -/
def landSidesSpec : ChangeSpec := { name := "landSides", fn := fun _ => fun
  | [d1, d2] => { results := [.lit (.bool true)], args := [d1, d2] }
  | _ => none }
def landSidesRow : OpenClaim := { program := "ytdkcpnmaglkmnaa", sum := "d0990d34e9ebbf9d00a5ecfea9047d14f41dc21f165d5e2f9be757a07ac2439d", func := "parcener/parcenerlaw30.LandSides", spec := "landSides", unfollowed := true, recurses := true, apart := false }
def LandSidesSaid : Prop := landSidesRow.holds Try.pinned (OpenSpec.ofChange landSidesSpec)

/-- ITS FALSE NEIGHBOUR: 'it returns false'. Refute it at one input. -/
def landSidesWrong : ChangeSpec := { name := "landSides", fn := fun _ => fun
  | [d1, d2] => { results := [.lit (.bool false)], args := [d1, d2] }
  | _ => none }
def LandSidesWrongFalsely : Prop := landSidesRow.holds Try.pinned (OpenSpec.ofChange landSidesWrong)

/-- 'parcenerlaw30.LandGives': WHATEVER THE INPUT: true; the input reads as it did. -/
def landGivesSpec : ChangeSpec := { name := "landGives", fn := fun _ => fun
  | [d1, d2, d3] => { results := [.lit (.bool true)], args := [d1, d2, d3] }
  | _ => none }
def landGivesRow : OpenClaim := { program := "ytdkcpnmaglkmnaa", sum := "d0990d34e9ebbf9d00a5ecfea9047d14f41dc21f165d5e2f9be757a07ac2439d", func := "parcener/parcenerlaw30.LandGives", spec := "landGives", unfollowed := true, recurses := true, apart := false }
def LandGivesSaid : Prop := landGivesRow.holds Try.pinned (OpenSpec.ofChange landGivesSpec)

/-- ITS FALSE NEIGHBOUR: 'it returns false'. Refute it at one input. -/
def landGivesWrong : ChangeSpec := { name := "landGives", fn := fun _ => fun
  | [d1, d2, d3] => { results := [.lit (.bool false)], args := [d1, d2, d3] }
  | _ => none }
def LandGivesWrongFalsely : Prop := landGivesRow.holds Try.pinned (OpenSpec.ofChange landGivesWrong)

/-- 'parcenerlaw30.LandBorders': WHATEVER THE INPUT: true; the input reads as it did. -/
def landBordersSpec : ChangeSpec := { name := "landBorders", fn := fun _ => fun
  | [d1, d2, d3] => { results := [.lit (.bool true)], args := [d1, d2, d3] }
  | _ => none }
def landBordersRow : OpenClaim := { program := "ytdkcpnmaglkmnaa", sum := "d0990d34e9ebbf9d00a5ecfea9047d14f41dc21f165d5e2f9be757a07ac2439d", func := "parcener/parcenerlaw30.LandBorders", spec := "landBorders", unfollowed := true, recurses := true, apart := false }
def LandBordersSaid : Prop := landBordersRow.holds Try.pinned (OpenSpec.ofChange landBordersSpec)

/-- ITS FALSE NEIGHBOUR: 'it returns false'. Refute it at one input. -/
def landBordersWrong : ChangeSpec := { name := "landBorders", fn := fun _ => fun
  | [d1, d2, d3] => { results := [.lit (.bool false)], args := [d1, d2, d3] }
  | _ => none }
def LandBordersWrongFalsely : Prop := landBordersRow.holds Try.pinned (OpenSpec.ofChange landBordersWrong)

/-- 'parcenerlaw30.LandNames': WHATEVER THE INPUT: true; the input reads as it did. -/
def landNamesSpec : ChangeSpec := { name := "landNames", fn := fun _ => fun
  | [] => { results := [.lit (.bool true)], args := [] }
  | _ => none }
def landNamesRow : OpenClaim := { program := "ytdkcpnmaglkmnaa", sum := "d0990d34e9ebbf9d00a5ecfea9047d14f41dc21f165d5e2f9be757a07ac2439d", func := "parcener/parcenerlaw30.LandNames", spec := "landNames", unfollowed := true, recurses := true, apart := false }
def LandNamesSaid : Prop := landNamesRow.holds Try.pinned (OpenSpec.ofChange landNamesSpec)

/-- ITS FALSE NEIGHBOUR: 'it returns false'. Refute it at one input. -/
def landNamesWrong : ChangeSpec := { name := "landNames", fn := fun _ => fun
  | [] => { results := [.lit (.bool false)], args := [] }
  | _ => none }
def LandNamesWrongFalsely : Prop := landNamesRow.holds Try.pinned (OpenSpec.ofChange landNamesWrong)

/-- 'parcenerlaw30.LandJoints': WHATEVER THE INPUT: true; the input reads as it did. -/
def landJointsSpec : ChangeSpec := { name := "landJoints", fn := fun _ => fun
  | [d1, d2] => { results := [.lit (.bool true)], args := [d1, d2] }
  | _ => none }
def landJointsRow : OpenClaim := { program := "ytdkcpnmaglkmnaa", sum := "d0990d34e9ebbf9d00a5ecfea9047d14f41dc21f165d5e2f9be757a07ac2439d", func := "parcener/parcenerlaw30.LandJoints", spec := "landJoints", unfollowed := true, recurses := true, apart := false }
def LandJointsSaid : Prop := landJointsRow.holds Try.pinned (OpenSpec.ofChange landJointsSpec)

/-- ITS FALSE NEIGHBOUR: 'it returns false'. Refute it at one input. -/
def landJointsWrong : ChangeSpec := { name := "landJoints", fn := fun _ => fun
  | [d1, d2] => { results := [.lit (.bool false)], args := [d1, d2] }
  | _ => none }
def LandJointsWrongFalsely : Prop := landJointsRow.holds Try.pinned (OpenSpec.ofChange landJointsWrong)

/- THE SECOND FORM. 'bulk': how many values and letters a reading holds, each counted each time it is reached (what is shared counts as often as it is met; a slice's spare places count too). A statement '..UptoSaid' is the law's where the arguments, and the package variables that the reading takes, are together of bulk at most 1048576: NARROWER than '..Said'. Prove '..Said' where nothing that the law and all that it calls make is longer than what came in: it says more and counts as full. Else prove '..UptoSaid'. A law counts once. -/
mutual
def uptoBulk {H : Type} : DataW H → Nat
  | .lit (.string bytes) => bytes.length + 1
  | .lit _ => 1
  | .nil => 1
  | .ptr d => uptoBulk d + 1
  | .slice elems spare => uptoBulkAll elems + uptoBulkAll spare + 1
  | .agg parts => uptoBulkAll parts + 1
  | .iface _ d => uptoBulk d + 1
  | .map entries => uptoBulkEntries entries + 1
  | .held _ => 1
def uptoBulkAll {H : Type} : List (DataW H) → Nat
  | [] => 0
  | d :: r => uptoBulk d + uptoBulkAll r
def uptoBulkEntries {H : Type} : List (Lit × DataW H) → Nat
  | [] => 0
  | x :: r => uptoBulkEntry x + uptoBulkEntries r
def uptoBulkEntry {H : Type} : Lit × DataW H → Nat
  | (.string bytes, d) => bytes.length + uptoBulk d + 1
  | (_, d) => uptoBulk d + 1
 end
def uptoSmall : (H : Type) → List (DataW H) → Bool := fun _ ds => decide (uptoBulkAll ds ≤ 1048576)
def OpenSpec.upto (s : _root_.Go.ChangeSpec) : _root_.Go.OpenSpec := { _root_.Go.OpenSpec.ofChange s with cond := some uptoSmall }

/-- 'parcenerlaw30.LandWalks', WHERE WHAT IT READS IS OF BULK AT MOST 1048576: true; the input reads as it did. -/
def landWalksUptoRow : OpenClaim := { program := "ytdkcpnmaglkmnaa", sum := "d0990d34e9ebbf9d00a5ecfea9047d14f41dc21f165d5e2f9be757a07ac2439d", func := "parcener/parcenerlaw30.LandWalks", spec := "landWalks", unfollowed := true, recurses := true, apart := false, narrowed := true }
def LandWalksUptoSaid : Prop := landWalksUptoRow.holds Try.pinned (OpenSpec.upto landWalksSpec)

/-- 'parcenerlaw30.LandParts', WHERE WHAT IT READS IS OF BULK AT MOST 1048576: true; the input reads as it did. -/
def landPartsUptoRow : OpenClaim := { program := "ytdkcpnmaglkmnaa", sum := "d0990d34e9ebbf9d00a5ecfea9047d14f41dc21f165d5e2f9be757a07ac2439d", func := "parcener/parcenerlaw30.LandParts", spec := "landParts", unfollowed := true, recurses := true, apart := false, narrowed := true }
def LandPartsUptoSaid : Prop := landPartsUptoRow.holds Try.pinned (OpenSpec.upto landPartsSpec)

/-- 'parcenerlaw30.LandWhole', WHERE WHAT IT READS IS OF BULK AT MOST 1048576: true; the input reads as it did. -/
def landWholeUptoRow : OpenClaim := { program := "ytdkcpnmaglkmnaa", sum := "d0990d34e9ebbf9d00a5ecfea9047d14f41dc21f165d5e2f9be757a07ac2439d", func := "parcener/parcenerlaw30.LandWhole", spec := "landWhole", unfollowed := true, recurses := true, apart := false, narrowed := true }
def LandWholeUptoSaid : Prop := landWholeUptoRow.holds Try.pinned (OpenSpec.upto landWholeSpec)

/-- 'parcenerlaw30.LandSides', WHERE WHAT IT READS IS OF BULK AT MOST 1048576: true; the input reads as it did. -/
def landSidesUptoRow : OpenClaim := { program := "ytdkcpnmaglkmnaa", sum := "d0990d34e9ebbf9d00a5ecfea9047d14f41dc21f165d5e2f9be757a07ac2439d", func := "parcener/parcenerlaw30.LandSides", spec := "landSides", unfollowed := true, recurses := true, apart := false, narrowed := true }
def LandSidesUptoSaid : Prop := landSidesUptoRow.holds Try.pinned (OpenSpec.upto landSidesSpec)

/-- 'parcenerlaw30.LandGives', WHERE WHAT IT READS IS OF BULK AT MOST 1048576: true; the input reads as it did. -/
def landGivesUptoRow : OpenClaim := { program := "ytdkcpnmaglkmnaa", sum := "d0990d34e9ebbf9d00a5ecfea9047d14f41dc21f165d5e2f9be757a07ac2439d", func := "parcener/parcenerlaw30.LandGives", spec := "landGives", unfollowed := true, recurses := true, apart := false, narrowed := true }
def LandGivesUptoSaid : Prop := landGivesUptoRow.holds Try.pinned (OpenSpec.upto landGivesSpec)

/-- 'parcenerlaw30.LandBorders', WHERE WHAT IT READS IS OF BULK AT MOST 1048576: true; the input reads as it did. -/
def landBordersUptoRow : OpenClaim := { program := "ytdkcpnmaglkmnaa", sum := "d0990d34e9ebbf9d00a5ecfea9047d14f41dc21f165d5e2f9be757a07ac2439d", func := "parcener/parcenerlaw30.LandBorders", spec := "landBorders", unfollowed := true, recurses := true, apart := false, narrowed := true }
def LandBordersUptoSaid : Prop := landBordersUptoRow.holds Try.pinned (OpenSpec.upto landBordersSpec)

/-- 'parcenerlaw30.LandNames', WHERE WHAT IT READS IS OF BULK AT MOST 1048576: true; the input reads as it did. -/
def landNamesUptoRow : OpenClaim := { program := "ytdkcpnmaglkmnaa", sum := "d0990d34e9ebbf9d00a5ecfea9047d14f41dc21f165d5e2f9be757a07ac2439d", func := "parcener/parcenerlaw30.LandNames", spec := "landNames", unfollowed := true, recurses := true, apart := false, narrowed := true }
def LandNamesUptoSaid : Prop := landNamesUptoRow.holds Try.pinned (OpenSpec.upto landNamesSpec)

/-- 'parcenerlaw30.LandJoints', WHERE WHAT IT READS IS OF BULK AT MOST 1048576: true; the input reads as it did. -/
def landJointsUptoRow : OpenClaim := { program := "ytdkcpnmaglkmnaa", sum := "d0990d34e9ebbf9d00a5ecfea9047d14f41dc21f165d5e2f9be757a07ac2439d", func := "parcener/parcenerlaw30.LandJoints", spec := "landJoints", unfollowed := true, recurses := true, apart := false, narrowed := true }
def LandJointsUptoSaid : Prop := landJointsUptoRow.holds Try.pinned (OpenSpec.upto landJointsSpec)

end Rows
end Go.Proofs.Ytdkcpnmaglkmnaa
