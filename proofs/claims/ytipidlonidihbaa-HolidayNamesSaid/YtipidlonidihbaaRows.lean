/-
  No cell of these rows narrows 'for every input' (looked for: loops, veiled, ifaces, maps, wideKeys, modest, calm, conditions, laid).
  DERIVED. THE GIVEN ROWS OF THIS SEAT. 7 by the template 'for every input the law returns true; each argument reads behind the call as it read before'; 0 by the template 'total and deterministic' (their statements: YtipidlonidihbaaTotals.lean).
  GIVEN WITH THE SEED: the statements are not yours to turn. If you find one false, say at which input.
  Laid BY PROGRAM, IN A SANDBOX (cutbox-rows.mjs): the forced cells as the released guide's own fill.sh prints them over the translation e82f52ad944365a9… (all of the seat's roots in one cut). By AI agents, Wed Nov 11 2026. No macro, syntax, notation, axiom, sorry.
-/
import Derived.Test.YtipidlonidihbaaChecked
import GoSem.Claim
import GoSem.ClaimJoined
import GoSem.ClaimMapViews
import Derived.JoinedTies
import Derived.KernelRfl
namespace Go.Proofs.Ytipidlonidihbaa
/- THE CELL 'sum', in the pinned program and in every row, IS THE sha256 OF THE DUMP (.gsa) THAT YtipidlonidihbaaProg.lean LOADS. Nothing in Lean hashes anything: it is a label: what it is worth is what the hold of that sum in a sandbox is worth. -/
noncomputable def Try.pinned : Pinned := { name := "ytipidlonidihbaa", sum := "e82f52ad944365a9343435caf0c3796024a1ea5bb84cd2d88cae9a00816de290", checked := Try.checked }
namespace Rows
def none {H : Type} : Left H := { results := [], args := [] }

/-- 'parcenerlaw33.HolidayGives': WHATEVER THE INPUT: true; the input reads as it did. -/
def holidayGivesSpec : ChangeSpec := { name := "holidayGives", fn := fun _ => fun
  | [d1, d2, d3] => { results := [.lit (.bool true)], args := [d1, d2, d3] }
  | _ => none }
def holidayGivesRow : OpenClaim := { program := "ytipidlonidihbaa", sum := "e82f52ad944365a9343435caf0c3796024a1ea5bb84cd2d88cae9a00816de290", func := "parcener/parcenerlaw33.HolidayGives", spec := "holidayGives", unfollowed := true, recurses := true, apart := false }
def HolidayGivesSaid : Prop := holidayGivesRow.holds Try.pinned (OpenSpec.ofChange holidayGivesSpec)

/-- ITS FALSE NEIGHBOUR: 'it returns false'. Refute it at one input. -/
def holidayGivesWrong : ChangeSpec := { name := "holidayGives", fn := fun _ => fun
  | [d1, d2, d3] => { results := [.lit (.bool false)], args := [d1, d2, d3] }
  | _ => none }
def HolidayGivesWrongFalsely : Prop := holidayGivesRow.holds Try.pinned (OpenSpec.ofChange holidayGivesWrong)

/-- 'parcenerlaw33.HolidaySums': WHATEVER THE INPUT: true; the input reads as it did. -/
def holidaySumsSpec : ChangeSpec := { name := "holidaySums", fn := fun _ => fun
  | [d1, d2, d3] => { results := [.lit (.bool true)], args := [d1, d2, d3] }
  | _ => none }
def holidaySumsRow : OpenClaim := { program := "ytipidlonidihbaa", sum := "e82f52ad944365a9343435caf0c3796024a1ea5bb84cd2d88cae9a00816de290", func := "parcener/parcenerlaw33.HolidaySums", spec := "holidaySums", unfollowed := true, recurses := true, apart := false }
def HolidaySumsSaid : Prop := holidaySumsRow.holds Try.pinned (OpenSpec.ofChange holidaySumsSpec)

/-- ITS FALSE NEIGHBOUR: 'it returns false'. Refute it at one input. -/
def holidaySumsWrong : ChangeSpec := { name := "holidaySums", fn := fun _ => fun
  | [d1, d2, d3] => { results := [.lit (.bool false)], args := [d1, d2, d3] }
  | _ => none }
def HolidaySumsWrongFalsely : Prop := holidaySumsRow.holds Try.pinned (OpenSpec.ofChange holidaySumsWrong)

/-- 'parcenerlaw33.HolidayRanks': WHATEVER THE INPUT: true; the input reads as it did. -/
def holidayRanksSpec : ChangeSpec := { name := "holidayRanks", fn := fun _ => fun
  | [d1, d2] => { results := [.lit (.bool true)], args := [d1, d2] }
  | _ => none }
def holidayRanksRow : OpenClaim := { program := "ytipidlonidihbaa", sum := "e82f52ad944365a9343435caf0c3796024a1ea5bb84cd2d88cae9a00816de290", func := "parcener/parcenerlaw33.HolidayRanks", spec := "holidayRanks", unfollowed := true, recurses := true, apart := false }
def HolidayRanksSaid : Prop := holidayRanksRow.holds Try.pinned (OpenSpec.ofChange holidayRanksSpec)

/-- ITS FALSE NEIGHBOUR: 'it returns false'. Refute it at one input. -/
def holidayRanksWrong : ChangeSpec := { name := "holidayRanks", fn := fun _ => fun
  | [d1, d2] => { results := [.lit (.bool false)], args := [d1, d2] }
  | _ => none }
def HolidayRanksWrongFalsely : Prop := holidayRanksRow.holds Try.pinned (OpenSpec.ofChange holidayRanksWrong)

/-- 'parcenerlaw33.HolidayMore': WHATEVER THE INPUT: true; the input reads as it did. -/
def holidayMoreSpec : ChangeSpec := { name := "holidayMore", fn := fun _ => fun
  | [d1, d2, d3, d4] => { results := [.lit (.bool true)], args := [d1, d2, d3, d4] }
  | _ => none }
def holidayMoreRow : OpenClaim := { program := "ytipidlonidihbaa", sum := "e82f52ad944365a9343435caf0c3796024a1ea5bb84cd2d88cae9a00816de290", func := "parcener/parcenerlaw33.HolidayMore", spec := "holidayMore", unfollowed := true, recurses := true, apart := false }
def HolidayMoreSaid : Prop := holidayMoreRow.holds Try.pinned (OpenSpec.ofChange holidayMoreSpec)

/-- ITS FALSE NEIGHBOUR: 'it returns false'. Refute it at one input. -/
def holidayMoreWrong : ChangeSpec := { name := "holidayMore", fn := fun _ => fun
  | [d1, d2, d3, d4] => { results := [.lit (.bool false)], args := [d1, d2, d3, d4] }
  | _ => none }
def HolidayMoreWrongFalsely : Prop := holidayMoreRow.holds Try.pinned (OpenSpec.ofChange holidayMoreWrong)

/-- 'parcenerlaw33.HolidayRuns': WHATEVER THE INPUT: true; the input reads as it did. -/
def holidayRunsSpec : ChangeSpec := { name := "holidayRuns", fn := fun _ => fun
  | [d1, d2, d3, d4] => { results := [.lit (.bool true)], args := [d1, d2, d3, d4] }
  | _ => none }
def holidayRunsRow : OpenClaim := { program := "ytipidlonidihbaa", sum := "e82f52ad944365a9343435caf0c3796024a1ea5bb84cd2d88cae9a00816de290", func := "parcener/parcenerlaw33.HolidayRuns", spec := "holidayRuns", unfollowed := true, recurses := true, apart := false }
def HolidayRunsSaid : Prop := holidayRunsRow.holds Try.pinned (OpenSpec.ofChange holidayRunsSpec)

/-- ITS FALSE NEIGHBOUR: 'it returns false'. Refute it at one input. -/
def holidayRunsWrong : ChangeSpec := { name := "holidayRuns", fn := fun _ => fun
  | [d1, d2, d3, d4] => { results := [.lit (.bool false)], args := [d1, d2, d3, d4] }
  | _ => none }
def HolidayRunsWrongFalsely : Prop := holidayRunsRow.holds Try.pinned (OpenSpec.ofChange holidayRunsWrong)

/-- 'parcenerlaw33.HolidayNames': WHATEVER THE INPUT: true; the input reads as it did. -/
def holidayNamesSpec : ChangeSpec := { name := "holidayNames", fn := fun _ => fun
  | [] => { results := [.lit (.bool true)], args := [] }
  | _ => none }
def holidayNamesRow : OpenClaim := { program := "ytipidlonidihbaa", sum := "e82f52ad944365a9343435caf0c3796024a1ea5bb84cd2d88cae9a00816de290", func := "parcener/parcenerlaw33.HolidayNames", spec := "holidayNames", unfollowed := true, recurses := true, apart := false }
def HolidayNamesSaid : Prop := holidayNamesRow.holds Try.pinned (OpenSpec.ofChange holidayNamesSpec)

/-- ITS FALSE NEIGHBOUR: 'it returns false'. Refute it at one input. -/
def holidayNamesWrong : ChangeSpec := { name := "holidayNames", fn := fun _ => fun
  | [] => { results := [.lit (.bool false)], args := [] }
  | _ => none }
def HolidayNamesWrongFalsely : Prop := holidayNamesRow.holds Try.pinned (OpenSpec.ofChange holidayNamesWrong)

/-- 'parcenerlaw33.HolidayParts': WHATEVER THE INPUT: true; the input reads as it did. -/
def holidayPartsSpec : ChangeSpec := { name := "holidayParts", fn := fun _ => fun
  | [d1, d2, d3] => { results := [.lit (.bool true)], args := [d1, d2, d3] }
  | _ => none }
def holidayPartsRow : OpenClaim := { program := "ytipidlonidihbaa", sum := "e82f52ad944365a9343435caf0c3796024a1ea5bb84cd2d88cae9a00816de290", func := "parcener/parcenerlaw33.HolidayParts", spec := "holidayParts", unfollowed := true, recurses := true, apart := false }
def HolidayPartsSaid : Prop := holidayPartsRow.holds Try.pinned (OpenSpec.ofChange holidayPartsSpec)

/-- ITS FALSE NEIGHBOUR: 'it returns false'. Refute it at one input. -/
def holidayPartsWrong : ChangeSpec := { name := "holidayParts", fn := fun _ => fun
  | [d1, d2, d3] => { results := [.lit (.bool false)], args := [d1, d2, d3] }
  | _ => none }
def HolidayPartsWrongFalsely : Prop := holidayPartsRow.holds Try.pinned (OpenSpec.ofChange holidayPartsWrong)

/- THE SECOND FORM. 'bulk': how many values and letters a reading holds, each counted each time it is reached (what is shared counts as often as it is met; a slice's spare places count too). A statement '..UptoSaid' is the law's where the arguments, and the package variables that the reading takes, are together of bulk at most 1048576: NARROWER than '..Said'. Prove '..Said' where nothing that the law and all that it calls make is longer than what came in: it says more and counts as full. Else prove '..UptoSaid'. A law counts once. -/
mutual
def uptoBulk {H : Type} : DataW H → Nat
  | .lit (.string bytes) => bytes.length + 1
  | .lit _ => 1
  | .nil => 1
  | .ptr d => uptoBulk d + 1
  | .slice elems spare => uptoBulkAll elems + uptoBulkAll spare + 1
  | .agg parts => uptoBulkAll parts + 1
  | .iface _ d => uptoBulk d + 1
  | .map entries => uptoBulkEntries entries + 1
  | .held _ => 1
def uptoBulkAll {H : Type} : List (DataW H) → Nat
  | [] => 0
  | d :: r => uptoBulk d + uptoBulkAll r
def uptoBulkEntries {H : Type} : List (Lit × DataW H) → Nat
  | [] => 0
  | x :: r => uptoBulkEntry x + uptoBulkEntries r
def uptoBulkEntry {H : Type} : Lit × DataW H → Nat
  | (.string bytes, d) => bytes.length + uptoBulk d + 1
  | (_, d) => uptoBulk d + 1
 end
def uptoSmall : (H : Type) → List (DataW H) → Bool := fun _ ds => decide (uptoBulkAll ds ≤ 1048576)
def OpenSpec.upto (s : _root_.Go.ChangeSpec) : _root_.Go.OpenSpec := { _root_.Go.OpenSpec.ofChange s with cond := some uptoSmall }

/-- 'parcenerlaw33.HolidayGives', WHERE WHAT IT READS IS OF BULK AT MOST 1048576: true; the input reads as it did. -/
def holidayGivesUptoRow : OpenClaim := { program := "ytipidlonidihbaa", sum := "e82f52ad944365a9343435caf0c3796024a1ea5bb84cd2d88cae9a00816de290", func := "parcener/parcenerlaw33.HolidayGives", spec := "holidayGives", unfollowed := true, recurses := true, apart := false, narrowed := true }
def HolidayGivesUptoSaid : Prop := holidayGivesUptoRow.holds Try.pinned (OpenSpec.upto holidayGivesSpec)

/-- 'parcenerlaw33.HolidaySums', WHERE WHAT IT READS IS OF BULK AT MOST 1048576: true; the input reads as it did. -/
def holidaySumsUptoRow : OpenClaim := { program := "ytipidlonidihbaa", sum := "e82f52ad944365a9343435caf0c3796024a1ea5bb84cd2d88cae9a00816de290", func := "parcener/parcenerlaw33.HolidaySums", spec := "holidaySums", unfollowed := true, recurses := true, apart := false, narrowed := true }
def HolidaySumsUptoSaid : Prop := holidaySumsUptoRow.holds Try.pinned (OpenSpec.upto holidaySumsSpec)

/-- 'parcenerlaw33.HolidayRanks', WHERE WHAT IT READS IS OF BULK AT MOST 1048576: true; the input reads as it did. -/
def holidayRanksUptoRow : OpenClaim := { program := "ytipidlonidihbaa", sum := "e82f52ad944365a9343435caf0c3796024a1ea5bb84cd2d88cae9a00816de290", func := "parcener/parcenerlaw33.HolidayRanks", spec := "holidayRanks", unfollowed := true, recurses := true, apart := false, narrowed := true }
def HolidayRanksUptoSaid : Prop := holidayRanksUptoRow.holds Try.pinned (OpenSpec.upto holidayRanksSpec)

/-- 'parcenerlaw33.HolidayMore', WHERE WHAT IT READS IS OF BULK AT MOST 1048576: true; the input reads as it did. -/
def holidayMoreUptoRow : OpenClaim := { program := "ytipidlonidihbaa", sum := "e82f52ad944365a9343435caf0c3796024a1ea5bb84cd2d88cae9a00816de290", func := "parcener/parcenerlaw33.HolidayMore", spec := "holidayMore", unfollowed := true, recurses := true, apart := false, narrowed := true }
def HolidayMoreUptoSaid : Prop := holidayMoreUptoRow.holds Try.pinned (OpenSpec.upto holidayMoreSpec)

/-- 'parcenerlaw33.HolidayRuns', WHERE WHAT IT READS IS OF BULK AT MOST 1048576: true; the input reads as it did. -/
def holidayRunsUptoRow : OpenClaim := { program := "ytipidlonidihbaa", sum := "e82f52ad944365a9343435caf0c3796024a1ea5bb84cd2d88cae9a00816de290", func := "parcener/parcenerlaw33.HolidayRuns", spec := "holidayRuns", unfollowed := true, recurses := true, apart := false, narrowed := true }
def HolidayRunsUptoSaid : Prop := holidayRunsUptoRow.holds Try.pinned (OpenSpec.upto holidayRunsSpec)

/-- 'parcenerlaw33.HolidayNames', WHERE WHAT IT READS IS OF BULK AT MOST 1048576: true; the input reads as it did. -/
def holidayNamesUptoRow : OpenClaim := { program := "ytipidlonidihbaa", sum := "e82f52ad944365a9343435caf0c3796024a1ea5bb84cd2d88cae9a00816de290", func := "parcener/parcenerlaw33.HolidayNames", spec := "holidayNames", unfollowed := true, recurses := true, apart := false, narrowed := true }
def HolidayNamesUptoSaid : Prop := holidayNamesUptoRow.holds Try.pinned (OpenSpec.upto holidayNamesSpec)

/-- 'parcenerlaw33.HolidayParts', WHERE WHAT IT READS IS OF BULK AT MOST 1048576: true; the input reads as it did. -/
def holidayPartsUptoRow : OpenClaim := { program := "ytipidlonidihbaa", sum := "e82f52ad944365a9343435caf0c3796024a1ea5bb84cd2d88cae9a00816de290", func := "parcener/parcenerlaw33.HolidayParts", spec := "holidayParts", unfollowed := true, recurses := true, apart := false, narrowed := true }
def HolidayPartsUptoSaid : Prop := holidayPartsUptoRow.holds Try.pinned (OpenSpec.upto holidayPartsSpec)

end Rows
end Go.Proofs.Ytipidlonidihbaa
