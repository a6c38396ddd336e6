/-
  No cell of these rows narrows 'for every input' (looked for: loops, veiled, ifaces, maps, wideKeys, modest, calm, conditions, laid).
  DERIVED. THE GIVEN ROWS OF THIS SEAT. 8 by the template 'for every input the law returns true; each argument reads behind the call as it read before'; 0 by the template 'total and deterministic' (their statements: YtjgobpejifhphaaTotals.lean).
  GIVEN WITH THE SEED: the statements are not yours to turn. If you find one false, say at which input.
  Laid BY PROGRAM, IN A SANDBOX (cutbox-rows.mjs): the forced cells as the released guide's own fill.sh prints them over the translation 70a37047817d1455… (all of the seat's roots in one cut). By AI agents, Wed Nov 11 2026. No macro, syntax, notation, axiom, sorry.
-/
import Derived.Test.YtjgobpejifhphaaChecked
import GoSem.Claim
import GoSem.ClaimJoined
import GoSem.ClaimMapViews
import Derived.JoinedTies
import Derived.KernelRfl
namespace Go.Proofs.Ytjgobpejifhphaa
/- THE CELL 'sum', in the pinned program and in every row, IS THE sha256 OF THE DUMP (.gsa) THAT YtjgobpejifhphaaProg.lean LOADS. Nothing in Lean hashes anything: it is a label: what it is worth is what the hold of that sum in a sandbox is worth. -/
noncomputable def Try.pinned : Pinned := { name := "ytjgobpejifhphaa", sum := "70a37047817d14550524f5295036d078f00f5a87ac2c1258eee9658a9c1b8e13", checked := Try.checked }
namespace Rows
def none {H : Type} : Left H := { results := [], args := [] }

/-- 'parcenerlaw35.LieOffers': WHATEVER THE INPUT: true; the input reads as it did. -/
def lieOffersSpec : ChangeSpec := { name := "lieOffers", fn := fun _ => fun
  | [d1, d2, d3, d4, d5, d6] => { results := [.lit (.bool true)], args := [d1, d2, d3, d4, d5, d6] }
  | _ => none }
def lieOffersRow : OpenClaim := { program := "ytjgobpejifhphaa", sum := "70a37047817d14550524f5295036d078f00f5a87ac2c1258eee9658a9c1b8e13", func := "parcener/parcenerlaw35.LieOffers", spec := "lieOffers", unfollowed := true, recurses := true, apart := false }
def LieOffersSaid : Prop := lieOffersRow.holds Try.pinned (OpenSpec.ofChange lieOffersSpec)

/-- ITS FALSE NEIGHBOUR: 'it returns false'. Refute it at one input. -/
def lieOffersWrong : ChangeSpec := { name := "lieOffers", fn := fun _ => fun
  | [d1, d2, d3, d4, d5, d6] => { results := [.lit (.bool false)], args := [d1, d2, d3, d4, d5, d6] }
  | _ => none }
def LieOffersWrongFalsely : Prop := lieOffersRow.holds Try.pinned (OpenSpec.ofChange lieOffersWrong)

/-- 'parcenerlaw35.LieBest': WHATEVER THE INPUT: true; the input reads as it did. -/
def lieBestSpec : ChangeSpec := { name := "lieBest", fn := fun _ => fun
  | [d1, d2, d3, d4, d5, d6, d7, d8, d9, d10] => { results := [.lit (.bool true)], args := [d1, d2, d3, d4, d5, d6, d7, d8, d9, d10] }
  | _ => none }
def lieBestRow : OpenClaim := { program := "ytjgobpejifhphaa", sum := "70a37047817d14550524f5295036d078f00f5a87ac2c1258eee9658a9c1b8e13", func := "parcener/parcenerlaw35.LieBest", spec := "lieBest", unfollowed := true, recurses := true, apart := false }
def LieBestSaid : Prop := lieBestRow.holds Try.pinned (OpenSpec.ofChange lieBestSpec)

/-- ITS FALSE NEIGHBOUR: 'it returns false'. Refute it at one input. -/
def lieBestWrong : ChangeSpec := { name := "lieBest", fn := fun _ => fun
  | [d1, d2, d3, d4, d5, d6, d7, d8, d9, d10] => { results := [.lit (.bool false)], args := [d1, d2, d3, d4, d5, d6, d7, d8, d9, d10] }
  | _ => none }
def LieBestWrongFalsely : Prop := lieBestRow.holds Try.pinned (OpenSpec.ofChange lieBestWrong)

/-- 'parcenerlaw35.LiePicks': WHATEVER THE INPUT: true; the input reads as it did. -/
def liePicksSpec : ChangeSpec := { name := "liePicks", fn := fun _ => fun
  | [d1, d2] => { results := [.lit (.bool true)], args := [d1, d2] }
  | _ => none }
def liePicksRow : OpenClaim := { program := "ytjgobpejifhphaa", sum := "70a37047817d14550524f5295036d078f00f5a87ac2c1258eee9658a9c1b8e13", func := "parcener/parcenerlaw35.LiePicks", spec := "liePicks", unfollowed := true, recurses := true, apart := false }
def LiePicksSaid : Prop := liePicksRow.holds Try.pinned (OpenSpec.ofChange liePicksSpec)

/-- ITS FALSE NEIGHBOUR: 'it returns false'. Refute it at one input. -/
def liePicksWrong : ChangeSpec := { name := "liePicks", fn := fun _ => fun
  | [d1, d2] => { results := [.lit (.bool false)], args := [d1, d2] }
  | _ => none }
def LiePicksWrongFalsely : Prop := liePicksRow.holds Try.pinned (OpenSpec.ofChange liePicksWrong)

/-- 'parcenerlaw35.LieBids': WHATEVER THE INPUT: true; the input reads as it did. -/
def lieBidsSpec : ChangeSpec := { name := "lieBids", fn := fun _ => fun
  | [d1, d2, d3, d4, d5, d6] => { results := [.lit (.bool true)], args := [d1, d2, d3, d4, d5, d6] }
  | _ => none }
def lieBidsRow : OpenClaim := { program := "ytjgobpejifhphaa", sum := "70a37047817d14550524f5295036d078f00f5a87ac2c1258eee9658a9c1b8e13", func := "parcener/parcenerlaw35.LieBids", spec := "lieBids", unfollowed := true, recurses := true, apart := false }
def LieBidsSaid : Prop := lieBidsRow.holds Try.pinned (OpenSpec.ofChange lieBidsSpec)

/-- ITS FALSE NEIGHBOUR: 'it returns false'. Refute it at one input. -/
def lieBidsWrong : ChangeSpec := { name := "lieBids", fn := fun _ => fun
  | [d1, d2, d3, d4, d5, d6] => { results := [.lit (.bool false)], args := [d1, d2, d3, d4, d5, d6] }
  | _ => none }
def LieBidsWrongFalsely : Prop := lieBidsRow.holds Try.pinned (OpenSpec.ofChange lieBidsWrong)

/-- 'parcenerlaw35.LieLists': WHATEVER THE INPUT: true; the input reads as it did. -/
def lieListsSpec : ChangeSpec := { name := "lieLists", fn := fun _ => fun
  | [d1, d2, d3, d4] => { results := [.lit (.bool true)], args := [d1, d2, d3, d4] }
  | _ => none }
def lieListsRow : OpenClaim := { program := "ytjgobpejifhphaa", sum := "70a37047817d14550524f5295036d078f00f5a87ac2c1258eee9658a9c1b8e13", func := "parcener/parcenerlaw35.LieLists", spec := "lieLists", unfollowed := true, recurses := true, apart := false }
def LieListsSaid : Prop := lieListsRow.holds Try.pinned (OpenSpec.ofChange lieListsSpec)

/-- ITS FALSE NEIGHBOUR: 'it returns false'. Refute it at one input. -/
def lieListsWrong : ChangeSpec := { name := "lieLists", fn := fun _ => fun
  | [d1, d2, d3, d4] => { results := [.lit (.bool false)], args := [d1, d2, d3, d4] }
  | _ => none }
def LieListsWrongFalsely : Prop := lieListsRow.holds Try.pinned (OpenSpec.ofChange lieListsWrong)

/-- 'parcenerlaw35.LieTruth': WHATEVER THE INPUT: true; the input reads as it did. -/
def lieTruthSpec : ChangeSpec := { name := "lieTruth", fn := fun _ => fun
  | [d1, d2, d3, d4] => { results := [.lit (.bool true)], args := [d1, d2, d3, d4] }
  | _ => none }
def lieTruthRow : OpenClaim := { program := "ytjgobpejifhphaa", sum := "70a37047817d14550524f5295036d078f00f5a87ac2c1258eee9658a9c1b8e13", func := "parcener/parcenerlaw35.LieTruth", spec := "lieTruth", unfollowed := true, recurses := true, apart := false }
def LieTruthSaid : Prop := lieTruthRow.holds Try.pinned (OpenSpec.ofChange lieTruthSpec)

/-- ITS FALSE NEIGHBOUR: 'it returns false'. Refute it at one input. -/
def lieTruthWrong : ChangeSpec := { name := "lieTruth", fn := fun _ => fun
  | [d1, d2, d3, d4] => { results := [.lit (.bool false)], args := [d1, d2, d3, d4] }
  | _ => none }
def LieTruthWrongFalsely : Prop := lieTruthRow.holds Try.pinned (OpenSpec.ofChange lieTruthWrong)

/-- 'parcenerlaw35.LieHolidays': WHATEVER THE INPUT: true; the input reads as it did. -/
def lieHolidaysSpec : ChangeSpec := { name := "lieHolidays", fn := fun _ => fun
  | [d1, d2, d3, d4, d5, d6] => { results := [.lit (.bool true)], args := [d1, d2, d3, d4, d5, d6] }
  | _ => none }
def lieHolidaysRow : OpenClaim := { program := "ytjgobpejifhphaa", sum := "70a37047817d14550524f5295036d078f00f5a87ac2c1258eee9658a9c1b8e13", func := "parcener/parcenerlaw35.LieHolidays", spec := "lieHolidays", unfollowed := true, recurses := true, apart := false }
def LieHolidaysSaid : Prop := lieHolidaysRow.holds Try.pinned (OpenSpec.ofChange lieHolidaysSpec)

/-- ITS FALSE NEIGHBOUR: 'it returns false'. Refute it at one input. -/
def lieHolidaysWrong : ChangeSpec := { name := "lieHolidays", fn := fun _ => fun
  | [d1, d2, d3, d4, d5, d6] => { results := [.lit (.bool false)], args := [d1, d2, d3, d4, d5, d6] }
  | _ => none }
def LieHolidaysWrongFalsely : Prop := lieHolidaysRow.holds Try.pinned (OpenSpec.ofChange lieHolidaysWrong)

/-- 'parcenerlaw35.LieNames': WHATEVER THE INPUT: true; the input reads as it did. -/
def lieNamesSpec : ChangeSpec := { name := "lieNames", fn := fun _ => fun
  | [] => { results := [.lit (.bool true)], args := [] }
  | _ => none }
def lieNamesRow : OpenClaim := { program := "ytjgobpejifhphaa", sum := "70a37047817d14550524f5295036d078f00f5a87ac2c1258eee9658a9c1b8e13", func := "parcener/parcenerlaw35.LieNames", spec := "lieNames", unfollowed := true, recurses := true, apart := false }
def LieNamesSaid : Prop := lieNamesRow.holds Try.pinned (OpenSpec.ofChange lieNamesSpec)

/-- ITS FALSE NEIGHBOUR: 'it returns false'. Refute it at one input. -/
def lieNamesWrong : ChangeSpec := { name := "lieNames", fn := fun _ => fun
  | [] => { results := [.lit (.bool false)], args := [] }
  | _ => none }
def LieNamesWrongFalsely : Prop := lieNamesRow.holds Try.pinned (OpenSpec.ofChange lieNamesWrong)

/- THE SECOND FORM. 'bulk': how many values and letters a reading holds, each counted each time it is reached (what is shared counts as often as it is met; a slice's spare places count too). A statement '..UptoSaid' is the law's where the arguments, and the package variables that the reading takes, are together of bulk at most 1048576: NARROWER than '..Said'. Prove '..Said' where nothing that the law and all that it calls make is longer than what came in: it says more and counts as full. Else prove '..UptoSaid'. A law counts once. -/
mutual
def uptoBulk {H : Type} : DataW H → Nat
  | .lit (.string bytes) => bytes.length + 1
  | .lit _ => 1
  | .nil => 1
  | .ptr d => uptoBulk d + 1
  | .slice elems spare => uptoBulkAll elems + uptoBulkAll spare + 1
  | .agg parts => uptoBulkAll parts + 1
  | .iface _ d => uptoBulk d + 1
  | .map entries => uptoBulkEntries entries + 1
  | .held _ => 1
def uptoBulkAll {H : Type} : List (DataW H) → Nat
  | [] => 0
  | d :: r => uptoBulk d + uptoBulkAll r
def uptoBulkEntries {H : Type} : List (Lit × DataW H) → Nat
  | [] => 0
  | x :: r => uptoBulkEntry x + uptoBulkEntries r
def uptoBulkEntry {H : Type} : Lit × DataW H → Nat
  | (.string bytes, d) => bytes.length + uptoBulk d + 1
  | (_, d) => uptoBulk d + 1
 end
def uptoSmall : (H : Type) → List (DataW H) → Bool := fun _ ds => decide (uptoBulkAll ds ≤ 1048576)
def OpenSpec.upto (s : _root_.Go.ChangeSpec) : _root_.Go.OpenSpec := { _root_.Go.OpenSpec.ofChange s with cond := some uptoSmall }

/-- 'parcenerlaw35.LieOffers', WHERE WHAT IT READS IS OF BULK AT MOST 1048576: true; the input reads as it did. -/
def lieOffersUptoRow : OpenClaim := { program := "ytjgobpejifhphaa", sum := "70a37047817d14550524f5295036d078f00f5a87ac2c1258eee9658a9c1b8e13", func := "parcener/parcenerlaw35.LieOffers", spec := "lieOffers", unfollowed := true, recurses := true, apart := false, narrowed := true }
def LieOffersUptoSaid : Prop := lieOffersUptoRow.holds Try.pinned (OpenSpec.upto lieOffersSpec)

/-- 'parcenerlaw35.LieBest', WHERE WHAT IT READS IS OF BULK AT MOST 1048576: true; the input reads as it did. -/
def lieBestUptoRow : OpenClaim := { program := "ytjgobpejifhphaa", sum := "70a37047817d14550524f5295036d078f00f5a87ac2c1258eee9658a9c1b8e13", func := "parcener/parcenerlaw35.LieBest", spec := "lieBest", unfollowed := true, recurses := true, apart := false, narrowed := true }
def LieBestUptoSaid : Prop := lieBestUptoRow.holds Try.pinned (OpenSpec.upto lieBestSpec)

/-- 'parcenerlaw35.LiePicks', WHERE WHAT IT READS IS OF BULK AT MOST 1048576: true; the input reads as it did. -/
def liePicksUptoRow : OpenClaim := { program := "ytjgobpejifhphaa", sum := "70a37047817d14550524f5295036d078f00f5a87ac2c1258eee9658a9c1b8e13", func := "parcener/parcenerlaw35.LiePicks", spec := "liePicks", unfollowed := true, recurses := true, apart := false, narrowed := true }
def LiePicksUptoSaid : Prop := liePicksUptoRow.holds Try.pinned (OpenSpec.upto liePicksSpec)

/-- 'parcenerlaw35.LieBids', WHERE WHAT IT READS IS OF BULK AT MOST 1048576: true; the input reads as it did. -/
def lieBidsUptoRow : OpenClaim := { program := "ytjgobpejifhphaa", sum := "70a37047817d14550524f5295036d078f00f5a87ac2c1258eee9658a9c1b8e13", func := "parcener/parcenerlaw35.LieBids", spec := "lieBids", unfollowed := true, recurses := true, apart := false, narrowed := true }
def LieBidsUptoSaid : Prop := lieBidsUptoRow.holds Try.pinned (OpenSpec.upto lieBidsSpec)

/-- 'parcenerlaw35.LieLists', WHERE WHAT IT READS IS OF BULK AT MOST 1048576: true; the input reads as it did. -/
def lieListsUptoRow : OpenClaim := { program := "ytjgobpejifhphaa", sum := "70a37047817d14550524f5295036d078f00f5a87ac2c1258eee9658a9c1b8e13", func := "parcener/parcenerlaw35.LieLists", spec := "lieLists", unfollowed := true, recurses := true, apart := false, narrowed := true }
def LieListsUptoSaid : Prop := lieListsUptoRow.holds Try.pinned (OpenSpec.upto lieListsSpec)

/-- 'parcenerlaw35.LieTruth', WHERE WHAT IT READS IS OF BULK AT MOST 1048576: true; the input reads as it did. -/
def lieTruthUptoRow : OpenClaim := { program := "ytjgobpejifhphaa", sum := "70a37047817d14550524f5295036d078f00f5a87ac2c1258eee9658a9c1b8e13", func := "parcener/parcenerlaw35.LieTruth", spec := "lieTruth", unfollowed := true, recurses := true, apart := false, narrowed := true }
def LieTruthUptoSaid : Prop := lieTruthUptoRow.holds Try.pinned (OpenSpec.upto lieTruthSpec)

/-- 'parcenerlaw35.LieHolidays', WHERE WHAT IT READS IS OF BULK AT MOST 1048576: true; the input reads as it did. -/
def lieHolidaysUptoRow : OpenClaim := { program := "ytjgobpejifhphaa", sum := "70a37047817d14550524f5295036d078f00f5a87ac2c1258eee9658a9c1b8e13", func := "parcener/parcenerlaw35.LieHolidays", spec := "lieHolidays", unfollowed := true, recurses := true, apart := false, narrowed := true }
def LieHolidaysUptoSaid : Prop := lieHolidaysUptoRow.holds Try.pinned (OpenSpec.upto lieHolidaysSpec)

/-- 'parcenerlaw35.LieNames', WHERE WHAT IT READS IS OF BULK AT MOST 1048576: true; the input reads as it did. -/
def lieNamesUptoRow : OpenClaim := { program := "ytjgobpejifhphaa", sum := "70a37047817d14550524f5295036d078f00f5a87ac2c1258eee9658a9c1b8e13", func := "parcener/parcenerlaw35.LieNames", spec := "lieNames", unfollowed := true, recurses := true, apart := false, narrowed := true }
def LieNamesUptoSaid : Prop := lieNamesUptoRow.holds Try.pinned (OpenSpec.upto lieNamesSpec)

end Rows
end Go.Proofs.Ytjgobpejifhphaa
