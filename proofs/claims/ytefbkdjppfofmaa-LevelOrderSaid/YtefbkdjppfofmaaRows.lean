/-
  No cell of these rows narrows 'for every input' (looked for: loops, veiled, ifaces, maps, wideKeys, modest, calm, conditions, laid).
  DERIVED. THE GIVEN ROWS OF THIS SEAT. 7 by the template 'for every input the law returns true; each argument reads behind the call as it read before'; 0 by the template 'total and deterministic' (their statements: YtefbkdjppfofmaaTotals.lean).
  GIVEN WITH THE SEED: the statements are not yours to turn. If you find one false, say at which input.
  Laid BY PROGRAM, IN A SANDBOX (cutbox-rows.mjs): the forced cells as the released guide's own fill.sh prints them over the translation f2b5ff0f85d1187a… (all of the seat's roots in one cut). By AI agents, Wed Nov 11 2026. No macro, syntax, notation, axiom, sorry.
-/
import Derived.Test.YtefbkdjppfofmaaChecked
import GoSem.Claim
import GoSem.ClaimJoined
import GoSem.ClaimMapViews
import Derived.JoinedTies
import Derived.KernelRfl
namespace Go.Proofs.Ytefbkdjppfofmaa
/- THE CELL 'sum', in the pinned program and in every row, IS THE sha256 OF THE DUMP (.gsa) THAT YtefbkdjppfofmaaProg.lean LOADS. Nothing in Lean hashes anything: it is a label: what it is worth is what the hold of that sum in a sandbox is worth. -/
noncomputable def Try.pinned : Pinned := { name := "ytefbkdjppfofmaa", sum := "f2b5ff0f85d1187aa41e00bebc7a2258afd30eea9fde309ffde0f26e716e552f", checked := Try.checked }
namespace Rows
def none {H : Type} : Left H := { results := [], args := [] }

/-- 'parcenerlaw26.LevelChains': WHATEVER THE INPUT: true; the input reads as it did. -/
def levelChainsSpec : ChangeSpec := { name := "levelChains", fn := fun _ => fun
  | [d1, d2, d3] => { results := [.lit (.bool true)], args := [d1, d2, d3] }
  | _ => none }
def levelChainsRow : OpenClaim := { program := "ytefbkdjppfofmaa", sum := "f2b5ff0f85d1187aa41e00bebc7a2258afd30eea9fde309ffde0f26e716e552f", func := "parcener/parcenerlaw26.LevelChains", spec := "levelChains", unfollowed := true, recurses := true, apart := false }
def LevelChainsSaid : Prop := levelChainsRow.holds Try.pinned (OpenSpec.ofChange levelChainsSpec)

/-- ITS FALSE NEIGHBOUR: 'it returns false'. Refute it at one input. -/
def levelChainsWrong : ChangeSpec := { name := "levelChains", fn := fun _ => fun
  | [d1, d2, d3] => { results := [.lit (.bool false)], args := [d1, d2, d3] }
  | _ => none }
def LevelChainsWrongFalsely : Prop := levelChainsRow.holds Try.pinned (OpenSpec.ofChange levelChainsWrong)

/-- 'parcenerlaw26.LevelLeast': WHATEVER THE INPUT: true; the input reads as it did. -/
def levelLeastSpec : ChangeSpec := { name := "levelLeast", fn := fun _ => fun
  | [d1, d2] => { results := [.lit (.bool true)], args := [d1, d2] }
  | _ => none }
def levelLeastRow : OpenClaim := { program := "ytefbkdjppfofmaa", sum := "f2b5ff0f85d1187aa41e00bebc7a2258afd30eea9fde309ffde0f26e716e552f", func := "parcener/parcenerlaw26.LevelLeast", spec := "levelLeast", unfollowed := true, recurses := true, apart := false }
def LevelLeastSaid : Prop := levelLeastRow.holds Try.pinned (OpenSpec.ofChange levelLeastSpec)

/-- ITS FALSE NEIGHBOUR: 'it returns false'. Refute it at one input. -/
def levelLeastWrong : ChangeSpec := { name := "levelLeast", fn := fun _ => fun
  | [d1, d2] => { results := [.lit (.bool false)], args := [d1, d2] }
  | _ => none }
def LevelLeastWrongFalsely : Prop := levelLeastRow.holds Try.pinned (OpenSpec.ofChange levelLeastWrong)

/-- 'parcenerlaw26.LevelFinds': WHATEVER THE INPUT: true; the input reads as it did. -/
def levelFindsSpec : ChangeSpec := { name := "levelFinds", fn := fun _ => fun
  | [d1, d2, d3] => { results := [.lit (.bool true)], args := [d1, d2, d3] }
  | _ => none }
def levelFindsRow : OpenClaim := { program := "ytefbkdjppfofmaa", sum := "f2b5ff0f85d1187aa41e00bebc7a2258afd30eea9fde309ffde0f26e716e552f", func := "parcener/parcenerlaw26.LevelFinds", spec := "levelFinds", unfollowed := true, recurses := true, apart := false }
def LevelFindsSaid : Prop := levelFindsRow.holds Try.pinned (OpenSpec.ofChange levelFindsSpec)

/-- ITS FALSE NEIGHBOUR: 'it returns false'. Refute it at one input. -/
def levelFindsWrong : ChangeSpec := { name := "levelFinds", fn := fun _ => fun
  | [d1, d2, d3] => { results := [.lit (.bool false)], args := [d1, d2, d3] }
  | _ => none }
def LevelFindsWrongFalsely : Prop := levelFindsRow.holds Try.pinned (OpenSpec.ofChange levelFindsWrong)

/-- 'parcenerlaw26.LevelExact': WHATEVER THE INPUT: true; the input reads as it did. -/
def levelExactSpec : ChangeSpec := { name := "levelExact", fn := fun _ => fun
  | [d1, d2] => { results := [.lit (.bool true)], args := [d1, d2] }
  | _ => none }
def levelExactRow : OpenClaim := { program := "ytefbkdjppfofmaa", sum := "f2b5ff0f85d1187aa41e00bebc7a2258afd30eea9fde309ffde0f26e716e552f", func := "parcener/parcenerlaw26.LevelExact", spec := "levelExact", unfollowed := true, recurses := true, apart := false }
def LevelExactSaid : Prop := levelExactRow.holds Try.pinned (OpenSpec.ofChange levelExactSpec)

/-- ITS FALSE NEIGHBOUR: 'it returns false'. Refute it at one input. -/
def levelExactWrong : ChangeSpec := { name := "levelExact", fn := fun _ => fun
  | [d1, d2] => { results := [.lit (.bool false)], args := [d1, d2] }
  | _ => none }
def LevelExactWrongFalsely : Prop := levelExactRow.holds Try.pinned (OpenSpec.ofChange levelExactWrong)

/-- 'parcenerlaw26.LevelOrder': WHATEVER THE INPUT: true; the input reads as it did. -/
def levelOrderSpec : ChangeSpec := { name := "levelOrder", fn := fun _ => fun
  | [d1, d2] => { results := [.lit (.bool true)], args := [d1, d2] }
  | _ => none }
def levelOrderRow : OpenClaim := { program := "ytefbkdjppfofmaa", sum := "f2b5ff0f85d1187aa41e00bebc7a2258afd30eea9fde309ffde0f26e716e552f", func := "parcener/parcenerlaw26.LevelOrder", spec := "levelOrder", unfollowed := true, recurses := true, apart := false }
def LevelOrderSaid : Prop := levelOrderRow.holds Try.pinned (OpenSpec.ofChange levelOrderSpec)

/-- ITS FALSE NEIGHBOUR: 'it returns false'. Refute it at one input. -/
def levelOrderWrong : ChangeSpec := { name := "levelOrder", fn := fun _ => fun
  | [d1, d2] => { results := [.lit (.bool false)], args := [d1, d2] }
  | _ => none }
def LevelOrderWrongFalsely : Prop := levelOrderRow.holds Try.pinned (OpenSpec.ofChange levelOrderWrong)

/-- 'parcenerlaw26.LevelNames': WHATEVER THE INPUT: true; the input reads as it did. -/
def levelNamesSpec : ChangeSpec := { name := "levelNames", fn := fun _ => fun
  | [] => { results := [.lit (.bool true)], args := [] }
  | _ => none }
def levelNamesRow : OpenClaim := { program := "ytefbkdjppfofmaa", sum := "f2b5ff0f85d1187aa41e00bebc7a2258afd30eea9fde309ffde0f26e716e552f", func := "parcener/parcenerlaw26.LevelNames", spec := "levelNames", unfollowed := true, recurses := true, apart := false }
def LevelNamesSaid : Prop := levelNamesRow.holds Try.pinned (OpenSpec.ofChange levelNamesSpec)

/-- ITS FALSE NEIGHBOUR: 'it returns false'. Refute it at one input. -/
def levelNamesWrong : ChangeSpec := { name := "levelNames", fn := fun _ => fun
  | [] => { results := [.lit (.bool false)], args := [] }
  | _ => none }
def LevelNamesWrongFalsely : Prop := levelNamesRow.holds Try.pinned (OpenSpec.ofChange levelNamesWrong)

/-- 'parcenerlaw26.LevelPasses': WHATEVER THE INPUT: true; the input reads as it did. -/
def levelPassesSpec : ChangeSpec := { name := "levelPasses", fn := fun _ => fun
  | [d1, d2] => { results := [.lit (.bool true)], args := [d1, d2] }
  | _ => none }
def levelPassesRow : OpenClaim := { program := "ytefbkdjppfofmaa", sum := "f2b5ff0f85d1187aa41e00bebc7a2258afd30eea9fde309ffde0f26e716e552f", func := "parcener/parcenerlaw26.LevelPasses", spec := "levelPasses", unfollowed := true, recurses := true, apart := false }
def LevelPassesSaid : Prop := levelPassesRow.holds Try.pinned (OpenSpec.ofChange levelPassesSpec)

/-- ITS FALSE NEIGHBOUR: 'it returns false'. Refute it at one input. -/
def levelPassesWrong : ChangeSpec := { name := "levelPasses", fn := fun _ => fun
  | [d1, d2] => { results := [.lit (.bool false)], args := [d1, d2] }
  | _ => none }
def LevelPassesWrongFalsely : Prop := levelPassesRow.holds Try.pinned (OpenSpec.ofChange levelPassesWrong)

/- THE SECOND FORM. 'bulk': how many values and letters a reading holds, each counted each time it is reached (what is shared counts as often as it is met; a slice's spare places count too). A statement '..UptoSaid' is the law's where the arguments, and the package variables that the reading takes, are together of bulk at most 1048576: NARROWER than '..Said'. Prove '..Said' where nothing that the law and all that it calls make is longer than what came in: it says more and counts as full. Else prove '..UptoSaid'. A law counts once. -/
mutual
def uptoBulk {H : Type} : DataW H → Nat
  | .lit (.string bytes) => bytes.length + 1
  | .lit _ => 1
  | .nil => 1
  | .ptr d => uptoBulk d + 1
  | .slice elems spare => uptoBulkAll elems + uptoBulkAll spare + 1
  | .agg parts => uptoBulkAll parts + 1
  | .iface _ d => uptoBulk d + 1
  | .map entries => uptoBulkEntries entries + 1
  | .held _ => 1
def uptoBulkAll {H : Type} : List (DataW H) → Nat
  | [] => 0
  | d :: r => uptoBulk d + uptoBulkAll r
def uptoBulkEntries {H : Type} : List (Lit × DataW H) → Nat
  | [] => 0
  | x :: r => uptoBulkEntry x + uptoBulkEntries r
def uptoBulkEntry {H : Type} : Lit × DataW H → Nat
  | (.string bytes, d) => bytes.length + uptoBulk d + 1
  | (_, d) => uptoBulk d + 1
 end
def uptoSmall : (H : Type) → List (DataW H) → Bool := fun _ ds => decide (uptoBulkAll ds ≤ 1048576)
def OpenSpec.upto (s : _root_.Go.ChangeSpec) : _root_.Go.OpenSpec := { _root_.Go.OpenSpec.ofChange s with cond := some uptoSmall }

/-- 'parcenerlaw26.LevelChains', WHERE WHAT IT READS IS OF BULK AT MOST 1048576: true; the input reads as it did. -/
def levelChainsUptoRow : OpenClaim := { program := "ytefbkdjppfofmaa", sum := "f2b5ff0f85d1187aa41e00bebc7a2258afd30eea9fde309ffde0f26e716e552f", func := "parcener/parcenerlaw26.LevelChains", spec := "levelChains", unfollowed := true, recurses := true, apart := false, narrowed := true }
def LevelChainsUptoSaid : Prop := levelChainsUptoRow.holds Try.pinned (OpenSpec.upto levelChainsSpec)

/-- 'parcenerlaw26.LevelLeast', WHERE WHAT IT READS IS OF BULK AT MOST 1048576: true; the input reads as it did. -/
def levelLeastUptoRow : OpenClaim := { program := "ytefbkdjppfofmaa", sum := "f2b5ff0f85d1187aa41e00bebc7a2258afd30eea9fde309ffde0f26e716e552f", func := "parcener/parcenerlaw26.LevelLeast", spec := "levelLeast", unfollowed := true, recurses := true, apart := false, narrowed := true }
def LevelLeastUptoSaid : Prop := levelLeastUptoRow.holds Try.pinned (OpenSpec.upto levelLeastSpec)

/-- 'parcenerlaw26.LevelFinds', WHERE WHAT IT READS IS OF BULK AT MOST 1048576: true; the input reads as it did. -/
def levelFindsUptoRow : OpenClaim := { program := "ytefbkdjppfofmaa", sum := "f2b5ff0f85d1187aa41e00bebc7a2258afd30eea9fde309ffde0f26e716e552f", func := "parcener/parcenerlaw26.LevelFinds", spec := "levelFinds", unfollowed := true, recurses := true, apart := false, narrowed := true }
def LevelFindsUptoSaid : Prop := levelFindsUptoRow.holds Try.pinned (OpenSpec.upto levelFindsSpec)

/-- 'parcenerlaw26.LevelExact', WHERE WHAT IT READS IS OF BULK AT MOST 1048576: true; the input reads as it did. -/
def levelExactUptoRow : OpenClaim := { program := "ytefbkdjppfofmaa", sum := "f2b5ff0f85d1187aa41e00bebc7a2258afd30eea9fde309ffde0f26e716e552f", func := "parcener/parcenerlaw26.LevelExact", spec := "levelExact", unfollowed := true, recurses := true, apart := false, narrowed := true }
def LevelExactUptoSaid : Prop := levelExactUptoRow.holds Try.pinned (OpenSpec.upto levelExactSpec)

/-- 'parcenerlaw26.LevelOrder', WHERE WHAT IT READS IS OF BULK AT MOST 1048576: true; the input reads as it did. -/
def levelOrderUptoRow : OpenClaim := { program := "ytefbkdjppfofmaa", sum := "f2b5ff0f85d1187aa41e00bebc7a2258afd30eea9fde309ffde0f26e716e552f", func := "parcener/parcenerlaw26.LevelOrder", spec := "levelOrder", unfollowed := true, recurses := true, apart := false, narrowed := true }
def LevelOrderUptoSaid : Prop := levelOrderUptoRow.holds Try.pinned (OpenSpec.upto levelOrderSpec)

/-- 'parcenerlaw26.LevelNames', WHERE WHAT IT READS IS OF BULK AT MOST 1048576: true; the input reads as it did. -/
def levelNamesUptoRow : OpenClaim := { program := "ytefbkdjppfofmaa", sum := "f2b5ff0f85d1187aa41e00bebc7a2258afd30eea9fde309ffde0f26e716e552f", func := "parcener/parcenerlaw26.LevelNames", spec := "levelNames", unfollowed := true, recurses := true, apart := false, narrowed := true }
def LevelNamesUptoSaid : Prop := levelNamesUptoRow.holds Try.pinned (OpenSpec.upto levelNamesSpec)

/-- 'parcenerlaw26.LevelPasses', WHERE WHAT IT READS IS OF BULK AT MOST 1048576: true; the input reads as it did. -/
def levelPassesUptoRow : OpenClaim := { program := "ytefbkdjppfofmaa", sum := "f2b5ff0f85d1187aa41e00bebc7a2258afd30eea9fde309ffde0f26e716e552f", func := "parcener/parcenerlaw26.LevelPasses", spec := "levelPasses", unfollowed := true, recurses := true, apart := false, narrowed := true }
def LevelPassesUptoSaid : Prop := levelPassesUptoRow.holds Try.pinned (OpenSpec.upto levelPassesSpec)

end Rows
end Go.Proofs.Ytefbkdjppfofmaa
