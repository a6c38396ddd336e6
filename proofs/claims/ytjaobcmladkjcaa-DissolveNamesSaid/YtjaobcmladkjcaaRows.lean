/-
  No cell of these rows narrows 'for every input' (looked for: loops, veiled, ifaces, maps, wideKeys, modest, calm, conditions, laid).
  DERIVED. THE GIVEN ROWS OF THIS SEAT. 7 by the template 'for every input the law returns true; each argument reads behind the call as it read before'; 0 by the template 'total and deterministic' (their statements: YtjaobcmladkjcaaTotals.lean).
  GIVEN WITH THE SEED: the statements are not yours to turn. If you find one false, say at which input.
  Laid BY PROGRAM, IN A SANDBOX (cutbox-rows.mjs): the forced cells as the released guide's own fill.sh prints them over the translation d39049561fbaa43e… (all of the seat's roots in one cut). By AI agents, Wed Nov 11 2026. No macro, syntax, notation, axiom, sorry.
-/
import Derived.Test.YtjaobcmladkjcaaChecked
import GoSem.Claim
import GoSem.ClaimJoined
import GoSem.ClaimMapViews
import Derived.JoinedTies
import Derived.KernelRfl
namespace Go.Proofs.Ytjaobcmladkjcaa
/- THE CELL 'sum', in the pinned program and in every row, IS THE sha256 OF THE DUMP (.gsa) THAT YtjaobcmladkjcaaProg.lean LOADS. Nothing in Lean hashes anything: it is a label: what it is worth is what the hold of that sum in a sandbox is worth. -/
noncomputable def Try.pinned : Pinned := { name := "ytjaobcmladkjcaa", sum := "d39049561fbaa43ed2098c64a84f7ccd61c67b456adc76f19c9cdeeac632c1f3", checked := Try.checked }
namespace Rows
def none {H : Type} : Left H := { results := [], args := [] }

/-- 'parcenerlaw34.DissolvePays': WHATEVER THE INPUT: true; the input reads as it did. -/
def dissolvePaysSpec : ChangeSpec := { name := "dissolvePays", fn := fun _ => fun
  | [d1, d2, d3] => { results := [.lit (.bool true)], args := [d1, d2, d3] }
  | _ => none }
def dissolvePaysRow : OpenClaim := { program := "ytjaobcmladkjcaa", sum := "d39049561fbaa43ed2098c64a84f7ccd61c67b456adc76f19c9cdeeac632c1f3", func := "parcener/parcenerlaw34.DissolvePays", spec := "dissolvePays", unfollowed := true, recurses := true, apart := false }
def DissolvePaysSaid : Prop := dissolvePaysRow.holds Try.pinned (OpenSpec.ofChange dissolvePaysSpec)

/-- ITS FALSE NEIGHBOUR: 'it returns false'. Refute it at one input. -/
def dissolvePaysWrong : ChangeSpec := { name := "dissolvePays", fn := fun _ => fun
  | [d1, d2, d3] => { results := [.lit (.bool false)], args := [d1, d2, d3] }
  | _ => none }
def DissolvePaysWrongFalsely : Prop := dissolvePaysRow.holds Try.pinned (OpenSpec.ofChange dissolvePaysWrong)

/-- 'parcenerlaw34.DissolveSafe': WHATEVER THE INPUT: true; the input reads as it did. -/
def dissolveSafeSpec : ChangeSpec := { name := "dissolveSafe", fn := fun _ => fun
  | [d1, d2, d3] => { results := [.lit (.bool true)], args := [d1, d2, d3] }
  | _ => none }
def dissolveSafeRow : OpenClaim := { program := "ytjaobcmladkjcaa", sum := "d39049561fbaa43ed2098c64a84f7ccd61c67b456adc76f19c9cdeeac632c1f3", func := "parcener/parcenerlaw34.DissolveSafe", spec := "dissolveSafe", unfollowed := true, recurses := true, apart := false }
def DissolveSafeSaid : Prop := dissolveSafeRow.holds Try.pinned (OpenSpec.ofChange dissolveSafeSpec)

/-- ITS FALSE NEIGHBOUR: 'it returns false'. Refute it at one input. -/
def dissolveSafeWrong : ChangeSpec := { name := "dissolveSafe", fn := fun _ => fun
  | [d1, d2, d3] => { results := [.lit (.bool false)], args := [d1, d2, d3] }
  | _ => none }
def DissolveSafeWrongFalsely : Prop := dissolveSafeRow.holds Try.pinned (OpenSpec.ofChange dissolveSafeWrong)

/-- 'parcenerlaw34.DissolveTrue': WHATEVER THE INPUT: true; the input reads as it did. -/
def dissolveTrueSpec : ChangeSpec := { name := "dissolveTrue", fn := fun _ => fun
  | [d1, d2, d3] => { results := [.lit (.bool true)], args := [d1, d2, d3] }
  | _ => none }
def dissolveTrueRow : OpenClaim := { program := "ytjaobcmladkjcaa", sum := "d39049561fbaa43ed2098c64a84f7ccd61c67b456adc76f19c9cdeeac632c1f3", func := "parcener/parcenerlaw34.DissolveTrue", spec := "dissolveTrue", unfollowed := true, recurses := true, apart := false }
def DissolveTrueSaid : Prop := dissolveTrueRow.holds Try.pinned (OpenSpec.ofChange dissolveTrueSpec)

/-- ITS FALSE NEIGHBOUR: 'it returns false'. Refute it at one input. -/
def dissolveTrueWrong : ChangeSpec := { name := "dissolveTrue", fn := fun _ => fun
  | [d1, d2, d3] => { results := [.lit (.bool false)], args := [d1, d2, d3] }
  | _ => none }
def DissolveTrueWrongFalsely : Prop := dissolveTrueRow.holds Try.pinned (OpenSpec.ofChange dissolveTrueWrong)

/-- 'parcenerlaw34.DissolvePrices': WHATEVER THE INPUT: true; the input reads as it did. -/
def dissolvePricesSpec : ChangeSpec := { name := "dissolvePrices", fn := fun _ => fun
  | [d1, d2] => { results := [.lit (.bool true)], args := [d1, d2] }
  | _ => none }
def dissolvePricesRow : OpenClaim := { program := "ytjaobcmladkjcaa", sum := "d39049561fbaa43ed2098c64a84f7ccd61c67b456adc76f19c9cdeeac632c1f3", func := "parcener/parcenerlaw34.DissolvePrices", spec := "dissolvePrices", unfollowed := true, recurses := true, apart := false }
def DissolvePricesSaid : Prop := dissolvePricesRow.holds Try.pinned (OpenSpec.ofChange dissolvePricesSpec)

/-- ITS FALSE NEIGHBOUR: 'it returns false'. Refute it at one input. -/
def dissolvePricesWrong : ChangeSpec := { name := "dissolvePrices", fn := fun _ => fun
  | [d1, d2] => { results := [.lit (.bool false)], args := [d1, d2] }
  | _ => none }
def DissolvePricesWrongFalsely : Prop := dissolvePricesRow.holds Try.pinned (OpenSpec.ofChange dissolvePricesWrong)

/-- 'parcenerlaw34.DissolveGains': WHATEVER THE INPUT: true; the input reads as it did. -/
def dissolveGainsSpec : ChangeSpec := { name := "dissolveGains", fn := fun _ => fun
  | [d1, d2, d3, d4, d5, d6] => { results := [.lit (.bool true)], args := [d1, d2, d3, d4, d5, d6] }
  | _ => none }
def dissolveGainsRow : OpenClaim := { program := "ytjaobcmladkjcaa", sum := "d39049561fbaa43ed2098c64a84f7ccd61c67b456adc76f19c9cdeeac632c1f3", func := "parcener/parcenerlaw34.DissolveGains", spec := "dissolveGains", unfollowed := true, recurses := true, apart := false }
def DissolveGainsSaid : Prop := dissolveGainsRow.holds Try.pinned (OpenSpec.ofChange dissolveGainsSpec)

/-- ITS FALSE NEIGHBOUR: 'it returns false'. Refute it at one input. -/
def dissolveGainsWrong : ChangeSpec := { name := "dissolveGains", fn := fun _ => fun
  | [d1, d2, d3, d4, d5, d6] => { results := [.lit (.bool false)], args := [d1, d2, d3, d4, d5, d6] }
  | _ => none }
def DissolveGainsWrongFalsely : Prop := dissolveGainsRow.holds Try.pinned (OpenSpec.ofChange dissolveGainsWrong)

/-- 'parcenerlaw34.DissolveNames': WHATEVER THE INPUT: true; the input reads as it did. -/
def dissolveNamesSpec : ChangeSpec := { name := "dissolveNames", fn := fun _ => fun
  | [] => { results := [.lit (.bool true)], args := [] }
  | _ => none }
def dissolveNamesRow : OpenClaim := { program := "ytjaobcmladkjcaa", sum := "d39049561fbaa43ed2098c64a84f7ccd61c67b456adc76f19c9cdeeac632c1f3", func := "parcener/parcenerlaw34.DissolveNames", spec := "dissolveNames", unfollowed := true, recurses := true, apart := false }
def DissolveNamesSaid : Prop := dissolveNamesRow.holds Try.pinned (OpenSpec.ofChange dissolveNamesSpec)

/-- ITS FALSE NEIGHBOUR: 'it returns false'. Refute it at one input. -/
def dissolveNamesWrong : ChangeSpec := { name := "dissolveNames", fn := fun _ => fun
  | [] => { results := [.lit (.bool false)], args := [] }
  | _ => none }
def DissolveNamesWrongFalsely : Prop := dissolveNamesRow.holds Try.pinned (OpenSpec.ofChange dissolveNamesWrong)

/-- 'parcenerlaw34.DissolveShoots': WHATEVER THE INPUT: true; the input reads as it did. -/
def dissolveShootsSpec : ChangeSpec := { name := "dissolveShoots", fn := fun _ => fun
  | [d1, d2, d3, d4] => { results := [.lit (.bool true)], args := [d1, d2, d3, d4] }
  | _ => none }
def dissolveShootsRow : OpenClaim := { program := "ytjaobcmladkjcaa", sum := "d39049561fbaa43ed2098c64a84f7ccd61c67b456adc76f19c9cdeeac632c1f3", func := "parcener/parcenerlaw34.DissolveShoots", spec := "dissolveShoots", unfollowed := true, recurses := true, apart := false }
def DissolveShootsSaid : Prop := dissolveShootsRow.holds Try.pinned (OpenSpec.ofChange dissolveShootsSpec)

/-- ITS FALSE NEIGHBOUR: 'it returns false'. Refute it at one input. -/
def dissolveShootsWrong : ChangeSpec := { name := "dissolveShoots", fn := fun _ => fun
  | [d1, d2, d3, d4] => { results := [.lit (.bool false)], args := [d1, d2, d3, d4] }
  | _ => none }
def DissolveShootsWrongFalsely : Prop := dissolveShootsRow.holds Try.pinned (OpenSpec.ofChange dissolveShootsWrong)

/- THE SECOND FORM. 'bulk': how many values and letters a reading holds, each counted each time it is reached (what is shared counts as often as it is met; a slice's spare places count too). A statement '..UptoSaid' is the law's where the arguments, and the package variables that the reading takes, are together of bulk at most 1048576: NARROWER than '..Said'. Prove '..Said' where nothing that the law and all that it calls make is longer than what came in: it says more and counts as full. Else prove '..UptoSaid'. A law counts once. -/
mutual
def uptoBulk {H : Type} : DataW H → Nat
  | .lit (.string bytes) => bytes.length + 1
  | .lit _ => 1
  | .nil => 1
  | .ptr d => uptoBulk d + 1
  | .slice elems spare => uptoBulkAll elems + uptoBulkAll spare + 1
  | .agg parts => uptoBulkAll parts + 1
  | .iface _ d => uptoBulk d + 1
  | .map entries => uptoBulkEntries entries + 1
  | .held _ => 1
def uptoBulkAll {H : Type} : List (DataW H) → Nat
  | [] => 0
  | d :: r => uptoBulk d + uptoBulkAll r
def uptoBulkEntries {H : Type} : List (Lit × DataW H) → Nat
  | [] => 0
  | x :: r => uptoBulkEntry x + uptoBulkEntries r
def uptoBulkEntry {H : Type} : Lit × DataW H → Nat
  | (.string bytes, d) => bytes.length + uptoBulk d + 1
  | (_, d) => uptoBulk d + 1
 end
def uptoSmall : (H : Type) → List (DataW H) → Bool := fun _ ds => decide (uptoBulkAll ds ≤ 1048576)
def OpenSpec.upto (s : _root_.Go.ChangeSpec) : _root_.Go.OpenSpec := { _root_.Go.OpenSpec.ofChange s with cond := some uptoSmall }

/-- 'parcenerlaw34.DissolvePays', WHERE WHAT IT READS IS OF BULK AT MOST 1048576: true; the input reads as it did. -/
def dissolvePaysUptoRow : OpenClaim := { program := "ytjaobcmladkjcaa", sum := "d39049561fbaa43ed2098c64a84f7ccd61c67b456adc76f19c9cdeeac632c1f3", func := "parcener/parcenerlaw34.DissolvePays", spec := "dissolvePays", unfollowed := true, recurses := true, apart := false, narrowed := true }
def DissolvePaysUptoSaid : Prop := dissolvePaysUptoRow.holds Try.pinned (OpenSpec.upto dissolvePaysSpec)

/-- 'parcenerlaw34.DissolveSafe', WHERE WHAT IT READS IS OF BULK AT MOST 1048576: true; the input reads as it did. -/
def dissolveSafeUptoRow : OpenClaim := { program := "ytjaobcmladkjcaa", sum := "d39049561fbaa43ed2098c64a84f7ccd61c67b456adc76f19c9cdeeac632c1f3", func := "parcener/parcenerlaw34.DissolveSafe", spec := "dissolveSafe", unfollowed := true, recurses := true, apart := false, narrowed := true }
def DissolveSafeUptoSaid : Prop := dissolveSafeUptoRow.holds Try.pinned (OpenSpec.upto dissolveSafeSpec)

/-- 'parcenerlaw34.DissolveTrue', WHERE WHAT IT READS IS OF BULK AT MOST 1048576: true; the input reads as it did. -/
def dissolveTrueUptoRow : OpenClaim := { program := "ytjaobcmladkjcaa", sum := "d39049561fbaa43ed2098c64a84f7ccd61c67b456adc76f19c9cdeeac632c1f3", func := "parcener/parcenerlaw34.DissolveTrue", spec := "dissolveTrue", unfollowed := true, recurses := true, apart := false, narrowed := true }
def DissolveTrueUptoSaid : Prop := dissolveTrueUptoRow.holds Try.pinned (OpenSpec.upto dissolveTrueSpec)

/-- 'parcenerlaw34.DissolvePrices', WHERE WHAT IT READS IS OF BULK AT MOST 1048576: true; the input reads as it did. -/
def dissolvePricesUptoRow : OpenClaim := { program := "ytjaobcmladkjcaa", sum := "d39049561fbaa43ed2098c64a84f7ccd61c67b456adc76f19c9cdeeac632c1f3", func := "parcener/parcenerlaw34.DissolvePrices", spec := "dissolvePrices", unfollowed := true, recurses := true, apart := false, narrowed := true }
def DissolvePricesUptoSaid : Prop := dissolvePricesUptoRow.holds Try.pinned (OpenSpec.upto dissolvePricesSpec)

/-- 'parcenerlaw34.DissolveGains', WHERE WHAT IT READS IS OF BULK AT MOST 1048576: true; the input reads as it did. -/
def dissolveGainsUptoRow : OpenClaim := { program := "ytjaobcmladkjcaa", sum := "d39049561fbaa43ed2098c64a84f7ccd61c67b456adc76f19c9cdeeac632c1f3", func := "parcener/parcenerlaw34.DissolveGains", spec := "dissolveGains", unfollowed := true, recurses := true, apart := false, narrowed := true }
def DissolveGainsUptoSaid : Prop := dissolveGainsUptoRow.holds Try.pinned (OpenSpec.upto dissolveGainsSpec)

/-- 'parcenerlaw34.DissolveNames', WHERE WHAT IT READS IS OF BULK AT MOST 1048576: true; the input reads as it did. -/
def dissolveNamesUptoRow : OpenClaim := { program := "ytjaobcmladkjcaa", sum := "d39049561fbaa43ed2098c64a84f7ccd61c67b456adc76f19c9cdeeac632c1f3", func := "parcener/parcenerlaw34.DissolveNames", spec := "dissolveNames", unfollowed := true, recurses := true, apart := false, narrowed := true }
def DissolveNamesUptoSaid : Prop := dissolveNamesUptoRow.holds Try.pinned (OpenSpec.upto dissolveNamesSpec)

/-- 'parcenerlaw34.DissolveShoots', WHERE WHAT IT READS IS OF BULK AT MOST 1048576: true; the input reads as it did. -/
def dissolveShootsUptoRow : OpenClaim := { program := "ytjaobcmladkjcaa", sum := "d39049561fbaa43ed2098c64a84f7ccd61c67b456adc76f19c9cdeeac632c1f3", func := "parcener/parcenerlaw34.DissolveShoots", spec := "dissolveShoots", unfollowed := true, recurses := true, apart := false, narrowed := true }
def DissolveShootsUptoSaid : Prop := dissolveShootsUptoRow.holds Try.pinned (OpenSpec.upto dissolveShootsSpec)

end Rows
end Go.Proofs.Ytjaobcmladkjcaa
