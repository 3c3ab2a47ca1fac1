/-
  No cell of these rows narrows 'for every input' (looked for: loops, veiled, ifaces, maps, wideKeys, modest, calm, conditions, laid).
  DERIVED. THE GIVEN ROWS OF THIS SEAT. 10 by the template 'for every input the law returns true; each argument reads behind the call as it read before'; 0 by the template 'total and deterministic' (their statements: YtjniajojbnhmgaaTotals.lean).
  GIVEN WITH THE SEED: the statements are not yours to turn. If you find one false, say at which input.
  Laid BY PROGRAM, IN A SANDBOX (cutbox-rows.mjs): the forced cells as the released guide's own fill.sh prints them over the translation a1dc94cf92502165… (all of the seat's roots in one cut). By AI agents, Wed Nov 11 2026. No macro, syntax, notation, axiom, sorry.
-/
import Derived.Test.YtjniajojbnhmgaaChecked
import GoSem.Claim
import GoSem.ClaimJoined
import GoSem.ClaimMapViews
import Derived.JoinedTies
import Derived.KernelRfl
namespace Go.Proofs.Ytjniajojbnhmgaa
/- THE CELL 'sum', in the pinned program and in every row, IS THE sha256 OF THE DUMP (.gsa) THAT YtjniajojbnhmgaaProg.lean LOADS. Nothing in Lean hashes anything: it is a label: what it is worth is what the hold of that sum in a sandbox is worth. -/
noncomputable def Try.pinned : Pinned := { name := "ytjniajojbnhmgaa", sum := "a1dc94cf92502165d241e9ca9f0765cd529d16bfe51787ba2f72b39b79d7009a", checked := Try.checked }
namespace Rows
def none {H : Type} : Left H := { results := [], args := [] }

/-- 'quernlaw10.PathsIndex': WHATEVER THE INPUT: true; the input reads as it did. -/
def pathsIndexSpec : ChangeSpec := { name := "pathsIndex", fn := fun _ => fun
  | [d1, d2] => { results := [.lit (.bool true)], args := [d1, d2] }
  | _ => none }
def pathsIndexRow : OpenClaim := { program := "ytjniajojbnhmgaa", sum := "a1dc94cf92502165d241e9ca9f0765cd529d16bfe51787ba2f72b39b79d7009a", func := "quern/quernlaw10.PathsIndex", spec := "pathsIndex", unfollowed := true, recurses := true, apart := false }
def PathsIndexSaid : Prop := pathsIndexRow.holds Try.pinned (OpenSpec.ofChange pathsIndexSpec)

/-- ITS FALSE NEIGHBOUR: 'it returns false'. Refute it at one input. -/
def pathsIndexWrong : ChangeSpec := { name := "pathsIndex", fn := fun _ => fun
  | [d1, d2] => { results := [.lit (.bool false)], args := [d1, d2] }
  | _ => none }
def PathsIndexWrongFalsely : Prop := pathsIndexRow.holds Try.pinned (OpenSpec.ofChange pathsIndexWrong)

/-- 'quernlaw10.PathsTell': WHATEVER THE INPUT: true; the input reads as it did. -/
def pathsTellSpec : ChangeSpec := { name := "pathsTell", fn := fun _ => fun
  | [d] => { results := [.lit (.bool true)], args := [d] }
  | _ => none }
def pathsTellRow : OpenClaim := { program := "ytjniajojbnhmgaa", sum := "a1dc94cf92502165d241e9ca9f0765cd529d16bfe51787ba2f72b39b79d7009a", func := "quern/quernlaw10.PathsTell", spec := "pathsTell", unfollowed := true, recurses := true, apart := false }
def PathsTellSaid : Prop := pathsTellRow.holds Try.pinned (OpenSpec.ofChange pathsTellSpec)

/-- ITS FALSE NEIGHBOUR: 'it returns false'. Refute it at one input. -/
def pathsTellWrong : ChangeSpec := { name := "pathsTell", fn := fun _ => fun
  | [d] => { results := [.lit (.bool false)], args := [d] }
  | _ => none }
def PathsTellWrongFalsely : Prop := pathsTellRow.holds Try.pinned (OpenSpec.ofChange pathsTellWrong)

/-- 'quernlaw10.PathsBack': WHATEVER THE INPUT: true; the input reads as it did. -/
def pathsBackSpec : ChangeSpec := { name := "pathsBack", fn := fun _ => fun
  | [d1, d2, d3] => { results := [.lit (.bool true)], args := [d1, d2, d3] }
  | _ => none }
def pathsBackRow : OpenClaim := { program := "ytjniajojbnhmgaa", sum := "a1dc94cf92502165d241e9ca9f0765cd529d16bfe51787ba2f72b39b79d7009a", func := "quern/quernlaw10.PathsBack", spec := "pathsBack", unfollowed := true, recurses := true, apart := false }
def PathsBackSaid : Prop := pathsBackRow.holds Try.pinned (OpenSpec.ofChange pathsBackSpec)

/-- ITS FALSE NEIGHBOUR: 'it returns false'. Refute it at one input. -/
def pathsBackWrong : ChangeSpec := { name := "pathsBack", fn := fun _ => fun
  | [d1, d2, d3] => { results := [.lit (.bool false)], args := [d1, d2, d3] }
  | _ => none }
def PathsBackWrongFalsely : Prop := pathsBackRow.holds Try.pinned (OpenSpec.ofChange pathsBackWrong)

/-- 'quernlaw10.PathsRise': WHATEVER THE INPUT: true; the input reads as it did. -/
def pathsRiseSpec : ChangeSpec := { name := "pathsRise", fn := fun _ => fun
  | [d1, d2] => { results := [.lit (.bool true)], args := [d1, d2] }
  | _ => none }
def pathsRiseRow : OpenClaim := { program := "ytjniajojbnhmgaa", sum := "a1dc94cf92502165d241e9ca9f0765cd529d16bfe51787ba2f72b39b79d7009a", func := "quern/quernlaw10.PathsRise", spec := "pathsRise", unfollowed := true, recurses := true, apart := false }
def PathsRiseSaid : Prop := pathsRiseRow.holds Try.pinned (OpenSpec.ofChange pathsRiseSpec)

/-- ITS FALSE NEIGHBOUR: 'it returns false'. Refute it at one input. -/
def pathsRiseWrong : ChangeSpec := { name := "pathsRise", fn := fun _ => fun
  | [d1, d2] => { results := [.lit (.bool false)], args := [d1, d2] }
  | _ => none }
def PathsRiseWrongFalsely : Prop := pathsRiseRow.holds Try.pinned (OpenSpec.ofChange pathsRiseWrong)

/-- 'quernlaw10.PathsStops': WHATEVER THE INPUT: true; the input reads as it did. -/
def pathsStopsSpec : ChangeSpec := { name := "pathsStops", fn := fun _ => fun
  | [d1, d2] => { results := [.lit (.bool true)], args := [d1, d2] }
  | _ => none }
def pathsStopsRow : OpenClaim := { program := "ytjniajojbnhmgaa", sum := "a1dc94cf92502165d241e9ca9f0765cd529d16bfe51787ba2f72b39b79d7009a", func := "quern/quernlaw10.PathsStops", spec := "pathsStops", unfollowed := true, recurses := true, apart := false }
def PathsStopsSaid : Prop := pathsStopsRow.holds Try.pinned (OpenSpec.ofChange pathsStopsSpec)

/-- ITS FALSE NEIGHBOUR: 'it returns false'. Refute it at one input. -/
def pathsStopsWrong : ChangeSpec := { name := "pathsStops", fn := fun _ => fun
  | [d1, d2] => { results := [.lit (.bool false)], args := [d1, d2] }
  | _ => none }
def PathsStopsWrongFalsely : Prop := pathsStopsRow.holds Try.pinned (OpenSpec.ofChange pathsStopsWrong)

/-- 'quernlaw10.PathsCount': WHATEVER THE INPUT: true; the input reads as it did. -/
def pathsCountSpec : ChangeSpec := { name := "pathsCount", fn := fun _ => fun
  | [d] => { results := [.lit (.bool true)], args := [d] }
  | _ => none }
def pathsCountRow : OpenClaim := { program := "ytjniajojbnhmgaa", sum := "a1dc94cf92502165d241e9ca9f0765cd529d16bfe51787ba2f72b39b79d7009a", func := "quern/quernlaw10.PathsCount", spec := "pathsCount", unfollowed := true, recurses := true, apart := false }
def PathsCountSaid : Prop := pathsCountRow.holds Try.pinned (OpenSpec.ofChange pathsCountSpec)

/-- ITS FALSE NEIGHBOUR: 'it returns false'. Refute it at one input. -/
def pathsCountWrong : ChangeSpec := { name := "pathsCount", fn := fun _ => fun
  | [d] => { results := [.lit (.bool false)], args := [d] }
  | _ => none }
def PathsCountWrongFalsely : Prop := pathsCountRow.holds Try.pinned (OpenSpec.ofChange pathsCountWrong)

/-- 'quernlaw10.PathsSpans': WHATEVER THE INPUT: true; the input reads as it did. -/
def pathsSpansSpec : ChangeSpec := { name := "pathsSpans", fn := fun _ => fun
  | [d] => { results := [.lit (.bool true)], args := [d] }
  | _ => none }
def pathsSpansRow : OpenClaim := { program := "ytjniajojbnhmgaa", sum := "a1dc94cf92502165d241e9ca9f0765cd529d16bfe51787ba2f72b39b79d7009a", func := "quern/quernlaw10.PathsSpans", spec := "pathsSpans", unfollowed := true, recurses := true, apart := false }
def PathsSpansSaid : Prop := pathsSpansRow.holds Try.pinned (OpenSpec.ofChange pathsSpansSpec)

/-- ITS FALSE NEIGHBOUR: 'it returns false'. Refute it at one input. -/
def pathsSpansWrong : ChangeSpec := { name := "pathsSpans", fn := fun _ => fun
  | [d] => { results := [.lit (.bool false)], args := [d] }
  | _ => none }
def PathsSpansWrongFalsely : Prop := pathsSpansRow.holds Try.pinned (OpenSpec.ofChange pathsSpansWrong)

/-- 'quernlaw10.PathsFirsts': WHATEVER THE INPUT: true; the input reads as it did. -/
def pathsFirstsSpec : ChangeSpec := { name := "pathsFirsts", fn := fun _ => fun
  | [d] => { results := [.lit (.bool true)], args := [d] }
  | _ => none }
def pathsFirstsRow : OpenClaim := { program := "ytjniajojbnhmgaa", sum := "a1dc94cf92502165d241e9ca9f0765cd529d16bfe51787ba2f72b39b79d7009a", func := "quern/quernlaw10.PathsFirsts", spec := "pathsFirsts", unfollowed := true, recurses := true, apart := false }
def PathsFirstsSaid : Prop := pathsFirstsRow.holds Try.pinned (OpenSpec.ofChange pathsFirstsSpec)

/-- ITS FALSE NEIGHBOUR: 'it returns false'. Refute it at one input. -/
def pathsFirstsWrong : ChangeSpec := { name := "pathsFirsts", fn := fun _ => fun
  | [d] => { results := [.lit (.bool false)], args := [d] }
  | _ => none }
def PathsFirstsWrongFalsely : Prop := pathsFirstsRow.holds Try.pinned (OpenSpec.ofChange pathsFirstsWrong)

/-- 'quernlaw10.PathsApart': WHATEVER THE INPUT: true; the input reads as it did. -/
def pathsApartSpec : ChangeSpec := { name := "pathsApart", fn := fun _ => fun
  | [d1, d2] => { results := [.lit (.bool true)], args := [d1, d2] }
  | _ => none }
def pathsApartRow : OpenClaim := { program := "ytjniajojbnhmgaa", sum := "a1dc94cf92502165d241e9ca9f0765cd529d16bfe51787ba2f72b39b79d7009a", func := "quern/quernlaw10.PathsApart", spec := "pathsApart", unfollowed := true, recurses := true, apart := false }
def PathsApartSaid : Prop := pathsApartRow.holds Try.pinned (OpenSpec.ofChange pathsApartSpec)

/-- ITS FALSE NEIGHBOUR: 'it returns false'. Refute it at one input. -/
def pathsApartWrong : ChangeSpec := { name := "pathsApart", fn := fun _ => fun
  | [d1, d2] => { results := [.lit (.bool false)], args := [d1, d2] }
  | _ => none }
def PathsApartWrongFalsely : Prop := pathsApartRow.holds Try.pinned (OpenSpec.ofChange pathsApartWrong)

/-- 'quernlaw10.PathsGrow': WHATEVER THE INPUT: true; the input reads as it did. -/
def pathsGrowSpec : ChangeSpec := { name := "pathsGrow", fn := fun _ => fun
  | [d] => { results := [.lit (.bool true)], args := [d] }
  | _ => none }
def pathsGrowRow : OpenClaim := { program := "ytjniajojbnhmgaa", sum := "a1dc94cf92502165d241e9ca9f0765cd529d16bfe51787ba2f72b39b79d7009a", func := "quern/quernlaw10.PathsGrow", spec := "pathsGrow", unfollowed := true, recurses := true, apart := false }
def PathsGrowSaid : Prop := pathsGrowRow.holds Try.pinned (OpenSpec.ofChange pathsGrowSpec)

/-- ITS FALSE NEIGHBOUR: 'it returns false'. Refute it at one input. -/
def pathsGrowWrong : ChangeSpec := { name := "pathsGrow", fn := fun _ => fun
  | [d] => { results := [.lit (.bool false)], args := [d] }
  | _ => none }
def PathsGrowWrongFalsely : Prop := pathsGrowRow.holds Try.pinned (OpenSpec.ofChange pathsGrowWrong)

/- THE SECOND FORM. 'bulk': how many values and letters a reading holds, each counted each time it is reached (what is shared counts as often as it is met; a slice's spare places count too). A statement '..UptoSaid' is the law's where the arguments, and the package variables that the reading takes, are together of bulk at most 1048576: NARROWER than '..Said'. Prove '..Said' where nothing that the law and all that it calls make is longer than what came in: it says more and counts as full. Else prove '..UptoSaid'. A law counts once. -/
mutual
def uptoBulk {H : Type} : DataW H → Nat
  | .lit (.string bytes) => bytes.length + 1
  | .lit _ => 1
  | .nil => 1
  | .ptr d => uptoBulk d + 1
  | .slice elems spare => uptoBulkAll elems + uptoBulkAll spare + 1
  | .agg parts => uptoBulkAll parts + 1
  | .iface _ d => uptoBulk d + 1
  | .map entries => uptoBulkEntries entries + 1
  | .held _ => 1
def uptoBulkAll {H : Type} : List (DataW H) → Nat
  | [] => 0
  | d :: r => uptoBulk d + uptoBulkAll r
def uptoBulkEntries {H : Type} : List (Lit × DataW H) → Nat
  | [] => 0
  | x :: r => uptoBulkEntry x + uptoBulkEntries r
def uptoBulkEntry {H : Type} : Lit × DataW H → Nat
  | (.string bytes, d) => bytes.length + uptoBulk d + 1
  | (_, d) => uptoBulk d + 1
 end
def uptoSmall : (H : Type) → List (DataW H) → Bool := fun _ ds => decide (uptoBulkAll ds ≤ 1048576)
def OpenSpec.upto (s : _root_.Go.ChangeSpec) : _root_.Go.OpenSpec := { _root_.Go.OpenSpec.ofChange s with cond := some uptoSmall }

/-- 'quernlaw10.PathsIndex', WHERE WHAT IT READS IS OF BULK AT MOST 1048576: true; the input reads as it did. -/
def pathsIndexUptoRow : OpenClaim := { program := "ytjniajojbnhmgaa", sum := "a1dc94cf92502165d241e9ca9f0765cd529d16bfe51787ba2f72b39b79d7009a", func := "quern/quernlaw10.PathsIndex", spec := "pathsIndex", unfollowed := true, recurses := true, apart := false, narrowed := true }
def PathsIndexUptoSaid : Prop := pathsIndexUptoRow.holds Try.pinned (OpenSpec.upto pathsIndexSpec)

/-- 'quernlaw10.PathsTell', WHERE WHAT IT READS IS OF BULK AT MOST 1048576: true; the input reads as it did. -/
def pathsTellUptoRow : OpenClaim := { program := "ytjniajojbnhmgaa", sum := "a1dc94cf92502165d241e9ca9f0765cd529d16bfe51787ba2f72b39b79d7009a", func := "quern/quernlaw10.PathsTell", spec := "pathsTell", unfollowed := true, recurses := true, apart := false, narrowed := true }
def PathsTellUptoSaid : Prop := pathsTellUptoRow.holds Try.pinned (OpenSpec.upto pathsTellSpec)

/-- 'quernlaw10.PathsBack', WHERE WHAT IT READS IS OF BULK AT MOST 1048576: true; the input reads as it did. -/
def pathsBackUptoRow : OpenClaim := { program := "ytjniajojbnhmgaa", sum := "a1dc94cf92502165d241e9ca9f0765cd529d16bfe51787ba2f72b39b79d7009a", func := "quern/quernlaw10.PathsBack", spec := "pathsBack", unfollowed := true, recurses := true, apart := false, narrowed := true }
def PathsBackUptoSaid : Prop := pathsBackUptoRow.holds Try.pinned (OpenSpec.upto pathsBackSpec)

/-- 'quernlaw10.PathsRise', WHERE WHAT IT READS IS OF BULK AT MOST 1048576: true; the input reads as it did. -/
def pathsRiseUptoRow : OpenClaim := { program := "ytjniajojbnhmgaa", sum := "a1dc94cf92502165d241e9ca9f0765cd529d16bfe51787ba2f72b39b79d7009a", func := "quern/quernlaw10.PathsRise", spec := "pathsRise", unfollowed := true, recurses := true, apart := false, narrowed := true }
def PathsRiseUptoSaid : Prop := pathsRiseUptoRow.holds Try.pinned (OpenSpec.upto pathsRiseSpec)

/-- 'quernlaw10.PathsStops', WHERE WHAT IT READS IS OF BULK AT MOST 1048576: true; the input reads as it did. -/
def pathsStopsUptoRow : OpenClaim := { program := "ytjniajojbnhmgaa", sum := "a1dc94cf92502165d241e9ca9f0765cd529d16bfe51787ba2f72b39b79d7009a", func := "quern/quernlaw10.PathsStops", spec := "pathsStops", unfollowed := true, recurses := true, apart := false, narrowed := true }
def PathsStopsUptoSaid : Prop := pathsStopsUptoRow.holds Try.pinned (OpenSpec.upto pathsStopsSpec)

/-- 'quernlaw10.PathsCount', WHERE WHAT IT READS IS OF BULK AT MOST 1048576: true; the input reads as it did. -/
def pathsCountUptoRow : OpenClaim := { program := "ytjniajojbnhmgaa", sum := "a1dc94cf92502165d241e9ca9f0765cd529d16bfe51787ba2f72b39b79d7009a", func := "quern/quernlaw10.PathsCount", spec := "pathsCount", unfollowed := true, recurses := true, apart := false, narrowed := true }
def PathsCountUptoSaid : Prop := pathsCountUptoRow.holds Try.pinned (OpenSpec.upto pathsCountSpec)

/-- 'quernlaw10.PathsSpans', WHERE WHAT IT READS IS OF BULK AT MOST 1048576: true; the input reads as it did. -/
def pathsSpansUptoRow : OpenClaim := { program := "ytjniajojbnhmgaa", sum := "a1dc94cf92502165d241e9ca9f0765cd529d16bfe51787ba2f72b39b79d7009a", func := "quern/quernlaw10.PathsSpans", spec := "pathsSpans", unfollowed := true, recurses := true, apart := false, narrowed := true }
def PathsSpansUptoSaid : Prop := pathsSpansUptoRow.holds Try.pinned (OpenSpec.upto pathsSpansSpec)

/-- 'quernlaw10.PathsFirsts', WHERE WHAT IT READS IS OF BULK AT MOST 1048576: true; the input reads as it did. -/
def pathsFirstsUptoRow : OpenClaim := { program := "ytjniajojbnhmgaa", sum := "a1dc94cf92502165d241e9ca9f0765cd529d16bfe51787ba2f72b39b79d7009a", func := "quern/quernlaw10.PathsFirsts", spec := "pathsFirsts", unfollowed := true, recurses := true, apart := false, narrowed := true }
def PathsFirstsUptoSaid : Prop := pathsFirstsUptoRow.holds Try.pinned (OpenSpec.upto pathsFirstsSpec)

/-- 'quernlaw10.PathsApart', WHERE WHAT IT READS IS OF BULK AT MOST 1048576: true; the input reads as it did. -/
def pathsApartUptoRow : OpenClaim := { program := "ytjniajojbnhmgaa", sum := "a1dc94cf92502165d241e9ca9f0765cd529d16bfe51787ba2f72b39b79d7009a", func := "quern/quernlaw10.PathsApart", spec := "pathsApart", unfollowed := true, recurses := true, apart := false, narrowed := true }
def PathsApartUptoSaid : Prop := pathsApartUptoRow.holds Try.pinned (OpenSpec.upto pathsApartSpec)

/-- 'quernlaw10.PathsGrow', WHERE WHAT IT READS IS OF BULK AT MOST 1048576: true; the input reads as it did. -/
def pathsGrowUptoRow : OpenClaim := { program := "ytjniajojbnhmgaa", sum := "a1dc94cf92502165d241e9ca9f0765cd529d16bfe51787ba2f72b39b79d7009a", func := "quern/quernlaw10.PathsGrow", spec := "pathsGrow", unfollowed := true, recurses := true, apart := false, narrowed := true }
def PathsGrowUptoSaid : Prop := pathsGrowUptoRow.holds Try.pinned (OpenSpec.upto pathsGrowSpec)

end Rows
end Go.Proofs.Ytjniajojbnhmgaa
