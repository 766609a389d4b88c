/-
  No cell of these rows narrows 'for every input' (looked for: loops, veiled, ifaces, maps, wideKeys, modest, calm, conditions, laid).
  DERIVED. THE GIVEN ROWS OF THIS SEAT. 4 by the template 'for every input the law returns true; each argument reads behind the call as it read before'; 0 by the template 'total and deterministic' (their statements: YtoombjndcegggaaTotals.lean).
  GIVEN WITH THE SEED: the statements are not yours to turn. If you find one false, say at which input.
  Laid BY PROGRAM, IN A SANDBOX (cutbox-rows.mjs): the forced cells as the released guide's own fill.sh prints them over the translation 2003489760d043ce… (all of the seat's roots in one cut). By AI agents, Wed Nov 11 2026. No macro, syntax, notation, axiom, sorry.
-/
import Derived.Test.YtoombjndcegggaaChecked
import GoSem.Claim
import GoSem.ClaimJoined
import GoSem.ClaimMapViews
import Derived.JoinedTies
import Derived.KernelRfl
namespace Go.Proofs.Ytoombjndcegggaa
/- THE CELL 'sum', in the pinned program and in every row, IS THE sha256 OF THE DUMP (.gsa) THAT YtoombjndcegggaaProg.lean LOADS. Nothing in Lean hashes anything: it is a label: what it is worth is what the hold of that sum in a sandbox is worth. -/
noncomputable def Try.pinned : Pinned := { name := "ytoombjndcegggaa", sum := "2003489760d043ce7105bb17d85c6a50f4db097523b9d5e804010e0af8638f31", checked := Try.checked }
namespace Rows
def none {H : Type} : Left H := { results := [], args := [] }

/-- 'deckhandlaw07.RailChecks': WHATEVER THE INPUT: true; the input reads as it did. -/
def railChecksSpec : ChangeSpec := { name := "railChecks", fn := fun _ => fun
  | [d1, d2] => { results := [.lit (.bool true)], args := [d1, d2] }
  | _ => none }
def railChecksRow : OpenClaim := { program := "ytoombjndcegggaa", sum := "2003489760d043ce7105bb17d85c6a50f4db097523b9d5e804010e0af8638f31", func := "deckhand/deckhandlaw07.RailChecks", spec := "railChecks", inPlace := ["math.Float64frombits", "math.Float64bits"], apart := false }
def RailChecksSaid : Prop := railChecksRow.holds Try.pinned (OpenSpec.ofChange railChecksSpec)

/-- ITS FALSE NEIGHBOUR: 'it returns false'. Refute it at one input. -/
def railChecksWrong : ChangeSpec := { name := "railChecks", fn := fun _ => fun
  | [d1, d2] => { results := [.lit (.bool false)], args := [d1, d2] }
  | _ => none }
def RailChecksWrongFalsely : Prop := railChecksRow.holds Try.pinned (OpenSpec.ofChange railChecksWrong)

/-- 'deckhandlaw07.RailLanes': WHATEVER THE INPUT: true; the input reads as it did. -/
def railLanesSpec : ChangeSpec := { name := "railLanes", fn := fun _ => fun
  | [d1, d2] => { results := [.lit (.bool true)], args := [d1, d2] }
  | _ => none }
def railLanesRow : OpenClaim := { program := "ytoombjndcegggaa", sum := "2003489760d043ce7105bb17d85c6a50f4db097523b9d5e804010e0af8638f31", func := "deckhand/deckhandlaw07.RailLanes", spec := "railLanes", inPlace := ["math.Float64frombits", "math.Float64bits"], apart := false }
def RailLanesSaid : Prop := railLanesRow.holds Try.pinned (OpenSpec.ofChange railLanesSpec)

/-- ITS FALSE NEIGHBOUR: 'it returns false'. Refute it at one input. -/
def railLanesWrong : ChangeSpec := { name := "railLanes", fn := fun _ => fun
  | [d1, d2] => { results := [.lit (.bool false)], args := [d1, d2] }
  | _ => none }
def RailLanesWrongFalsely : Prop := railLanesRow.holds Try.pinned (OpenSpec.ofChange railLanesWrong)

/-- 'deckhandlaw07.RailReaches': WHATEVER THE INPUT: true; the input reads as it did. -/
def railReachesSpec : ChangeSpec := { name := "railReaches", fn := fun _ => fun
  | [d1, d2, d3] => { results := [.lit (.bool true)], args := [d1, d2, d3] }
  | _ => none }
def railReachesRow : OpenClaim := { program := "ytoombjndcegggaa", sum := "2003489760d043ce7105bb17d85c6a50f4db097523b9d5e804010e0af8638f31", func := "deckhand/deckhandlaw07.RailReaches", spec := "railReaches", inPlace := ["math.Float64frombits", "math.Float64bits"], apart := false }
def RailReachesSaid : Prop := railReachesRow.holds Try.pinned (OpenSpec.ofChange railReachesSpec)

/-- ITS FALSE NEIGHBOUR: 'it returns false'. Refute it at one input. -/
def railReachesWrong : ChangeSpec := { name := "railReaches", fn := fun _ => fun
  | [d1, d2, d3] => { results := [.lit (.bool false)], args := [d1, d2, d3] }
  | _ => none }
def RailReachesWrongFalsely : Prop := railReachesRow.holds Try.pinned (OpenSpec.ofChange railReachesWrong)

/-- 'deckhandlaw07.RailGrows': WHATEVER THE INPUT: true; the input reads as it did. -/
def railGrowsSpec : ChangeSpec := { name := "railGrows", fn := fun _ => fun
  | [d1, d2, d3, d4] => { results := [.lit (.bool true)], args := [d1, d2, d3, d4] }
  | _ => none }
def railGrowsRow : OpenClaim := { program := "ytoombjndcegggaa", sum := "2003489760d043ce7105bb17d85c6a50f4db097523b9d5e804010e0af8638f31", func := "deckhand/deckhandlaw07.RailGrows", spec := "railGrows", inPlace := ["math.Float64frombits", "math.Float64bits"], apart := false }
def RailGrowsSaid : Prop := railGrowsRow.holds Try.pinned (OpenSpec.ofChange railGrowsSpec)

/-- ITS FALSE NEIGHBOUR: 'it returns false'. Refute it at one input. -/
def railGrowsWrong : ChangeSpec := { name := "railGrows", fn := fun _ => fun
  | [d1, d2, d3, d4] => { results := [.lit (.bool false)], args := [d1, d2, d3, d4] }
  | _ => none }
def RailGrowsWrongFalsely : Prop := railGrowsRow.holds Try.pinned (OpenSpec.ofChange railGrowsWrong)

/- THE SECOND FORM. 'bulk': how many values and letters a reading holds, each counted each time it is reached (what is shared counts as often as it is met; a slice's spare places count too). A statement '..UptoSaid' is the law's where the arguments, and the package variables that the reading takes, are together of bulk at most 1048576: NARROWER than '..Said'. Prove '..Said' where nothing that the law and all that it calls make is longer than what came in: it says more and counts as full. Else prove '..UptoSaid'. A law counts once. -/
mutual
def uptoBulk {H : Type} : DataW H → Nat
  | .lit (.string bytes) => bytes.length + 1
  | .lit _ => 1
  | .nil => 1
  | .ptr d => uptoBulk d + 1
  | .slice elems spare => uptoBulkAll elems + uptoBulkAll spare + 1
  | .agg parts => uptoBulkAll parts + 1
  | .iface _ d => uptoBulk d + 1
  | .map entries => uptoBulkEntries entries + 1
  | .held _ => 1
def uptoBulkAll {H : Type} : List (DataW H) → Nat
  | [] => 0
  | d :: r => uptoBulk d + uptoBulkAll r
def uptoBulkEntries {H : Type} : List (Lit × DataW H) → Nat
  | [] => 0
  | x :: r => uptoBulkEntry x + uptoBulkEntries r
def uptoBulkEntry {H : Type} : Lit × DataW H → Nat
  | (.string bytes, d) => bytes.length + uptoBulk d + 1
  | (_, d) => uptoBulk d + 1
 end
def uptoSmall : (H : Type) → List (DataW H) → Bool := fun _ ds => decide (uptoBulkAll ds ≤ 1048576)
def OpenSpec.upto (s : _root_.Go.ChangeSpec) : _root_.Go.OpenSpec := { _root_.Go.OpenSpec.ofChange s with cond := some uptoSmall }

/-- 'deckhandlaw07.RailChecks', WHERE WHAT IT READS IS OF BULK AT MOST 1048576: true; the input reads as it did. -/
def railChecksUptoRow : OpenClaim := { program := "ytoombjndcegggaa", sum := "2003489760d043ce7105bb17d85c6a50f4db097523b9d5e804010e0af8638f31", func := "deckhand/deckhandlaw07.RailChecks", spec := "railChecks", inPlace := ["math.Float64frombits", "math.Float64bits"], apart := false, narrowed := true }
def RailChecksUptoSaid : Prop := railChecksUptoRow.holds Try.pinned (OpenSpec.upto railChecksSpec)

/-- 'deckhandlaw07.RailLanes', WHERE WHAT IT READS IS OF BULK AT MOST 1048576: true; the input reads as it did. -/
def railLanesUptoRow : OpenClaim := { program := "ytoombjndcegggaa", sum := "2003489760d043ce7105bb17d85c6a50f4db097523b9d5e804010e0af8638f31", func := "deckhand/deckhandlaw07.RailLanes", spec := "railLanes", inPlace := ["math.Float64frombits", "math.Float64bits"], apart := false, narrowed := true }
def RailLanesUptoSaid : Prop := railLanesUptoRow.holds Try.pinned (OpenSpec.upto railLanesSpec)

/-- 'deckhandlaw07.RailReaches', WHERE WHAT IT READS IS OF BULK AT MOST 1048576: true; the input reads as it did. -/
def railReachesUptoRow : OpenClaim := { program := "ytoombjndcegggaa", sum := "2003489760d043ce7105bb17d85c6a50f4db097523b9d5e804010e0af8638f31", func := "deckhand/deckhandlaw07.RailReaches", spec := "railReaches", inPlace := ["math.Float64frombits", "math.Float64bits"], apart := false, narrowed := true }
def RailReachesUptoSaid : Prop := railReachesUptoRow.holds Try.pinned (OpenSpec.upto railReachesSpec)

/-- 'deckhandlaw07.RailGrows', WHERE WHAT IT READS IS OF BULK AT MOST 1048576: true; the input reads as it did. -/
def railGrowsUptoRow : OpenClaim := { program := "ytoombjndcegggaa", sum := "2003489760d043ce7105bb17d85c6a50f4db097523b9d5e804010e0af8638f31", func := "deckhand/deckhandlaw07.RailGrows", spec := "railGrows", inPlace := ["math.Float64frombits", "math.Float64bits"], apart := false, narrowed := true }
def RailGrowsUptoSaid : Prop := railGrowsUptoRow.holds Try.pinned (OpenSpec.upto railGrowsSpec)

end Rows
end Go.Proofs.Ytoombjndcegggaa
