/-
  No cell of these rows narrows 'for every input' (looked for: loops, veiled, ifaces, maps, wideKeys, modest, calm, conditions, laid).
  DERIVED. THE GIVEN ROWS OF THIS SEAT. 4 by the template 'for every input the law returns true; each argument reads behind the call as it read before'; 0 by the template 'total and deterministic' (their statements: YtkkapajpgfjomaaTotals.lean).
  GIVEN WITH THE SEED: the statements are not yours to turn. If you find one false, say at which input.
  Laid BY PROGRAM, IN A SANDBOX (cutbox-rows.mjs): the forced cells as the released guide's own fill.sh prints them over the translation 6d3006a8d421545c… (all of the seat's roots in one cut). By AI agents, Wed Nov 11 2026. No macro, syntax, notation, axiom, sorry.
-/
import Derived.Test.YtkkapajpgfjomaaChecked
import GoSem.Claim
import GoSem.ClaimJoined
import GoSem.ClaimMapViews
import Derived.JoinedTies
import Derived.KernelRfl
namespace Go.Proofs.Ytkkapajpgfjomaa
/- THE CELL 'sum', in the pinned program and in every row, IS THE sha256 OF THE DUMP (.gsa) THAT YtkkapajpgfjomaaProg.lean LOADS. Nothing in Lean hashes anything: it is a label: what it is worth is what the hold of that sum in a sandbox is worth. -/
noncomputable def Try.pinned : Pinned := { name := "ytkkapajpgfjomaa", sum := "6d3006a8d421545cdb5f9be416316345c2311cc96688c84160473512d25e3b2f", checked := Try.checked }
namespace Rows
def none {H : Type} : Left H := { results := [], args := [] }

/-- 'deckhandlaw33.GaugeShares': WHATEVER THE INPUT: true; the input reads as it did. -/
def gaugeSharesSpec : ChangeSpec := { name := "gaugeShares", fn := fun _ => fun
  | [d1, d2, d3] => { results := [.lit (.bool true)], args := [d1, d2, d3] }
  | _ => none }
def gaugeSharesRow : OpenClaim := { program := "ytkkapajpgfjomaa", sum := "6d3006a8d421545cdb5f9be416316345c2311cc96688c84160473512d25e3b2f", func := "deckhand/deckhandlaw33.GaugeShares", spec := "gaugeShares", inPlace := ["math.Float64frombits", "math.Float64bits", "math.archFloor", "math.archTrunc"], apart := false }
def GaugeSharesSaid : Prop := gaugeSharesRow.holds Try.pinned (OpenSpec.ofChange gaugeSharesSpec)

/-- ITS FALSE NEIGHBOUR: 'it returns false'. Refute it at one input. -/
def gaugeSharesWrong : ChangeSpec := { name := "gaugeShares", fn := fun _ => fun
  | [d1, d2, d3] => { results := [.lit (.bool false)], args := [d1, d2, d3] }
  | _ => none }
def GaugeSharesWrongFalsely : Prop := gaugeSharesRow.holds Try.pinned (OpenSpec.ofChange gaugeSharesWrong)

/-- 'deckhandlaw33.GaugeMeans': WHATEVER THE INPUT: true; the input reads as it did. -/
def gaugeMeansSpec : ChangeSpec := { name := "gaugeMeans", fn := fun _ => fun
  | [d] => { results := [.lit (.bool true)], args := [d] }
  | _ => none }
def gaugeMeansRow : OpenClaim := { program := "ytkkapajpgfjomaa", sum := "6d3006a8d421545cdb5f9be416316345c2311cc96688c84160473512d25e3b2f", func := "deckhand/deckhandlaw33.GaugeMeans", spec := "gaugeMeans", inPlace := ["math.Float64frombits", "math.Float64bits", "math.archFloor", "math.archTrunc"], apart := false }
def GaugeMeansSaid : Prop := gaugeMeansRow.holds Try.pinned (OpenSpec.ofChange gaugeMeansSpec)

/-- ITS FALSE NEIGHBOUR: 'it returns false'. Refute it at one input. -/
def gaugeMeansWrong : ChangeSpec := { name := "gaugeMeans", fn := fun _ => fun
  | [d] => { results := [.lit (.bool false)], args := [d] }
  | _ => none }
def GaugeMeansWrongFalsely : Prop := gaugeMeansRow.holds Try.pinned (OpenSpec.ofChange gaugeMeansWrong)

/-- 'deckhandlaw33.GaugeMost': WHATEVER THE INPUT: true; the input reads as it did. -/
def gaugeMostSpec : ChangeSpec := { name := "gaugeMost", fn := fun _ => fun
  | [d1, d2, d3, d4] => { results := [.lit (.bool true)], args := [d1, d2, d3, d4] }
  | _ => none }
def gaugeMostRow : OpenClaim := { program := "ytkkapajpgfjomaa", sum := "6d3006a8d421545cdb5f9be416316345c2311cc96688c84160473512d25e3b2f", func := "deckhand/deckhandlaw33.GaugeMost", spec := "gaugeMost", inPlace := ["math.Float64frombits", "math.Float64bits", "math.archFloor", "math.archTrunc"], apart := false }
def GaugeMostSaid : Prop := gaugeMostRow.holds Try.pinned (OpenSpec.ofChange gaugeMostSpec)

/-- ITS FALSE NEIGHBOUR: 'it returns false'. Refute it at one input. -/
def gaugeMostWrong : ChangeSpec := { name := "gaugeMost", fn := fun _ => fun
  | [d1, d2, d3, d4] => { results := [.lit (.bool false)], args := [d1, d2, d3, d4] }
  | _ => none }
def GaugeMostWrongFalsely : Prop := gaugeMostRow.holds Try.pinned (OpenSpec.ofChange gaugeMostWrong)

/-- 'deckhandlaw33.GaugeBars': WHATEVER THE INPUT: true; the input reads as it did. -/
def gaugeBarsSpec : ChangeSpec := { name := "gaugeBars", fn := fun _ => fun
  | [d1, d2] => { results := [.lit (.bool true)], args := [d1, d2] }
  | _ => none }
def gaugeBarsRow : OpenClaim := { program := "ytkkapajpgfjomaa", sum := "6d3006a8d421545cdb5f9be416316345c2311cc96688c84160473512d25e3b2f", func := "deckhand/deckhandlaw33.GaugeBars", spec := "gaugeBars", inPlace := ["math.Float64frombits", "math.Float64bits", "math.archFloor", "math.archTrunc"], apart := false }
def GaugeBarsSaid : Prop := gaugeBarsRow.holds Try.pinned (OpenSpec.ofChange gaugeBarsSpec)

/-- ITS FALSE NEIGHBOUR: 'it returns false'. Refute it at one input. -/
def gaugeBarsWrong : ChangeSpec := { name := "gaugeBars", fn := fun _ => fun
  | [d1, d2] => { results := [.lit (.bool false)], args := [d1, d2] }
  | _ => none }
def GaugeBarsWrongFalsely : Prop := gaugeBarsRow.holds Try.pinned (OpenSpec.ofChange gaugeBarsWrong)

/- THE SECOND FORM. 'bulk': how many values and letters a reading holds, each counted each time it is reached (what is shared counts as often as it is met; a slice's spare places count too). A statement '..UptoSaid' is the law's where the arguments, and the package variables that the reading takes, are together of bulk at most 1048576: NARROWER than '..Said'. Prove '..Said' where nothing that the law and all that it calls make is longer than what came in: it says more and counts as full. Else prove '..UptoSaid'. A law counts once. -/
mutual
def uptoBulk {H : Type} : DataW H → Nat
  | .lit (.string bytes) => bytes.length + 1
  | .lit _ => 1
  | .nil => 1
  | .ptr d => uptoBulk d + 1
  | .slice elems spare => uptoBulkAll elems + uptoBulkAll spare + 1
  | .agg parts => uptoBulkAll parts + 1
  | .iface _ d => uptoBulk d + 1
  | .map entries => uptoBulkEntries entries + 1
  | .held _ => 1
def uptoBulkAll {H : Type} : List (DataW H) → Nat
  | [] => 0
  | d :: r => uptoBulk d + uptoBulkAll r
def uptoBulkEntries {H : Type} : List (Lit × DataW H) → Nat
  | [] => 0
  | x :: r => uptoBulkEntry x + uptoBulkEntries r
def uptoBulkEntry {H : Type} : Lit × DataW H → Nat
  | (.string bytes, d) => bytes.length + uptoBulk d + 1
  | (_, d) => uptoBulk d + 1
 end
def uptoSmall : (H : Type) → List (DataW H) → Bool := fun _ ds => decide (uptoBulkAll ds ≤ 1048576)
def OpenSpec.upto (s : _root_.Go.ChangeSpec) : _root_.Go.OpenSpec := { _root_.Go.OpenSpec.ofChange s with cond := some uptoSmall }

/-- 'deckhandlaw33.GaugeShares', WHERE WHAT IT READS IS OF BULK AT MOST 1048576: true; the input reads as it did. -/
def gaugeSharesUptoRow : OpenClaim := { program := "ytkkapajpgfjomaa", sum := "6d3006a8d421545cdb5f9be416316345c2311cc96688c84160473512d25e3b2f", func := "deckhand/deckhandlaw33.GaugeShares", spec := "gaugeShares", inPlace := ["math.Float64frombits", "math.Float64bits", "math.archFloor", "math.archTrunc"], apart := false, narrowed := true }
def GaugeSharesUptoSaid : Prop := gaugeSharesUptoRow.holds Try.pinned (OpenSpec.upto gaugeSharesSpec)

/-- 'deckhandlaw33.GaugeMeans', WHERE WHAT IT READS IS OF BULK AT MOST 1048576: true; the input reads as it did. -/
def gaugeMeansUptoRow : OpenClaim := { program := "ytkkapajpgfjomaa", sum := "6d3006a8d421545cdb5f9be416316345c2311cc96688c84160473512d25e3b2f", func := "deckhand/deckhandlaw33.GaugeMeans", spec := "gaugeMeans", inPlace := ["math.Float64frombits", "math.Float64bits", "math.archFloor", "math.archTrunc"], apart := false, narrowed := true }
def GaugeMeansUptoSaid : Prop := gaugeMeansUptoRow.holds Try.pinned (OpenSpec.upto gaugeMeansSpec)

/-- 'deckhandlaw33.GaugeMost', WHERE WHAT IT READS IS OF BULK AT MOST 1048576: true; the input reads as it did. -/
def gaugeMostUptoRow : OpenClaim := { program := "ytkkapajpgfjomaa", sum := "6d3006a8d421545cdb5f9be416316345c2311cc96688c84160473512d25e3b2f", func := "deckhand/deckhandlaw33.GaugeMost", spec := "gaugeMost", inPlace := ["math.Float64frombits", "math.Float64bits", "math.archFloor", "math.archTrunc"], apart := false, narrowed := true }
def GaugeMostUptoSaid : Prop := gaugeMostUptoRow.holds Try.pinned (OpenSpec.upto gaugeMostSpec)

/-- 'deckhandlaw33.GaugeBars', WHERE WHAT IT READS IS OF BULK AT MOST 1048576: true; the input reads as it did. -/
def gaugeBarsUptoRow : OpenClaim := { program := "ytkkapajpgfjomaa", sum := "6d3006a8d421545cdb5f9be416316345c2311cc96688c84160473512d25e3b2f", func := "deckhand/deckhandlaw33.GaugeBars", spec := "gaugeBars", inPlace := ["math.Float64frombits", "math.Float64bits", "math.archFloor", "math.archTrunc"], apart := false, narrowed := true }
def GaugeBarsUptoSaid : Prop := gaugeBarsUptoRow.holds Try.pinned (OpenSpec.upto gaugeBarsSpec)

end Rows
end Go.Proofs.Ytkkapajpgfjomaa
