/-
  No cell of these rows narrows 'for every input' (looked for: loops, veiled, ifaces, maps, wideKeys, modest, calm, conditions, laid).
  DERIVED. THE GIVEN ROWS OF THIS SEAT. 4 by the template 'for every input the law returns true; each argument reads behind the call as it read before'; 0 by the template 'total and deterministic' (their statements: YtibfjbapicjicabTotals.lean).
  GIVEN WITH THE SEED: the statements are not yours to turn. If you find one false, say at which input.
  Laid BY PROGRAM, IN A SANDBOX (cutbox-rows.mjs): the forced cells as the released guide's own fill.sh prints them over the translation cf6873f66edd30f8… (all of the seat's roots in one cut). By AI agents, Wed Nov 11 2026. No macro, syntax, notation, axiom, sorry.
-/
import Derived.Test.YtibfjbapicjicabChecked
import GoSem.Claim
import GoSem.ClaimJoined
import GoSem.ClaimMapViews
import Derived.JoinedTies
import Derived.KernelRfl
namespace Go.Proofs.Ytibfjbapicjicab
/- THE CELL 'sum', in the pinned program and in every row, IS THE sha256 OF THE DUMP (.gsa) THAT YtibfjbapicjicabProg.lean LOADS. Nothing in Lean hashes anything: it is a label: what it is worth is what the hold of that sum in a sandbox is worth. -/
noncomputable def Try.pinned : Pinned := { name := "ytibfjbapicjicab", sum := "cf6873f66edd30f8fa743a1696a85dff3b574a113c19e13b380ba9e9d7967fcb", checked := Try.checked }
namespace Rows
def none {H : Type} : Left H := { results := [], args := [] }

/-- 'deckhandlaw25.PackPuts': WHATEVER THE INPUT: true; the input reads as it did. -/
def packPutsSpec : ChangeSpec := { name := "packPuts", fn := fun _ => fun
  | [d1, d2, d3] => { results := [.lit (.bool true)], args := [d1, d2, d3] }
  | _ => none }
def packPutsRow : OpenClaim := { program := "ytibfjbapicjicab", sum := "cf6873f66edd30f8fa743a1696a85dff3b574a113c19e13b380ba9e9d7967fcb", func := "deckhand/deckhandlaw25.PackPuts", spec := "packPuts", unfollowed := true, recurses := true, apart := false }
def PackPutsSaid : Prop := packPutsRow.holds Try.pinned (OpenSpec.ofChange packPutsSpec)

/-- ITS FALSE NEIGHBOUR: 'it returns false'. Refute it at one input. -/
def packPutsWrong : ChangeSpec := { name := "packPuts", fn := fun _ => fun
  | [d1, d2, d3] => { results := [.lit (.bool false)], args := [d1, d2, d3] }
  | _ => none }
def PackPutsWrongFalsely : Prop := packPutsRow.holds Try.pinned (OpenSpec.ofChange packPutsWrong)

/-- 'deckhandlaw25.PackReads': WHATEVER THE INPUT: true; the input reads as it did. -/
def packReadsSpec : ChangeSpec := { name := "packReads", fn := fun _ => fun
  | [d1, d2] => { results := [.lit (.bool true)], args := [d1, d2] }
  | _ => none }
def packReadsRow : OpenClaim := { program := "ytibfjbapicjicab", sum := "cf6873f66edd30f8fa743a1696a85dff3b574a113c19e13b380ba9e9d7967fcb", func := "deckhand/deckhandlaw25.PackReads", spec := "packReads", unfollowed := true, recurses := true, apart := false }
def PackReadsSaid : Prop := packReadsRow.holds Try.pinned (OpenSpec.ofChange packReadsSpec)

/-- ITS FALSE NEIGHBOUR: 'it returns false'. Refute it at one input. -/
def packReadsWrong : ChangeSpec := { name := "packReads", fn := fun _ => fun
  | [d1, d2] => { results := [.lit (.bool false)], args := [d1, d2] }
  | _ => none }
def PackReadsWrongFalsely : Prop := packReadsRow.holds Try.pinned (OpenSpec.ofChange packReadsWrong)

/-- 'deckhandlaw25.PackNobody': WHATEVER THE INPUT: true; the input reads as it did. -/
def packNobodySpec : ChangeSpec := { name := "packNobody", fn := fun _ => fun
  | [d] => { results := [.lit (.bool true)], args := [d] }
  | _ => none }
def packNobodyRow : OpenClaim := { program := "ytibfjbapicjicab", sum := "cf6873f66edd30f8fa743a1696a85dff3b574a113c19e13b380ba9e9d7967fcb", func := "deckhand/deckhandlaw25.PackNobody", spec := "packNobody", unfollowed := true, recurses := true, apart := false }
def PackNobodySaid : Prop := packNobodyRow.holds Try.pinned (OpenSpec.ofChange packNobodySpec)

/-- ITS FALSE NEIGHBOUR: 'it returns false'. Refute it at one input. -/
def packNobodyWrong : ChangeSpec := { name := "packNobody", fn := fun _ => fun
  | [d] => { results := [.lit (.bool false)], args := [d] }
  | _ => none }
def PackNobodyWrongFalsely : Prop := packNobodyRow.holds Try.pinned (OpenSpec.ofChange packNobodyWrong)

/-- 'deckhandlaw07.RailChecks': WHATEVER THE INPUT: true; the input reads as it did. -/
def railChecksSpec : ChangeSpec := { name := "railChecks", fn := fun _ => fun
  | [d1, d2] => { results := [.lit (.bool true)], args := [d1, d2] }
  | _ => none }
def railChecksRow : OpenClaim := { program := "ytibfjbapicjicab", sum := "cf6873f66edd30f8fa743a1696a85dff3b574a113c19e13b380ba9e9d7967fcb", func := "deckhand/deckhandlaw07.RailChecks", spec := "railChecks", inPlace := ["math.Float64frombits", "math.Float64bits"], apart := false }
def RailChecksSaid : Prop := railChecksRow.holds Try.pinned (OpenSpec.ofChange railChecksSpec)

/-- ITS FALSE NEIGHBOUR: 'it returns false'. Refute it at one input. -/
def railChecksWrong : ChangeSpec := { name := "railChecks", fn := fun _ => fun
  | [d1, d2] => { results := [.lit (.bool false)], args := [d1, d2] }
  | _ => none }
def RailChecksWrongFalsely : Prop := railChecksRow.holds Try.pinned (OpenSpec.ofChange railChecksWrong)

/- THE SECOND FORM. 'bulk': how many values and letters a reading holds, each counted each time it is reached (what is shared counts as often as it is met; a slice's spare places count too). A statement '..UptoSaid' is the law's where the arguments, and the package variables that the reading takes, are together of bulk at most 1048576: NARROWER than '..Said'. Prove '..Said' where nothing that the law and all that it calls make is longer than what came in: it says more and counts as full. Else prove '..UptoSaid'. A law counts once. -/
mutual
def uptoBulk {H : Type} : DataW H → Nat
  | .lit (.string bytes) => bytes.length + 1
  | .lit _ => 1
  | .nil => 1
  | .ptr d => uptoBulk d + 1
  | .slice elems spare => uptoBulkAll elems + uptoBulkAll spare + 1
  | .agg parts => uptoBulkAll parts + 1
  | .iface _ d => uptoBulk d + 1
  | .map entries => uptoBulkEntries entries + 1
  | .held _ => 1
def uptoBulkAll {H : Type} : List (DataW H) → Nat
  | [] => 0
  | d :: r => uptoBulk d + uptoBulkAll r
def uptoBulkEntries {H : Type} : List (Lit × DataW H) → Nat
  | [] => 0
  | x :: r => uptoBulkEntry x + uptoBulkEntries r
def uptoBulkEntry {H : Type} : Lit × DataW H → Nat
  | (.string bytes, d) => bytes.length + uptoBulk d + 1
  | (_, d) => uptoBulk d + 1
 end
def uptoSmall : (H : Type) → List (DataW H) → Bool := fun _ ds => decide (uptoBulkAll ds ≤ 1048576)
def OpenSpec.upto (s : _root_.Go.ChangeSpec) : _root_.Go.OpenSpec := { _root_.Go.OpenSpec.ofChange s with cond := some uptoSmall }

/-- 'deckhandlaw25.PackPuts', WHERE WHAT IT READS IS OF BULK AT MOST 1048576: true; the input reads as it did. -/
def packPutsUptoRow : OpenClaim := { program := "ytibfjbapicjicab", sum := "cf6873f66edd30f8fa743a1696a85dff3b574a113c19e13b380ba9e9d7967fcb", func := "deckhand/deckhandlaw25.PackPuts", spec := "packPuts", unfollowed := true, recurses := true, apart := false, narrowed := true }
def PackPutsUptoSaid : Prop := packPutsUptoRow.holds Try.pinned (OpenSpec.upto packPutsSpec)

/-- 'deckhandlaw25.PackReads', WHERE WHAT IT READS IS OF BULK AT MOST 1048576: true; the input reads as it did. -/
def packReadsUptoRow : OpenClaim := { program := "ytibfjbapicjicab", sum := "cf6873f66edd30f8fa743a1696a85dff3b574a113c19e13b380ba9e9d7967fcb", func := "deckhand/deckhandlaw25.PackReads", spec := "packReads", unfollowed := true, recurses := true, apart := false, narrowed := true }
def PackReadsUptoSaid : Prop := packReadsUptoRow.holds Try.pinned (OpenSpec.upto packReadsSpec)

/-- 'deckhandlaw25.PackNobody', WHERE WHAT IT READS IS OF BULK AT MOST 1048576: true; the input reads as it did. -/
def packNobodyUptoRow : OpenClaim := { program := "ytibfjbapicjicab", sum := "cf6873f66edd30f8fa743a1696a85dff3b574a113c19e13b380ba9e9d7967fcb", func := "deckhand/deckhandlaw25.PackNobody", spec := "packNobody", unfollowed := true, recurses := true, apart := false, narrowed := true }
def PackNobodyUptoSaid : Prop := packNobodyUptoRow.holds Try.pinned (OpenSpec.upto packNobodySpec)

/-- 'deckhandlaw07.RailChecks', WHERE WHAT IT READS IS OF BULK AT MOST 1048576: true; the input reads as it did. -/
def railChecksUptoRow : OpenClaim := { program := "ytibfjbapicjicab", sum := "cf6873f66edd30f8fa743a1696a85dff3b574a113c19e13b380ba9e9d7967fcb", func := "deckhand/deckhandlaw07.RailChecks", spec := "railChecks", inPlace := ["math.Float64frombits", "math.Float64bits"], apart := false, narrowed := true }
def RailChecksUptoSaid : Prop := railChecksUptoRow.holds Try.pinned (OpenSpec.upto railChecksSpec)

end Rows
end Go.Proofs.Ytibfjbapicjicab
