/-
  No cell of these rows narrows 'for every input' (looked for: loops, veiled, ifaces, maps, wideKeys, modest, calm, conditions, laid).
  DERIVED. THE GIVEN ROWS OF THIS SEAT. 9 by the template 'for every input the law returns true; each argument reads behind the call as it read before'; 0 by the template 'total and deterministic' (their statements: YtelkaojiekkoeaaTotals.lean).
  GIVEN WITH THE SEED: the statements are not yours to turn. If you find one false, say at which input.
  Laid BY PROGRAM, IN A SANDBOX (cutbox-rows.mjs): the forced cells as the released guide's own fill.sh prints them over the translation da99bdf2188e26be… (all of the seat's roots in one cut). By AI agents, Wed Nov 11 2026. No macro, syntax, notation, axiom, sorry.
-/
import Derived.Test.YtelkaojiekkoeaaChecked
import GoSem.Claim
import GoSem.ClaimJoined
import GoSem.ClaimMapViews
import Derived.JoinedTies
import Derived.KernelRfl
namespace Go.Proofs.Ytelkaojiekkoeaa
/- THE CELL 'sum', in the pinned program and in every row, IS THE sha256 OF THE DUMP (.gsa) THAT YtelkaojiekkoeaaProg.lean LOADS. Nothing in Lean hashes anything: it is a label: what it is worth is what the hold of that sum in a sandbox is worth. -/
noncomputable def Try.pinned : Pinned := { name := "ytelkaojiekkoeaa", sum := "da99bdf2188e26be6c81e8313847fb90152517eadfed65c6fc61fb8baa1c676a", checked := Try.checked }
namespace Rows
def none {H : Type} : Left H := { results := [], args := [] }

/-- 'draylaw25.RaftRuns': WHATEVER THE INPUT: true; the input reads as it did. -/
def raftRunsSpec : ChangeSpec := { name := "raftRuns", fn := fun _ => fun
  | [] => { results := [.lit (.bool true)], args := [] }
  | _ => none }
def raftRunsRow : OpenClaim := { program := "ytelkaojiekkoeaa", sum := "da99bdf2188e26be6c81e8313847fb90152517eadfed65c6fc61fb8baa1c676a", func := "dray/draylaw25.RaftRuns", spec := "raftRuns", recurses := true, apart := false }
def RaftRunsSaid : Prop := raftRunsRow.holds Try.pinned (OpenSpec.ofChange raftRunsSpec)

/-- ITS FALSE NEIGHBOUR: 'it returns false'. Refute it at one input. -/
def raftRunsWrong : ChangeSpec := { name := "raftRuns", fn := fun _ => fun
  | [] => { results := [.lit (.bool false)], args := [] }
  | _ => none }
def RaftRunsWrongFalsely : Prop := raftRunsRow.holds Try.pinned (OpenSpec.ofChange raftRunsWrong)

/-- 'draylaw25.RaftAgrees': WHATEVER THE INPUT: true; the input reads as it did. -/
def raftAgreesSpec : ChangeSpec := { name := "raftAgrees", fn := fun _ => fun
  | [d1, d2] => { results := [.lit (.bool true)], args := [d1, d2] }
  | _ => none }
def raftAgreesRow : OpenClaim := { program := "ytelkaojiekkoeaa", sum := "da99bdf2188e26be6c81e8313847fb90152517eadfed65c6fc61fb8baa1c676a", func := "dray/draylaw25.RaftAgrees", spec := "raftAgrees", recurses := true, apart := false }
def RaftAgreesSaid : Prop := raftAgreesRow.holds Try.pinned (OpenSpec.ofChange raftAgreesSpec)

/-- ITS FALSE NEIGHBOUR: 'it returns false'. Refute it at one input. -/
def raftAgreesWrong : ChangeSpec := { name := "raftAgrees", fn := fun _ => fun
  | [d1, d2] => { results := [.lit (.bool false)], args := [d1, d2] }
  | _ => none }
def RaftAgreesWrongFalsely : Prop := raftAgreesRow.holds Try.pinned (OpenSpec.ofChange raftAgreesWrong)

/-- 'draylaw25.RaftLeads': WHATEVER THE INPUT: true; the input reads as it did. -/
def raftLeadsSpec : ChangeSpec := { name := "raftLeads", fn := fun _ => fun
  | [d1, d2] => { results := [.lit (.bool true)], args := [d1, d2] }
  | _ => none }
def raftLeadsRow : OpenClaim := { program := "ytelkaojiekkoeaa", sum := "da99bdf2188e26be6c81e8313847fb90152517eadfed65c6fc61fb8baa1c676a", func := "dray/draylaw25.RaftLeads", spec := "raftLeads", recurses := true, apart := false }
def RaftLeadsSaid : Prop := raftLeadsRow.holds Try.pinned (OpenSpec.ofChange raftLeadsSpec)

/-- ITS FALSE NEIGHBOUR: 'it returns false'. Refute it at one input. -/
def raftLeadsWrong : ChangeSpec := { name := "raftLeads", fn := fun _ => fun
  | [d1, d2] => { results := [.lit (.bool false)], args := [d1, d2] }
  | _ => none }
def RaftLeadsWrongFalsely : Prop := raftLeadsRow.holds Try.pinned (OpenSpec.ofChange raftLeadsWrong)

/-- 'draylaw25.RaftMatches': WHATEVER THE INPUT: true; the input reads as it did. -/
def raftMatchesSpec : ChangeSpec := { name := "raftMatches", fn := fun _ => fun
  | [d1, d2] => { results := [.lit (.bool true)], args := [d1, d2] }
  | _ => none }
def raftMatchesRow : OpenClaim := { program := "ytelkaojiekkoeaa", sum := "da99bdf2188e26be6c81e8313847fb90152517eadfed65c6fc61fb8baa1c676a", func := "dray/draylaw25.RaftMatches", spec := "raftMatches", recurses := true, apart := false }
def RaftMatchesSaid : Prop := raftMatchesRow.holds Try.pinned (OpenSpec.ofChange raftMatchesSpec)

/-- ITS FALSE NEIGHBOUR: 'it returns false'. Refute it at one input. -/
def raftMatchesWrong : ChangeSpec := { name := "raftMatches", fn := fun _ => fun
  | [d1, d2] => { results := [.lit (.bool false)], args := [d1, d2] }
  | _ => none }
def RaftMatchesWrongFalsely : Prop := raftMatchesRow.holds Try.pinned (OpenSpec.ofChange raftMatchesWrong)

/-- 'draylaw25.RaftRaces': WHATEVER THE INPUT: true; the input reads as it did. -/
def raftRacesSpec : ChangeSpec := { name := "raftRaces", fn := fun _ => fun
  | [d1, d2, d3] => { results := [.lit (.bool true)], args := [d1, d2, d3] }
  | _ => none }
def raftRacesRow : OpenClaim := { program := "ytelkaojiekkoeaa", sum := "da99bdf2188e26be6c81e8313847fb90152517eadfed65c6fc61fb8baa1c676a", func := "dray/draylaw25.RaftRaces", spec := "raftRaces", recurses := true, apart := false }
def RaftRacesSaid : Prop := raftRacesRow.holds Try.pinned (OpenSpec.ofChange raftRacesSpec)

/-- ITS FALSE NEIGHBOUR: 'it returns false'. Refute it at one input. -/
def raftRacesWrong : ChangeSpec := { name := "raftRaces", fn := fun _ => fun
  | [d1, d2, d3] => { results := [.lit (.bool false)], args := [d1, d2, d3] }
  | _ => none }
def RaftRacesWrongFalsely : Prop := raftRacesRow.holds Try.pinned (OpenSpec.ofChange raftRacesWrong)

/-- 'draylaw25.RaftLives': WHATEVER THE INPUT: true; the input reads as it did. -/
def raftLivesSpec : ChangeSpec := { name := "raftLives", fn := fun _ => fun
  | [d1, d2, d3] => { results := [.lit (.bool true)], args := [d1, d2, d3] }
  | _ => none }
def raftLivesRow : OpenClaim := { program := "ytelkaojiekkoeaa", sum := "da99bdf2188e26be6c81e8313847fb90152517eadfed65c6fc61fb8baa1c676a", func := "dray/draylaw25.RaftLives", spec := "raftLives", recurses := true, apart := false }
def RaftLivesSaid : Prop := raftLivesRow.holds Try.pinned (OpenSpec.ofChange raftLivesSpec)

/-- ITS FALSE NEIGHBOUR: 'it returns false'. Refute it at one input. -/
def raftLivesWrong : ChangeSpec := { name := "raftLives", fn := fun _ => fun
  | [d1, d2, d3] => { results := [.lit (.bool false)], args := [d1, d2, d3] }
  | _ => none }
def RaftLivesWrongFalsely : Prop := raftLivesRow.holds Try.pinned (OpenSpec.ofChange raftLivesWrong)

/-- 'draylaw25.RaftPlays': WHATEVER THE INPUT: true; the input reads as it did. -/
def raftPlaysSpec : ChangeSpec := { name := "raftPlays", fn := fun _ => fun
  | [d1, d2, d3, d4, d5] => { results := [.lit (.bool true)], args := [d1, d2, d3, d4, d5] }
  | _ => none }
def raftPlaysRow : OpenClaim := { program := "ytelkaojiekkoeaa", sum := "da99bdf2188e26be6c81e8313847fb90152517eadfed65c6fc61fb8baa1c676a", func := "dray/draylaw25.RaftPlays", spec := "raftPlays", recurses := true, apart := false }
def RaftPlaysSaid : Prop := raftPlaysRow.holds Try.pinned (OpenSpec.ofChange raftPlaysSpec)

/-- ITS FALSE NEIGHBOUR: 'it returns false'. Refute it at one input. -/
def raftPlaysWrong : ChangeSpec := { name := "raftPlays", fn := fun _ => fun
  | [d1, d2, d3, d4, d5] => { results := [.lit (.bool false)], args := [d1, d2, d3, d4, d5] }
  | _ => none }
def RaftPlaysWrongFalsely : Prop := raftPlaysRow.holds Try.pinned (OpenSpec.ofChange raftPlaysWrong)

/-- 'draylaw25.RaftKept': WHATEVER THE INPUT: true; the input reads as it did. -/
def raftKeptSpec : ChangeSpec := { name := "raftKept", fn := fun _ => fun
  | [d1, d2] => { results := [.lit (.bool true)], args := [d1, d2] }
  | _ => none }
def raftKeptRow : OpenClaim := { program := "ytelkaojiekkoeaa", sum := "da99bdf2188e26be6c81e8313847fb90152517eadfed65c6fc61fb8baa1c676a", func := "dray/draylaw25.RaftKept", spec := "raftKept", recurses := true, apart := false }
def RaftKeptSaid : Prop := raftKeptRow.holds Try.pinned (OpenSpec.ofChange raftKeptSpec)

/-- ITS FALSE NEIGHBOUR: 'it returns false'. Refute it at one input. -/
def raftKeptWrong : ChangeSpec := { name := "raftKept", fn := fun _ => fun
  | [d1, d2] => { results := [.lit (.bool false)], args := [d1, d2] }
  | _ => none }
def RaftKeptWrongFalsely : Prop := raftKeptRow.holds Try.pinned (OpenSpec.ofChange raftKeptWrong)

/-- 'draylaw25.RaftHolds': WHATEVER THE INPUT: true; the input reads as it did. -/
def raftHoldsSpec : ChangeSpec := { name := "raftHolds", fn := fun _ => fun
  | [d1, d2, d3, d4, d5] => { results := [.lit (.bool true)], args := [d1, d2, d3, d4, d5] }
  | _ => none }
def raftHoldsRow : OpenClaim := { program := "ytelkaojiekkoeaa", sum := "da99bdf2188e26be6c81e8313847fb90152517eadfed65c6fc61fb8baa1c676a", func := "dray/draylaw25.RaftHolds", spec := "raftHolds", recurses := true, apart := false }
def RaftHoldsSaid : Prop := raftHoldsRow.holds Try.pinned (OpenSpec.ofChange raftHoldsSpec)

/-- ITS FALSE NEIGHBOUR: 'it returns false'. Refute it at one input. -/
def raftHoldsWrong : ChangeSpec := { name := "raftHolds", fn := fun _ => fun
  | [d1, d2, d3, d4, d5] => { results := [.lit (.bool false)], args := [d1, d2, d3, d4, d5] }
  | _ => none }
def RaftHoldsWrongFalsely : Prop := raftHoldsRow.holds Try.pinned (OpenSpec.ofChange raftHoldsWrong)

/- THE SECOND FORM. 'bulk': how many values and letters a reading holds, each counted each time it is reached (what is shared counts as often as it is met; a slice's spare places count too). A statement '..UptoSaid' is the law's where the arguments, and the package variables that the reading takes, are together of bulk at most 1048576: NARROWER than '..Said'. Prove '..Said' where nothing that the law and all that it calls make is longer than what came in: it says more and counts as full. Else prove '..UptoSaid'. A law counts once. -/
mutual
def uptoBulk {H : Type} : DataW H → Nat
  | .lit (.string bytes) => bytes.length + 1
  | .lit _ => 1
  | .nil => 1
  | .ptr d => uptoBulk d + 1
  | .slice elems spare => uptoBulkAll elems + uptoBulkAll spare + 1
  | .agg parts => uptoBulkAll parts + 1
  | .iface _ d => uptoBulk d + 1
  | .map entries => uptoBulkEntries entries + 1
  | .held _ => 1
def uptoBulkAll {H : Type} : List (DataW H) → Nat
  | [] => 0
  | d :: r => uptoBulk d + uptoBulkAll r
def uptoBulkEntries {H : Type} : List (Lit × DataW H) → Nat
  | [] => 0
  | x :: r => uptoBulkEntry x + uptoBulkEntries r
def uptoBulkEntry {H : Type} : Lit × DataW H → Nat
  | (.string bytes, d) => bytes.length + uptoBulk d + 1
  | (_, d) => uptoBulk d + 1
 end
def uptoSmall : (H : Type) → List (DataW H) → Bool := fun _ ds => decide (uptoBulkAll ds ≤ 1048576)
def OpenSpec.upto (s : _root_.Go.ChangeSpec) : _root_.Go.OpenSpec := { _root_.Go.OpenSpec.ofChange s with cond := some uptoSmall }

/-- 'draylaw25.RaftRuns', WHERE WHAT IT READS IS OF BULK AT MOST 1048576: true; the input reads as it did. -/
def raftRunsUptoRow : OpenClaim := { program := "ytelkaojiekkoeaa", sum := "da99bdf2188e26be6c81e8313847fb90152517eadfed65c6fc61fb8baa1c676a", func := "dray/draylaw25.RaftRuns", spec := "raftRuns", recurses := true, apart := false, narrowed := true }
def RaftRunsUptoSaid : Prop := raftRunsUptoRow.holds Try.pinned (OpenSpec.upto raftRunsSpec)

/-- 'draylaw25.RaftAgrees', WHERE WHAT IT READS IS OF BULK AT MOST 1048576: true; the input reads as it did. -/
def raftAgreesUptoRow : OpenClaim := { program := "ytelkaojiekkoeaa", sum := "da99bdf2188e26be6c81e8313847fb90152517eadfed65c6fc61fb8baa1c676a", func := "dray/draylaw25.RaftAgrees", spec := "raftAgrees", recurses := true, apart := false, narrowed := true }
def RaftAgreesUptoSaid : Prop := raftAgreesUptoRow.holds Try.pinned (OpenSpec.upto raftAgreesSpec)

/-- 'draylaw25.RaftLeads', WHERE WHAT IT READS IS OF BULK AT MOST 1048576: true; the input reads as it did. -/
def raftLeadsUptoRow : OpenClaim := { program := "ytelkaojiekkoeaa", sum := "da99bdf2188e26be6c81e8313847fb90152517eadfed65c6fc61fb8baa1c676a", func := "dray/draylaw25.RaftLeads", spec := "raftLeads", recurses := true, apart := false, narrowed := true }
def RaftLeadsUptoSaid : Prop := raftLeadsUptoRow.holds Try.pinned (OpenSpec.upto raftLeadsSpec)

/-- 'draylaw25.RaftMatches', WHERE WHAT IT READS IS OF BULK AT MOST 1048576: true; the input reads as it did. -/
def raftMatchesUptoRow : OpenClaim := { program := "ytelkaojiekkoeaa", sum := "da99bdf2188e26be6c81e8313847fb90152517eadfed65c6fc61fb8baa1c676a", func := "dray/draylaw25.RaftMatches", spec := "raftMatches", recurses := true, apart := false, narrowed := true }
def RaftMatchesUptoSaid : Prop := raftMatchesUptoRow.holds Try.pinned (OpenSpec.upto raftMatchesSpec)

/-- 'draylaw25.RaftRaces', WHERE WHAT IT READS IS OF BULK AT MOST 1048576: true; the input reads as it did. -/
def raftRacesUptoRow : OpenClaim := { program := "ytelkaojiekkoeaa", sum := "da99bdf2188e26be6c81e8313847fb90152517eadfed65c6fc61fb8baa1c676a", func := "dray/draylaw25.RaftRaces", spec := "raftRaces", recurses := true, apart := false, narrowed := true }
def RaftRacesUptoSaid : Prop := raftRacesUptoRow.holds Try.pinned (OpenSpec.upto raftRacesSpec)

/-- 'draylaw25.RaftLives', WHERE WHAT IT READS IS OF BULK AT MOST 1048576: true; the input reads as it did. -/
def raftLivesUptoRow : OpenClaim := { program := "ytelkaojiekkoeaa", sum := "da99bdf2188e26be6c81e8313847fb90152517eadfed65c6fc61fb8baa1c676a", func := "dray/draylaw25.RaftLives", spec := "raftLives", recurses := true, apart := false, narrowed := true }
def RaftLivesUptoSaid : Prop := raftLivesUptoRow.holds Try.pinned (OpenSpec.upto raftLivesSpec)

/-- 'draylaw25.RaftPlays', WHERE WHAT IT READS IS OF BULK AT MOST 1048576: true; the input reads as it did. -/
def raftPlaysUptoRow : OpenClaim := { program := "ytelkaojiekkoeaa", sum := "da99bdf2188e26be6c81e8313847fb90152517eadfed65c6fc61fb8baa1c676a", func := "dray/draylaw25.RaftPlays", spec := "raftPlays", recurses := true, apart := false, narrowed := true }
def RaftPlaysUptoSaid : Prop := raftPlaysUptoRow.holds Try.pinned (OpenSpec.upto raftPlaysSpec)

/-- 'draylaw25.RaftKept', WHERE WHAT IT READS IS OF BULK AT MOST 1048576: true; the input reads as it did. -/
def raftKeptUptoRow : OpenClaim := { program := "ytelkaojiekkoeaa", sum := "da99bdf2188e26be6c81e8313847fb90152517eadfed65c6fc61fb8baa1c676a", func := "dray/draylaw25.RaftKept", spec := "raftKept", recurses := true, apart := false, narrowed := true }
def RaftKeptUptoSaid : Prop := raftKeptUptoRow.holds Try.pinned (OpenSpec.upto raftKeptSpec)

/-- 'draylaw25.RaftHolds', WHERE WHAT IT READS IS OF BULK AT MOST 1048576: true; the input reads as it did. -/
def raftHoldsUptoRow : OpenClaim := { program := "ytelkaojiekkoeaa", sum := "da99bdf2188e26be6c81e8313847fb90152517eadfed65c6fc61fb8baa1c676a", func := "dray/draylaw25.RaftHolds", spec := "raftHolds", recurses := true, apart := false, narrowed := true }
def RaftHoldsUptoSaid : Prop := raftHoldsUptoRow.holds Try.pinned (OpenSpec.upto raftHoldsSpec)

end Rows
end Go.Proofs.Ytelkaojiekkoeaa
