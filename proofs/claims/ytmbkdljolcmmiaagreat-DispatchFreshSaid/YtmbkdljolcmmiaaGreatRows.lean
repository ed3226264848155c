/-
  No cell of these rows narrows 'for every input' (looked for: loops, veiled, ifaces, maps, wideKeys, modest, calm, conditions, laid).
  DERIVED. THE GIVEN ROWS OF THIS SEAT. 3 by the template 'for every input the law returns true; each argument reads behind the call as it read before'; 0 by the template 'total and deterministic' (their statements: YtmbkdljolcmmiaaGreatTotals.lean).
  GIVEN WITH THE SEED: the statements are not yours to turn. If you find one false, say at which input.
  Laid BY PROGRAM, IN A SANDBOX (cutbox-rows.mjs): the forced cells as the released guide's own fill.sh prints them over the translation bf6910f7a91efbe0… (all of the seat's roots in one cut). By AI agents, Wed Nov 11 2026. No macro, syntax, notation, axiom, sorry.
-/
import Derived.Test.YtmbkdljolcmmiaaGreatChecked
import GoSem.Claim
import GoSem.ClaimJoined
import GoSem.ClaimMapViews
import Derived.JoinedTies
import Derived.KernelRfl
namespace Go.Proofs.YtmbkdljolcmmiaaGreat
/- THE CELL 'sum', in the pinned program and in every row, IS THE sha256 OF THE DUMP (.gsa) THAT YtmbkdljolcmmiaaGreatProg.lean LOADS. Nothing in Lean hashes anything: it is a label: what it is worth is what the hold of that sum in a sandbox is worth. -/
noncomputable def Tryz.pinned : Pinned := { name := "ytmbkdljolcmmiaagreat", sum := "bf6910f7a91efbe0387541545f499ae58edb44d3901bee48f42f6554399ff8d4", checked := Tryz.checked }
namespace Rows
def none {H : Type} : Left H := { results := [], args := [] }

/-- 'draylaw16.DispatchRuns': WHATEVER THE INPUT: true; the input reads as it did. -/
def dispatchRunsSpec : ChangeSpec := { name := "dispatchRuns", fn := fun _ => fun
  | [] => { results := [.lit (.bool true)], args := [] }
  | _ => none }
def dispatchRunsRow : OpenClaim := { program := "ytmbkdljolcmmiaagreat", sum := "bf6910f7a91efbe0387541545f499ae58edb44d3901bee48f42f6554399ff8d4", func := "dray/draylaw16.DispatchRuns", spec := "dispatchRuns", unfollowed := true, recurses := true, plainKeys := false, apart := false }
def DispatchRunsSaid : Prop := dispatchRunsRow.holds Tryz.pinned (OpenSpec.ofChange dispatchRunsSpec)

/-- ITS FALSE NEIGHBOUR: 'it returns false'. Refute it at one input. -/
def dispatchRunsWrong : ChangeSpec := { name := "dispatchRuns", fn := fun _ => fun
  | [] => { results := [.lit (.bool false)], args := [] }
  | _ => none }
def DispatchRunsWrongFalsely : Prop := dispatchRunsRow.holds Tryz.pinned (OpenSpec.ofChange dispatchRunsWrong)

/-- 'draylaw16.DispatchFresh': WHATEVER THE INPUT: true; the input reads as it did. -/
def dispatchFreshSpec : ChangeSpec := { name := "dispatchFresh", fn := fun _ => fun
  | [d] => { results := [.lit (.bool true)], args := [d] }
  | _ => none }
def dispatchFreshRow : OpenClaim := { program := "ytmbkdljolcmmiaagreat", sum := "bf6910f7a91efbe0387541545f499ae58edb44d3901bee48f42f6554399ff8d4", func := "dray/draylaw16.DispatchFresh", spec := "dispatchFresh", unfollowed := true, recurses := true, plainKeys := false, apart := false }
def DispatchFreshSaid : Prop := dispatchFreshRow.holds Tryz.pinned (OpenSpec.ofChange dispatchFreshSpec)

/-- ITS FALSE NEIGHBOUR: 'it returns false'. Refute it at one input. -/
def dispatchFreshWrong : ChangeSpec := { name := "dispatchFresh", fn := fun _ => fun
  | [d] => { results := [.lit (.bool false)], args := [d] }
  | _ => none }
def DispatchFreshWrongFalsely : Prop := dispatchFreshRow.holds Tryz.pinned (OpenSpec.ofChange dispatchFreshWrong)

/-- 'draylaw19.LedgerRuns': WHATEVER THE INPUT: true; the input reads as it did. -/
def ledgerRunsSpec : ChangeSpec := { name := "ledgerRuns", fn := fun _ => fun
  | [] => { results := [.lit (.bool true)], args := [] }
  | _ => none }
def ledgerRunsRow : OpenClaim := { program := "ytmbkdljolcmmiaagreat", sum := "bf6910f7a91efbe0387541545f499ae58edb44d3901bee48f42f6554399ff8d4", func := "dray/draylaw19.LedgerRuns", spec := "ledgerRuns", unfollowed := true, recurses := true, plainKeys := false, apart := false }
def LedgerRunsSaid : Prop := ledgerRunsRow.holds Tryz.pinned (OpenSpec.ofChange ledgerRunsSpec)

/-- ITS FALSE NEIGHBOUR: 'it returns false'. Refute it at one input. -/
def ledgerRunsWrong : ChangeSpec := { name := "ledgerRuns", fn := fun _ => fun
  | [] => { results := [.lit (.bool false)], args := [] }
  | _ => none }
def LedgerRunsWrongFalsely : Prop := ledgerRunsRow.holds Tryz.pinned (OpenSpec.ofChange ledgerRunsWrong)

/- THE SECOND FORM. 'bulk': how many values and letters a reading holds, each counted each time it is reached (what is shared counts as often as it is met; a slice's spare places count too). A statement '..UptoSaid' is the law's where the arguments, and the package variables that the reading takes, are together of bulk at most 1048576: NARROWER than '..Said'. Prove '..Said' where nothing that the law and all that it calls make is longer than what came in: it says more and counts as full. Else prove '..UptoSaid'. A law counts once. -/
mutual
def uptoBulk {H : Type} : DataW H → Nat
  | .lit (.string bytes) => bytes.length + 1
  | .lit _ => 1
  | .nil => 1
  | .ptr d => uptoBulk d + 1
  | .slice elems spare => uptoBulkAll elems + uptoBulkAll spare + 1
  | .agg parts => uptoBulkAll parts + 1
  | .iface _ d => uptoBulk d + 1
  | .map entries => uptoBulkEntries entries + 1
  | .held _ => 1
def uptoBulkAll {H : Type} : List (DataW H) → Nat
  | [] => 0
  | d :: r => uptoBulk d + uptoBulkAll r
def uptoBulkEntries {H : Type} : List (Lit × DataW H) → Nat
  | [] => 0
  | x :: r => uptoBulkEntry x + uptoBulkEntries r
def uptoBulkEntry {H : Type} : Lit × DataW H → Nat
  | (.string bytes, d) => bytes.length + uptoBulk d + 1
  | (_, d) => uptoBulk d + 1
 end
def uptoSmall : (H : Type) → List (DataW H) → Bool := fun _ ds => decide (uptoBulkAll ds ≤ 1048576)
def OpenSpec.upto (s : _root_.Go.ChangeSpec) : _root_.Go.OpenSpec := { _root_.Go.OpenSpec.ofChange s with cond := some uptoSmall }

/-- 'draylaw16.DispatchRuns', WHERE WHAT IT READS IS OF BULK AT MOST 1048576: true; the input reads as it did. -/
def dispatchRunsUptoRow : OpenClaim := { program := "ytmbkdljolcmmiaagreat", sum := "bf6910f7a91efbe0387541545f499ae58edb44d3901bee48f42f6554399ff8d4", func := "dray/draylaw16.DispatchRuns", spec := "dispatchRuns", unfollowed := true, recurses := true, plainKeys := false, apart := false, narrowed := true }
def DispatchRunsUptoSaid : Prop := dispatchRunsUptoRow.holds Tryz.pinned (OpenSpec.upto dispatchRunsSpec)

/-- 'draylaw16.DispatchFresh', WHERE WHAT IT READS IS OF BULK AT MOST 1048576: true; the input reads as it did. -/
def dispatchFreshUptoRow : OpenClaim := { program := "ytmbkdljolcmmiaagreat", sum := "bf6910f7a91efbe0387541545f499ae58edb44d3901bee48f42f6554399ff8d4", func := "dray/draylaw16.DispatchFresh", spec := "dispatchFresh", unfollowed := true, recurses := true, plainKeys := false, apart := false, narrowed := true }
def DispatchFreshUptoSaid : Prop := dispatchFreshUptoRow.holds Tryz.pinned (OpenSpec.upto dispatchFreshSpec)

/-- 'draylaw19.LedgerRuns', WHERE WHAT IT READS IS OF BULK AT MOST 1048576: true; the input reads as it did. -/
def ledgerRunsUptoRow : OpenClaim := { program := "ytmbkdljolcmmiaagreat", sum := "bf6910f7a91efbe0387541545f499ae58edb44d3901bee48f42f6554399ff8d4", func := "dray/draylaw19.LedgerRuns", spec := "ledgerRuns", unfollowed := true, recurses := true, plainKeys := false, apart := false, narrowed := true }
def LedgerRunsUptoSaid : Prop := ledgerRunsUptoRow.holds Tryz.pinned (OpenSpec.upto ledgerRunsSpec)

end Rows
end Go.Proofs.YtmbkdljolcmmiaaGreat
