/-
  'draylaw25.RaftRuns' is proved: whatever the start, the law returns true. No condition.
-/
import Derived.Test.YtelkaojiekkoeaaRows
import Derived.Test.YtelkaojiekkoeaaHk
import Derived.Test.YtelkaojiekkoeaaA35
set_option linter.all false
set_option maxRecDepth 100000
namespace Go.Proofs.Ytelkaojiekkoeaa
open Go.ChangeShapes Go.WideShapes Go.ChangeAt Go.RowKit Go.Lv

theorem Try.own : ownKnob Try.prog.godebug = none := by kernel_rfl
theorem Try.laidOut : laidOutB Try.prog = true := by kernel_rfl

def trueR : Rz (D × List Ob) → Bool
  | .ok (.bool b, _) => b
  | _ => false
theorem trueR_tri {n k : Nat} {args : List D} (h : trueR (evF Try.prog EH n 0 k args []) = true) : Tri Try.prog k 0 args [] (fun d _ => d = .bool true) := by
  unfold trueR at h
  split at h
  · rename_i b l he
    subst h
    exact (evF_ok EHok n 0 k args [] _ _ he).1.mono fun d l hd => hd.1
  · cases h

theorem runs_tri : Tri Try.prog 3 0 [] [] (fun d _ => d = .bool true) := trueR_tri (n := 25) (by kernel_rfl)

theorem runs_lifted (os : Os) (started : os.Started) (H : Type) (enc : TypeId × Value → H) :
    ReturnsInHanded {} Try.checked os 3 .any (Rows.raftRunsSpec.pre6 enc Try.prog Try.f3 Rows.raftRunsRow.domain false) (Rows.raftRunsSpec.post enc Try.prog Try.f3 false true false false) := by
  refine returnsInHanded_of_change (C := Try.checked) Try.own started (by kernel_rfl) Try.func3
    (ChangeSpec.witness6 (enc := enc) (C := Try.checked) false ⟨#[], #[], []⟩ 8 (by kernel_rfl) (by kernel_rfl) (by kernel_rfl) (by kernel_rfl)) ?_
  intro W base args ds gs before hval hW _ _
  refine row_calls hLT Try.laidOut (tb := 4) Try.func3 (by kernel_rfl) (by kernel_rfl) (by kernel_rfl) (by kernel_rfl) (fun H ds h => ?_) (fun css h => ?_) W base args ds gs before hval hW
  · match ds, h with
    | [], _ => rfl
  · match css, h with
    | [], _ => exact runs_tri

theorem runs_holds : Rows.RaftRunsSaid :=
  OpenClaim.holds_of_wide 3 Try.f3 rfl rfl rfl rfl rfl rfl rfl ⟨rfl, rfl, rfl, rfl, rfl⟩ rfl rfl rfl rfl rfl (by kernel_rfl) Try.func3 (by kernel_rfl)
    (of_decide_eq_true (by kernel_rfl)) (by unfold Func.isWrapper; first | (rw [if_pos (by decide +kernel)]; kernel_rfl) | (rw [if_neg (by decide +kernel)]; exact ⟨rfl, rfl⟩))
    (fun os started H enc _ => runs_lifted os started H enc)

end Go.Proofs.Ytelkaojiekkoeaa
