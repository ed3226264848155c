/-
  'draylaw19.LedgerRuns' is proved: whatever the start, the law returns true. No condition.
-/
import Derived.Test.YtmbkdljolcmmiaaGreatM17
import Derived.Test.YtmbkdljolcmmiaaGreatRows
import Derived.HandedShaped
set_option linter.all false
set_option maxRecDepth 100000
namespace Go.Proofs.YtmbkdljolcmmiaaGreat
open Go.ChangeShapes Go.WideShapes Go.ChangeAt Go.RowKit Go.Lv

theorem Tryz.own : ownKnob Tryz.prog.godebug = none := by kernel_rfl
theorem Tryz.laidOut : laidOutB Tryz.prog = true := by kernel_rfl

def trueR : Rz (D × List Ob) → Bool
  | .ok (.bool b, _) => b
  | _ => false
theorem trueR_tri {n k : Nat} {args : List D} (h : trueR (evF Tryz.prog EH n 0 k args []) = true) : Tri Tryz.prog k 0 args [] (fun d _ => d = .bool true) := by
  unfold trueR at h
  split at h
  · rename_i b l he
    subst h
    exact (evF_ok EHok n 0 k args [] _ _ he).1.mono fun d l hd => hd.1
  · cases h

theorem runs_tri : Tri Tryz.prog 5 0 [] [] (fun d _ => d = .bool true) := trueR_tri (n := 30) (by kernel_rfl)

theorem runs_lifted (os : Os) (started : os.Started) (H : Type) (enc : TypeId × Value → H) :
    ReturnsInHanded {} Tryz.checked os 5 .any (Rows.ledgerRunsSpec.pre6 enc Tryz.prog Tryz.f5 Rows.ledgerRunsRow.domain false) (Rows.ledgerRunsSpec.post enc Tryz.prog Tryz.f5 false true false false) := by
  refine returnsInHanded_of_change_shaped (C := Tryz.checked) Tryz.own started (by kernel_rfl) Tryz.func5
    (ChangeSpec.witness6 (enc := enc) (C := Tryz.checked) false ⟨#[], #[], []⟩ 8 (by kernel_rfl) (by kernel_rfl) (by kernel_rfl) (by kernel_rfl)) ?_
  intro W base args ds gs before hval hW _ hZ _ _
  refine row_callsZ hLT Tryz.laidOut (tb := 4) Tryz.func5 (by kernel_rfl) (by kernel_rfl) (by kernel_rfl) (by kernel_rfl) (fun H ds h => ?_) (fun css h z => ?_) W base args ds gs before hval hW hZ
  · match ds, h with
    | [], _ => rfl
  · match css, h with
    | [], _ => exact runs_tri

theorem runs_holds : Rows.LedgerRunsSaid :=
  OpenClaim.holds_of_wide 5 Tryz.f5 rfl rfl rfl rfl rfl rfl rfl ⟨rfl, rfl, rfl, rfl, rfl⟩ rfl rfl rfl rfl rfl (by kernel_rfl) Tryz.func5 (by kernel_rfl)
    (of_decide_eq_true (by kernel_rfl)) (by unfold Func.isWrapper; first | (rw [if_pos (by decide +kernel)]; kernel_rfl) | (rw [if_neg (by decide +kernel)]; exact ⟨rfl, rfl⟩))
    (fun os started H enc _ => runs_lifted os started H enc)

end Go.Proofs.YtmbkdljolcmmiaaGreat
