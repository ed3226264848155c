/-
  'draylaw16.DispatchRuns' is proved: whatever the start, the law returns true. No condition.
-/
import Derived.Test.YtmbkdljolcmmiaaGreatDispatchRunsE2
import Derived.Test.YtmbkdljolcmmiaaGreatRows
import Derived.HandedShaped
set_option linter.all false
set_option maxRecDepth 100000
namespace Go.Proofs.YtmbkdljolcmmiaaGreat
open Go.ChangeShapes Go.WideShapes Go.ChangeAt Go.RowKit Go.Lv

theorem Tryz.own : ownKnob Tryz.prog.godebug = none := by kernel_rfl
theorem Tryz.laidOut : laidOutB Tryz.prog = true := by kernel_rfl

theorem runs_tri : Tri Tryz.prog 3 0 [] [] (fun d _ => d = .bool true) := tRuns.mono (fun d l h => h.1)

theorem runs_lifted (os : Os) (started : os.Started) (H : Type) (enc : TypeId × Value → H) :
    ReturnsInHanded {} Tryz.checked os 3 .any (Rows.dispatchRunsSpec.pre6 enc Tryz.prog Tryz.f3 Rows.dispatchRunsRow.domain false) (Rows.dispatchRunsSpec.post enc Tryz.prog Tryz.f3 false true false false) := by
  refine returnsInHanded_of_change_shaped (C := Tryz.checked) Tryz.own started (by kernel_rfl) Tryz.func3
    (ChangeSpec.witness6 (enc := enc) (C := Tryz.checked) false ⟨#[], #[], []⟩ 8 (by kernel_rfl) (by kernel_rfl) (by kernel_rfl) (by kernel_rfl)) ?_
  intro W base args ds gs before hval hW _ hZ _ _
  refine row_callsZ hLT Tryz.laidOut (tb := 4) Tryz.func3 (by kernel_rfl) (by kernel_rfl) (by kernel_rfl) (by kernel_rfl) (fun H ds h => ?_) (fun css h z => ?_) W base args ds gs before hval hW hZ
  · match ds, h with
    | [], _ => rfl
  · match css, h with
    | [], _ => exact runs_tri

theorem runs_holds : Rows.DispatchRunsSaid :=
  OpenClaim.holds_of_wide 3 Tryz.f3 rfl rfl rfl rfl rfl rfl rfl ⟨rfl, rfl, rfl, rfl, rfl⟩ rfl rfl rfl rfl rfl (by kernel_rfl) Tryz.func3 (by kernel_rfl)
    (of_decide_eq_true (by kernel_rfl)) (by unfold Func.isWrapper; first | (rw [if_pos (by decide +kernel)]; kernel_rfl) | (rw [if_neg (by decide +kernel)]; exact ⟨rfl, rfl⟩))
    (fun os started H enc _ => runs_lifted os started H enc)

end Go.Proofs.YtmbkdljolcmmiaaGreat
