/-
  'draylaw18.SessionPlays' is proved: whatever is handed in, the law returns true. No condition.
-/
import Derived.Test.YtpfoccpolaggiaaRows
import Derived.Test.YtpfoccpolaggiaaW5
import Derived.Test.YtpfoccpolaggiaaA35
set_option linter.all false
set_option maxRecDepth 100000
namespace Go.Proofs.Ytpfoccpolaggiaa
open Go.ChangeShapes Go.WideShapes Go.ChangeAt Go.RowKit Go.Lv

theorem Try.own : ownKnob Try.prog.godebug = none := by kernel_rfl
theorem Try.laidOut : laidOutB Try.prog = true := by kernel_rfl

theorem runs_lifted (os : Os) (started : os.Started) (H : Type) (enc : TypeId × Value → H) :
    ReturnsInHanded {} Try.checked os 5 .any (Rows.sessionPlaysSpec.pre6 enc Try.prog Try.f5 Rows.sessionPlaysRow.domain false) (Rows.sessionPlaysSpec.post enc Try.prog Try.f5 false true false false) := by
  refine returnsInHanded_of_change (C := Try.checked) Try.own started (by kernel_rfl) Try.func5
    (ChangeSpec.witness6 (enc := enc) (C := Try.checked) false ⟨#[], #[.slice none 0 0], []⟩ 8 (by kernel_rfl) (by kernel_rfl) (by kernel_rfl) (by kernel_rfl)) ?_
  intro W base args ds gs before hval hW _ _
  refine row_calls hLT Try.laidOut (tb := 4) Try.func5 (by kernel_rfl) (by kernel_rfl) (by kernel_rfl) (by kernel_rfl) (fun H ds h => ?_) (fun css h => ?_) W base args ds gs before hval hW
  · match ds, h with
    | [_], _ => rfl
  · match css, h with
    | [c1], ⟨⟨h1, _⟩, _⟩ =>
      obtain ⟨al, rfl, hal, hlen⟩ := okAsksF (n := 8) h1
      exact t5 al hal hlen

theorem runs_holds : Rows.SessionPlaysSaid :=
  OpenClaim.holds_of_wide 5 Try.f5 rfl rfl rfl rfl rfl rfl rfl ⟨rfl, rfl, rfl, rfl, rfl⟩ rfl rfl rfl rfl rfl (by kernel_rfl) Try.func5 (by kernel_rfl)
    (of_decide_eq_true (by kernel_rfl)) (by unfold Func.isWrapper; first | (rw [if_pos (by decide +kernel)]; kernel_rfl) | (rw [if_neg (by decide +kernel)]; exact ⟨rfl, rfl⟩))
    (fun os started H enc _ => runs_lifted os started H enc)

end Go.Proofs.Ytpfoccpolaggiaa
