/-
  'draylaw18.SessionBack' is proved: whatever is handed in, the law returns true. No condition.
-/
import Derived.Test.YtpfoccpolaggiaaRows
import Derived.Test.YtpfoccpolaggiaaW10
import Derived.Test.YtpfoccpolaggiaaA35
set_option linter.all false
set_option maxRecDepth 100000
namespace Go.Proofs.Ytpfoccpolaggiaa
open Go.ChangeShapes Go.WideShapes Go.ChangeAt Go.RowKit Go.Lv

theorem Try.own : ownKnob Try.prog.godebug = none := by kernel_rfl
theorem Try.laidOut : laidOutB Try.prog = true := by kernel_rfl

theorem okds {L : Ly} {t1 t2 : Nat} {css : List (List D)} (h : OkDs L [t1, t2] css) : ∃ c1 c2, css = [c1, c2] ∧ OkD L 12 t1 c1 ∧ OkD L 12 t2 c2 := by
  match css, h with
  | [c1, c2], h => exact ⟨c1, c2, rfl, h.1.1, h.2.1.1⟩

theorem runs_lifted (os : Os) (started : os.Started) (H : Type) (enc : TypeId × Value → H) :
    ReturnsInHanded {} Try.checked os 9 .any (Rows.sessionBackSpec.pre6 enc Try.prog Try.f9 Rows.sessionBackRow.domain false) (Rows.sessionBackSpec.post enc Try.prog Try.f9 false true false false) := by
  refine returnsInHanded_of_change (C := Try.checked) Try.own started (by kernel_rfl) Try.func9
    (ChangeSpec.witness6 (enc := enc) (C := Try.checked) false ⟨#[], #[.slice none 0 0, .slice none 0 0], []⟩ 8 (by kernel_rfl) (by kernel_rfl) (by kernel_rfl) (by kernel_rfl)) ?_
  intro W base args ds gs before hval hW _ _
  refine row_calls hLT Try.laidOut (tb := 4) Try.func9 (by kernel_rfl) (by kernel_rfl) (by kernel_rfl) (by kernel_rfl) (fun H ds h => ?_) (fun css h => ?_) W base args ds gs before hval hW
  · match ds, h with
    | [_, _], _ => rfl
  · obtain ⟨c1, c2, rfl, h1, h2⟩ := okds (show OkDs LT [32, 32] css from h)
    obtain ⟨al, rfl, hal, _⟩ := okAsksF (n := 8) h1
    obtain ⟨bl, rfl, hbl, _⟩ := okAsksF (n := 8) h2
    exact t9 al bl hal hbl

theorem runs_holds : Rows.SessionBackSaid :=
  OpenClaim.holds_of_wide 9 Try.f9 rfl rfl rfl rfl rfl rfl rfl ⟨rfl, rfl, rfl, rfl, rfl⟩ rfl rfl rfl rfl rfl (by kernel_rfl) Try.func9 (by kernel_rfl)
    (of_decide_eq_true (by kernel_rfl)) (by unfold Func.isWrapper; first | (rw [if_pos (by decide +kernel)]; kernel_rfl) | (rw [if_neg (by decide +kernel)]; exact ⟨rfl, rfl⟩))
    (fun os started H enc _ => runs_lifted os started H enc)

end Go.Proofs.Ytpfoccpolaggiaa
