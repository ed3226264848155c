/-
  'draylaw9.PlanThere' is proved: whatever is handed in, the law returns true. No condition.
-/
import Derived.Test.YtdlcjcpnkiphgaaM16
import Derived.Test.YtdlcjcpnkiphgaaRows
import Derived.HandedShaped
set_option linter.all false
set_option maxRecDepth 100000
namespace Go.Proofs.Ytdlcjcpnkiphgaa
open Go.ChangeShapes Go.WideShapes Go.ChangeAt Go.RowKit Go.Lv

theorem Try.own : ownKnob Try.prog.godebug = none := by kernel_rfl
theorem Try.laidOut : laidOutB Try.prog = true := by kernel_rfl

theorem okds {L : Ly} {t1 t2 t3 : Nat} {css : List (List D)} (h : OkDs L [t1, t2, t3] css) (z : SzDs L [t1, t2, t3] css) : ∃ c1 c2 c3, css = [c1, c2, c3] ∧ OkD L 12 t1 c1 ∧ OkD L 12 t2 c2 ∧ OkD L 12 t3 c3 ∧ SzD L 12 t1 c1 ∧ SzD L 12 t2 c2 ∧ SzD L 12 t3 c3 := by
  match css, h, z with
  | [c1, c2, c3], h, z => exact ⟨c1, c2, c3, rfl, h.1.1, h.2.1.1, h.2.2.1.1, z.1, z.2.1, z.2.2.1⟩

theorem runs_lifted (os : Os) (started : os.Started) (H : Type) (enc : TypeId × Value → H) :
    ReturnsInHanded {} Try.checked os 10 .any (Rows.planThereSpec.pre6 enc Try.prog Try.f10 Rows.planThereRow.domain false) (Rows.planThereSpec.post enc Try.prog Try.f10 false true false false) := by
  refine returnsInHanded_of_change_shaped (C := Try.checked) Try.own started (by kernel_rfl) Try.func10
    (ChangeSpec.witness6 (enc := enc) (C := Try.checked) false ⟨#[], #[.slice none 0 0, .int .i64 0, .agg #[.int .i64 0, .int .i64 0, .int .i64 0, .int .i64 0]], []⟩ 8 (by kernel_rfl) (by kernel_rfl) (by kernel_rfl) (by kernel_rfl)) ?_
  intro W base args ds gs before hval hW _ hZ _ _
  refine row_callsZ hLT Try.laidOut (tb := 4) Try.func10 (by kernel_rfl) (by kernel_rfl) (by kernel_rfl) (by kernel_rfl) (fun H ds h => ?_) (fun css h z => ?_) W base args ds gs before hval hW hZ
  · match ds, h with
    | [_, _, _], _ => rfl
  · obtain ⟨c1, c2, c3, rfl, h1, h2, h3, z1, z2, z3⟩ := okds (show OkDs LT [28, 3, 30] css from h) z
    obtain ⟨p, rfl, hp⟩ := okPlan (n := 7) (m := 9) h1 z1
    obtain ⟨o, rfl, _⟩ := h2
    obtain ⟨s, rfl, _⟩ := okSpot (n := 10) h3
    exact l10 p hp o s

theorem runs_holds : Rows.PlanThereSaid :=
  OpenClaim.holds_of_wide 10 Try.f10 rfl rfl rfl rfl rfl rfl rfl ⟨rfl, rfl, rfl, rfl, rfl⟩ rfl rfl rfl rfl rfl (by kernel_rfl) Try.func10 (by kernel_rfl)
    (of_decide_eq_true (by kernel_rfl)) (by unfold Func.isWrapper; first | (rw [if_pos (by decide +kernel)]; kernel_rfl) | (rw [if_neg (by decide +kernel)]; exact ⟨rfl, rfl⟩))
    (fun os started H enc _ => runs_lifted os started H enc)

end Go.Proofs.Ytdlcjcpnkiphgaa
