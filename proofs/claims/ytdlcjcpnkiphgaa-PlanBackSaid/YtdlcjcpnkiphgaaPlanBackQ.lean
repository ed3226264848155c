/-
  'draylaw9.PlanBack' is proved: whatever is handed in, the law returns true. No condition.
-/
import Derived.Test.YtdlcjcpnkiphgaaM17
import Derived.Test.YtdlcjcpnkiphgaaRows
import Derived.HandedShaped
set_option linter.all false
set_option maxRecDepth 100000
namespace Go.Proofs.Ytdlcjcpnkiphgaa
open Go.ChangeShapes Go.WideShapes Go.ChangeAt Go.RowKit Go.Lv

theorem Try.own : ownKnob Try.prog.godebug = none := by kernel_rfl
theorem Try.laidOut : laidOutB Try.prog = true := by kernel_rfl

theorem okds {L : Ly} {t1 t2 : Nat} {css : List (List D)} (h : OkDs L [t1, t2] css) (z : SzDs L [t1, t2] css) : ∃ c1 c2, css = [c1, c2] ∧ OkD L 12 t1 c1 ∧ OkD L 12 t2 c2 ∧ SzD L 12 t1 c1 ∧ SzD L 12 t2 c2 := by
  match css, h, z with
  | [c1, c2], h, z => exact ⟨c1, c2, rfl, h.1.1, h.2.1.1, z.1, z.2.1⟩

theorem runs_lifted (os : Os) (started : os.Started) (H : Type) (enc : TypeId × Value → H) :
    ReturnsInHanded {} Try.checked os 9 .any (Rows.planBackSpec.pre6 enc Try.prog Try.f9 Rows.planBackRow.domain false) (Rows.planBackSpec.post enc Try.prog Try.f9 false true false false) := by
  refine returnsInHanded_of_change_shaped (C := Try.checked) Try.own started (by kernel_rfl) Try.func9
    (ChangeSpec.witness6 (enc := enc) (C := Try.checked) false ⟨#[], #[.slice none 0 0, .slice none 0 0], []⟩ 8 (by kernel_rfl) (by kernel_rfl) (by kernel_rfl) (by kernel_rfl)) ?_
  intro W base args ds gs before hval hW _ hZ _ _
  refine row_callsZ hLT Try.laidOut (tb := 4) Try.func9 (by kernel_rfl) (by kernel_rfl) (by kernel_rfl) (by kernel_rfl) (fun H ds h => ?_) (fun css h z => ?_) W base args ds gs before hval hW hZ
  · match ds, h with
    | [_, _], _ => rfl
  · obtain ⟨c1, c2, rfl, h1, h2, z1, z2⟩ := okds (show OkDs LT [28, 44] css from h) z
    obtain ⟨p, rfl, hp⟩ := okPlan (n := 7) (m := 9) h1 z1
    obtain ⟨bs, rfl, hb, hby⟩ := okBytes (n := 10) (m := 11) h2 z2
    exact l9 p hp bs hb hby

theorem runs_holds : Rows.PlanBackSaid :=
  OpenClaim.holds_of_wide 9 Try.f9 rfl rfl rfl rfl rfl rfl rfl ⟨rfl, rfl, rfl, rfl, rfl⟩ rfl rfl rfl rfl rfl (by kernel_rfl) Try.func9 (by kernel_rfl)
    (of_decide_eq_true (by kernel_rfl)) (by unfold Func.isWrapper; first | (rw [if_pos (by decide +kernel)]; kernel_rfl) | (rw [if_neg (by decide +kernel)]; exact ⟨rfl, rfl⟩))
    (fun os started H enc _ => runs_lifted os started H enc)

end Go.Proofs.Ytdlcjcpnkiphgaa
