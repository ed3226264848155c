/-
  'draylaw13.RepairBetter' is proved: whatever is handed in, the law returns true. No condition.
-/
import Derived.Test.YtbddalnnhelinaaRepairBetterE2
import Derived.Test.YtbddalnnhelinaaRows
import Derived.HandedShaped
set_option linter.all false
set_option maxRecDepth 100000
namespace Go.Proofs.Ytbddalnnhelinaa
open Go.ChangeShapes Go.WideShapes Go.ChangeAt Go.RowKit Go.Lv

theorem Try.own : ownKnob Try.prog.godebug = none := by kernel_rfl
theorem Try.laidOut : laidOutB Try.prog = true := by kernel_rfl

theorem okds {L : Ly} {t1 t2 t3 : Nat} {css : List (List D)} (h : OkDs L [t1, t2, t3] css) (z : SzDs L [t1, t2, t3] css) : ∃ c1 c2 c3, css = [c1, c2, c3] ∧ OkD L 12 t1 c1 ∧ OkD L 12 t2 c2 ∧ OkD L 12 t3 c3 ∧ SzD L 12 t1 c1 ∧ SzD L 12 t2 c2 ∧ SzD L 12 t3 c3 := by
  match css, h, z with
  | [c1, c2, c3], h, z => exact ⟨c1, c2, c3, rfl, h.1.1, h.2.1.1, h.2.2.1.1, z.1, z.2.1, z.2.2.1⟩

theorem runs_lifted (os : Os) (started : os.Started) (H : Type) (enc : TypeId × Value → H) :
    ReturnsInHanded {} Try.checked os 7 .any (Rows.repairBetterSpec.pre6 enc Try.prog Try.f7 Rows.repairBetterRow.domain false) (Rows.repairBetterSpec.post enc Try.prog Try.f7 false true false false) := by
  refine returnsInHanded_of_change_shaped (C := Try.checked) Try.own started (by kernel_rfl) Try.func7
    (ChangeSpec.witness6 (enc := enc) (C := Try.checked) false ⟨#[], #[.agg #[.int .i64 0, .slice none 0 0, .slice none 0 0, .slice none 0 0, .slice none 0 0], .int .i64 0, .bool false], []⟩ 8 (by kernel_rfl) (by kernel_rfl) (by kernel_rfl) (by kernel_rfl)) ?_
  intro W base args ds gs before hval hW _ hZ _ _
  refine row_callsZ hLT Try.laidOut (tb := 4) Try.func7 (by kernel_rfl) (by kernel_rfl) (by kernel_rfl) (by kernel_rfl) (fun H ds h => ?_) (fun css h z => ?_) W base args ds gs before hval hW hZ
  · match ds, h with
    | [_, _, _], _ => rfl
  · obtain ⟨c1, c2, c3, rfl, h1, h2, h3, z1, z2, z3⟩ := okds (show OkDs LT [54, 3, 4] css from h) z
    obtain ⟨k, l, ds, os, p, rfl, hl, hp⟩ := okWorldQ (n := 6) (m := 8) h1 z1
    obtain ⟨B, rfl, _⟩ := h2
    obtain ⟨al, rfl⟩ := h3
    exact l_Better k l hl ds os p hp B al

theorem runs_holds : Rows.RepairBetterSaid :=
  OpenClaim.holds_of_wide 7 Try.f7 rfl rfl rfl rfl rfl rfl rfl ⟨rfl, rfl, rfl, rfl, rfl⟩ rfl rfl rfl rfl rfl (by kernel_rfl) Try.func7 (by kernel_rfl)
    (of_decide_eq_true (by kernel_rfl)) (by unfold Func.isWrapper; first | (rw [if_pos (by decide +kernel)]; kernel_rfl) | (rw [if_neg (by decide +kernel)]; exact ⟨rfl, rfl⟩))
    (fun os started H enc _ => runs_lifted os started H enc)

end Go.Proofs.Ytbddalnnhelinaa
