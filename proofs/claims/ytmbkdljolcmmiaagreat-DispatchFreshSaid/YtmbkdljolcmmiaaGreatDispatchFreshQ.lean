/-
  'draylaw16.DispatchFresh' is proved: whatever is handed in, the law returns true. No condition.
-/
import Derived.Test.YtmbkdljolcmmiaaGreatDispatchFreshE1
import Derived.Test.YtmbkdljolcmmiaaGreatRows
import Derived.HandedShaped
set_option linter.all false
set_option maxRecDepth 100000
namespace Go.Proofs.YtmbkdljolcmmiaaGreat
open Go.ChangeShapes Go.WideShapes Go.ChangeAt Go.RowKit Go.Lv

theorem Tryz.own : ownKnob Tryz.prog.godebug = none := by kernel_rfl
theorem Tryz.laidOut : laidOutB Tryz.prog = true := by kernel_rfl

theorem okds {L : Ly} {t1 : Nat} {css : List (List D)} (h : OkDs L [t1] css) (z : SzDs L [t1] css) : ∃ c1, css = [c1] ∧ OkD L 12 t1 c1 ∧ SzD L 12 t1 c1 := by
  match css, h, z with
  | [c1], h, z => exact ⟨c1, rfl, h.1.1, z.1⟩

theorem runs_lifted (os : Os) (started : os.Started) (H : Type) (enc : TypeId × Value → H) :
    ReturnsInHanded {} Tryz.checked os 4 .any (Rows.dispatchFreshSpec.pre6 enc Tryz.prog Tryz.f4 Rows.dispatchFreshRow.domain false) (Rows.dispatchFreshSpec.post enc Tryz.prog Tryz.f4 false true false false) := by
  refine returnsInHanded_of_change_shaped (C := Tryz.checked) Tryz.own started (by kernel_rfl) Tryz.func4
    (ChangeSpec.witness6 (enc := enc) (C := Tryz.checked) false ⟨#[], #[.agg #[.int .i64 0, .slice none 0 0, .slice none 0 0, .slice none 0 0, .slice none 0 0]], []⟩ 8 (by kernel_rfl) (by kernel_rfl) (by kernel_rfl) (by kernel_rfl)) ?_
  intro W base args ds gs before hval hW _ hZ _ _
  refine row_callsZ hLT Tryz.laidOut (tb := 4) Tryz.func4 (by kernel_rfl) (by kernel_rfl) (by kernel_rfl) (by kernel_rfl) (fun H ds h => ?_) (fun css h z => ?_) W base args ds gs before hval hW hZ
  · match ds, h with
    | [_], _ => rfl
  · obtain ⟨c1, rfl, h1, z1⟩ := okds (show OkDs LT [48] css from h) z
    obtain ⟨k, l, ds, os, p, rfl, hl⟩ := okWorld (n := 6) (m := 10) h1 z1
    exact l_Fresh k l hl ds os p

theorem runs_holds : Rows.DispatchFreshSaid :=
  OpenClaim.holds_of_wide 4 Tryz.f4 rfl rfl rfl rfl rfl rfl rfl ⟨rfl, rfl, rfl, rfl, rfl⟩ rfl rfl rfl rfl rfl (by kernel_rfl) Tryz.func4 (by kernel_rfl)
    (of_decide_eq_true (by kernel_rfl)) (by unfold Func.isWrapper; first | (rw [if_pos (by decide +kernel)]; kernel_rfl) | (rw [if_neg (by decide +kernel)]; exact ⟨rfl, rfl⟩))
    (fun os started H enc _ => runs_lifted os started H enc)

end Go.Proofs.YtmbkdljolcmmiaaGreat
