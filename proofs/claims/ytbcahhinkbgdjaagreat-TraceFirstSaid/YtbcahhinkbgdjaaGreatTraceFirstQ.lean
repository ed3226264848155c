/-
  'draylaw29.TraceFirst' is proved: whatever is handed in, the law returns true. No condition.
-/
import Derived.Test.YtbcahhinkbgdjaaGreatTraceFirstE3
import Derived.Test.YtbcahhinkbgdjaaGreatRows
import Derived.HandedShaped
set_option linter.all false
set_option maxRecDepth 100000
namespace Go.Proofs.YtbcahhinkbgdjaaGreat
open Go.ChangeShapes Go.WideShapes Go.ChangeAt Go.RowKit Go.Lv

theorem Tryz.own : ownKnob Tryz.prog.godebug = none := by kernel_rfl
theorem Tryz.laidOut : laidOutB Tryz.prog = true := by kernel_rfl

theorem okds {L : Ly} {t1 t2 t3 : Nat} {css : List (List D)} (h : OkDs L [t1, t2, t3] css) (z : SzDs L [t1, t2, t3] css) : ∃ c1 c2 c3, css = [c1, c2, c3] ∧ OkD L 12 t1 c1 ∧ OkD L 12 t2 c2 ∧ OkD L 12 t3 c3 ∧ SzD L 12 t1 c1 ∧ SzD L 12 t2 c2 ∧ SzD L 12 t3 c3 := by
  match css, h, z with
  | [c1, c2, c3], h, z => exact ⟨c1, c2, c3, rfl, h.1.1, h.2.1.1, h.2.2.1.1, z.1, z.2.1, z.2.2.1⟩

theorem runs_lifted (os : Os) (started : os.Started) (H : Type) (enc : TypeId × Value → H) :
    ReturnsInHanded {} Tryz.checked os 5 .any (Rows.traceFirstSpec.pre6 enc Tryz.prog Tryz.f5 Rows.traceFirstRow.domain false) (Rows.traceFirstSpec.post enc Tryz.prog Tryz.f5 false true false false) := by
  refine returnsInHanded_of_change_shaped (C := Tryz.checked) Tryz.own started (by kernel_rfl) Tryz.func5
    (ChangeSpec.witness6 (enc := enc) (C := Tryz.checked) false ⟨#[], #[.slice none 0 0, .int .i64 0, .int .i64 0], []⟩ 8 (by kernel_rfl) (by kernel_rfl) (by kernel_rfl) (by kernel_rfl)) ?_
  intro W base args ds gs before hval hW _ hZ _ _
  refine row_callsZ hLT Tryz.laidOut (tb := 4) Tryz.func5 (by kernel_rfl) (by kernel_rfl) (by kernel_rfl) (by kernel_rfl) (fun H ds h => ?_) (fun css h z => ?_) W base args ds gs before hval hW hZ
  · match ds, h with
    | [_, _, _], _ => rfl
  · obtain ⟨c1, c2, c3, rfl, h1, h2, h3, z1, z2, z3⟩ := okds (show OkDs LT [44, 3, 3] css from h) z
    obtain ⟨l, rfl, hl, hb⟩ := okLog (n := 10) (m := 10) h1 z1
    obtain ⟨s, rfl, _⟩ := h2
    obtain ⟨n, rfl, _⟩ := h3
    exact l_First l hl hb s n

theorem runs_holds : Rows.TraceFirstSaid :=
  OpenClaim.holds_of_wide 5 Tryz.f5 rfl rfl rfl rfl rfl rfl rfl ⟨rfl, rfl, rfl, rfl, rfl⟩ rfl rfl rfl rfl rfl (by kernel_rfl) Tryz.func5 (by kernel_rfl)
    (of_decide_eq_true (by kernel_rfl)) (by unfold Func.isWrapper; first | (rw [if_pos (by decide +kernel)]; kernel_rfl) | (rw [if_neg (by decide +kernel)]; exact ⟨rfl, rfl⟩))
    (fun os started H enc _ => runs_lifted os started H enc)

end Go.Proofs.YtbcahhinkbgdjaaGreat
