/-
  'draylaw9.PlanTells' is proved where what it reads is of bulk at most 1048576: the law returns true.
-/
import Derived.Test.YtdlcjcpnkiphgaaM17
import Derived.Test.YtdlcjcpnkiphgaaRows
set_option linter.all false
set_option maxRecDepth 100000
namespace Go.Proofs.Ytdlcjcpnkiphgaa
open Go.ChangeShapes Go.WideShapes Go.ChangeAt Go.RowKit Go.Lv

theorem Try.own : ownKnob Try.prog.godebug = none := by kernel_rfl
theorem Try.laidOut : laidOutB Try.prog = true := by kernel_rfl

mutual
theorem bulk_eq {H : Type} : ∀ d : DataW H, Rows.uptoBulk d = bulkW d
  | .lit l => by cases l <;> simp only [Rows.uptoBulk, bulkW]
  | .nil => by simp only [Rows.uptoBulk, bulkW]
  | .ptr d => by simp only [Rows.uptoBulk, bulkW, bulk_eq d]
  | .slice elems spare => by simp only [Rows.uptoBulk, bulkW, bulk_eqA elems, bulk_eqA spare]
  | .agg parts => by simp only [Rows.uptoBulk, bulkW, bulk_eqA parts]
  | .iface _ d => by simp only [Rows.uptoBulk, bulkW, bulk_eq d]
  | .map entries => by simp only [Rows.uptoBulk, bulkW, bulk_eqE entries]
  | .held _ => by simp only [Rows.uptoBulk, bulkW]
theorem bulk_eqA {H : Type} : ∀ l : List (DataW H), Rows.uptoBulkAll l = bulkWA l
  | [] => by simp only [Rows.uptoBulkAll, bulkWA]
  | d :: r => by simp only [Rows.uptoBulkAll, bulkWA, bulk_eq d, bulk_eqA r]
theorem bulk_eqE {H : Type} : ∀ l : List (Lit × DataW H), Rows.uptoBulkEntries l = bulkWE l
  | [] => by simp only [Rows.uptoBulkEntries, bulkWE]
  | x :: r => by simp only [Rows.uptoBulkEntries, bulkWE, bulk_eqX x, bulk_eqE r]
theorem bulk_eqX {H : Type} : ∀ x : Lit × DataW H, Rows.uptoBulkEntry x = bulkW1 x
  | (l, d) => by cases l <;> simp only [Rows.uptoBulkEntry, bulkW1, bulk_eq d]
end

theorem okds {L : Ly} {t1 t2 : Nat} {css : List (List D)} (h : OkDs L [t1, t2] css) : ∃ c1 c2, css = [c1, c2] ∧ OkD L 12 t1 c1 ∧ OkD L 12 t2 c2 := by
  match css, h with
  | [c1, c2], h => exact ⟨c1, c2, rfl, h.1.1, h.2.1.1⟩

theorem runs_lifted (os : Os) (started : os.Started) (H : Type) (enc : TypeId × Value → H) (F : Stop.Interp) :
    ReturnsInHanded {} Try.checked os 4 .any ((Rows.OpenSpec.upto Rows.planTellsSpec).pre6 enc Try.prog Try.f4 Rows.planTellsUptoRow.domain false) (((Rows.OpenSpec.upto Rows.planTellsSpec).at F).post enc Try.prog Try.f4 false true false false) := by
  refine returnsInHanded_of_cond (C := Try.checked) (s := Rows.OpenSpec.upto Rows.planTellsSpec) (k := Rows.uptoSmall) rfl Try.own started (by kernel_rfl) Try.func4
    (OpenSpec.witness (enc := enc) (C := Try.checked) rfl false ⟨#[], #[.slice none 0 0, .int .i64 0], []⟩ 8 (by kernel_rfl) (by kernel_rfl) (by kernel_rfl) (x := ([.nil, .lit (.int .i64 0)], [], [])) (by kernel_rfl) (by kernel_rfl) (by kernel_rfl)) ?_
  intro W base args ds gs before hval hW _ hk _
  have hk : Rows.uptoBulkAll (ds ++ gs) ≤ 1048576 := of_decide_eq_true hk
  rw [bulk_eqA] at hk
  have hle : bulkWA ds ≤ 1048576 := by
    have app : ∀ a b : List (DataW H), bulkWA a ≤ bulkWA (a ++ b) := by
      intro a b
      induction a with
      | nil => simp [bulkWA]
      | cons x a ih => simp only [List.cons_append, bulkWA]; omega
    exact Nat.le_trans (app ds gs) hk
  refine row_callsB (s := Rows.planTellsSpec) hLT Try.laidOut (tb := 4) Try.func4 (by kernel_rfl) (by kernel_rfl) (by kernel_rfl) (by kernel_rfl) (fun H ds h => ?_) (fun css h hB => ?_) W base args ds gs before hval hW hle
  · match ds, h with
    | [_, _], _ => rfl
  · obtain ⟨c1, c2, rfl, h1, h2⟩ := okds (show OkDs LT [28, 3] css from h)
    obtain ⟨p, rfl⟩ := okPlanB (n := 7) h1
    obtain ⟨o, rfl, _⟩ := h2
    have hb : bulkLL [[encP p], [.int .i64 o]] ≤ 1048576 := hB
    have he : bulkLL [[encP p], [.int .i64 o]] = bulkLL (p.map rowR) + 1 + 1 := by simp only [bulkLL, bulkL, encP, bulkD, Nat.add_zero]
    obtain ⟨q1, q2, q3⟩ := bulk_P p
    exact l4 p ⟨by omega, fun r hr => by have := q3 r hr; omega⟩ (by omega) o

theorem runs_holds : Rows.PlanTellsUptoSaid :=
  OpenClaim.holds_of_cond 4 Try.f4 rfl rfl rfl rfl rfl rfl rfl ⟨rfl, rfl, rfl, rfl, rfl⟩ rfl rfl rfl rfl rfl (by kernel_rfl) Try.func4 (by kernel_rfl)
    (of_decide_eq_true (by kernel_rfl)) (by unfold Func.isWrapper; first | (rw [if_pos (by decide +kernel)]; kernel_rfl) | (rw [if_neg (by decide +kernel)]; exact ⟨rfl, rfl⟩))
    (fun os started H enc _ F => runs_lifted os started H enc F)

end Go.Proofs.Ytdlcjcpnkiphgaa
