/-
  The library's sort of lists of numbers, as this program has them.
-/
import Derived.Shelf.Lay
import Derived.Shelf.Sort.Plain
import Derived.Shelf.Slices.In.SortNone
import Derived.Ground.NamesProg
import Derived.Test.YtpfoccpolaggiaaSS
import Derived.Test.YtpfoccpolaggiaaA36
import Derived.KernelRfl
set_option linter.all false
namespace Go.Proofs
open Go.Shelf
shelf_lay Lays.n189 Nm 189 at Try as Try.lays189
end Go.Proofs
namespace Go.Lv
open Go Go.Proofs Go.Sort

theorem sortC : TurnC Try.prog 32 sortI where
  fn := ⟨_, Try.func32, rfl, rfl⟩
  len := fun zs => (sortI_perm zs).length_eq
  nil := fun p cap w => Any.slices_Sort_int_none Try.lays189 p cap w
  some := fun blk off cap zs w hH hb hz => by
    have := Any.slices_Sort_int Try.lays189 blk off cap zs w hH hb hz
    rw [mergeSort_sortI] at this
    exact this
noncomputable def E18 : Ev := { L := LT, S := (3, { ko := [0] }) :: SS }
theorem E18ok : EvOk Try.prog E18 := ⟨fun f g h => (by cases h), hLT, by kernel_rfl, fun f T s o s' x args tys caps _ _ _ _ h => by cases h⟩
noncomputable def trueR : Rz (D × List Ob) → Bool
  | .ok (.bool b, []) => b
  | _ => false
theorem trueR_tri {n k : Nat} {args : List D} (h : trueR (evF Try.prog E18 n 0 k args []) = true) : Tri Try.prog k 0 args [] (fun d l => d = .bool true ∧ l = []) := by
  unfold trueR at h
  split at h
  · rename_i b he
    subst h
    exact (evF_ok E18ok n 0 k args [] _ _ he).1
  · cases h
/-- The closed sentence. -/
theorem t3 : Tri Try.prog 3 0 [] [] (fun d l => d = .bool true ∧ l = []) := trueR_tri (n := 20) (by kernel_rfl)
end Go.Lv
