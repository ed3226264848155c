/-
  The library's sort of lists of numbers, as this program has them.
-/
import Derived.Shelf.Lay
import Derived.Shelf.Sort.Plain
import Derived.Shelf.Slices.In.SortNone
import Derived.Ground.NamesProg
import Derived.Test.YtelkaojiekkoeaaSS
import Derived.Test.YtelkaojiekkoeaaA36
import Derived.KernelRfl
set_option linter.all false
namespace Go.Proofs
open Go.Shelf
shelf_lay Lays.n189 Nm 189 at Try as Try.lays189
end Go.Proofs
namespace Go.Lv
open Go Go.Proofs Go.Sort

theorem sortC : TurnC Try.prog 88 sortI where
  fn := ⟨_, Try.func88, rfl, rfl⟩
  len := fun zs => (sortI_perm zs).length_eq
  nil := fun p cap w => Any.slices_Sort_int_none Try.lays189 p cap w
  some := fun blk off cap zs w hH hb hz => by
    have := Any.slices_Sort_int Try.lays189 blk off cap zs w hH hb hz
    rw [mergeSort_sortI] at this
    exact this
def EH : Ev := { L := LT, S := SS, hk := fun f T s o => if f = 88 then some (turnHk sortI T s o) else none }
theorem EHok : EvOk Try.prog EH where
  L := hLT
  m := by kernel_rfl
  hk := fun f T s o s' x args tys caps _ _ ho hx h => by
    simp only [EH] at h
    split at h
    · rename_i e
      subst e
      exact turnHk_ok sortC ho hx (Option.some.inj h)
    · cases h
  sp := fun f g h => by cases h
end Go.Lv
