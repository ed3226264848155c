/-
  The library's sort and compact of lists of numbers, as this program has them.
-/
import Derived.Shelf.Lay
import Derived.Shelf.Sort.Plain
import Derived.Shelf.Slices.CompactI
import Derived.Shelf.Slices.In.SortNone
import Derived.Ground.NamesProg
import Derived.Ground.Names2Prog
import Derived.Test.YtdlcjcpnkiphgaaSS
import Derived.Test.YtdlcjcpnkiphgaaA36
import Derived.KernelRfl
set_option linter.all false
namespace Go.Proofs
open Go.Shelf
shelf_lay Lays.n189 Nm 189 at Try as Try.lays189
shelf_lay Lays2.n20 Nm2 20 at Try as Try.lays220
end Go.Proofs
namespace Go.Lv
open Go Go.Proofs Go.Sort

theorem sortC : TurnC Try.prog 36 sortI where
  fn := ⟨_, Try.func36, rfl, rfl⟩
  len := fun zs => (sortI_perm zs).length_eq
  nil := fun p cap w => Any.slices_Sort_int_none Try.lays189 p cap w
  some := fun blk off cap zs w hH hb hz => by
    have := Any.slices_Sort_int Try.lays189 blk off cap zs w hH hb hz
    rw [mergeSort_sortI] at this
    exact this
theorem compC : CompC Try.prog 37 where
  fn := ⟨_, Try.func37, rfl, rfl, by decide⟩
  nil := fun p cap w => Any.slices_Compact_int_empty Try.lays220 p cap w
  some := fun blk off cap zs w hH hz hc => Any.slices_Compact_int Try.lays220 blk off cap zs w hH hz hc

def E9 : Ev := { L := LT, S := SS, hk := fun f T s o => if f = 36 then some (turnHk sortI T s o) else none, sp := fun f => if f = 37 then some compSp else none }
theorem E9ok : EvOk Try.prog E9 where
  L := hLT
  m := by kernel_rfl
  hk := fun f T s o s' x args tys caps _ _ ho hx h => by
    simp only [E9] at h
    split at h
    · rename_i e
      subst e
      exact turnHk_ok sortC ho hx (Option.some.inj h)
    · cases h
  sp := fun f g h r args sto d sto' hg => by
    simp only [E9] at h
    split at h
    · rename_i e
      subst e
      cases h
      exact compSp_ok compC hg
    · cases h
end Go.Lv
