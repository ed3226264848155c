/-
  Part 17 of the texts under the proof: an abstract run of loaded code on data, and what the functions do. No condition.
-/
import Derived.Test.YtmbkdljolcmmiaaGreatM16
import Derived.Shelf.Sort.Plain
import Derived.Shelf.Slices.CompactI
import Derived.Shelf.Slices.In.SortNone
import Derived.Shelf.SlSortCmp.NoneTotal
import Derived.Ground.SlsfProg
import Derived.Ground.NamesProg
import Derived.Ground.Names2Prog
import Derived.KernelRfl
set_option linter.all false
set_option maxRecDepth 100000
namespace Go.Proofs
open Go.Shelf Go.RowKit Go.Lib Go.Sort
def Tryz.lays189_ren : Go.Shelf.Ren := ⟨fun | 189 => 58 | 125 => 104 | 257 => 103 | 128 => 144 | 129 => 145 | 294 => 135 | 295 => 136 | 296 => 137 | 297 => 138 | 298 => 139 | 299 => 140 | 216 => 141 | 300 => 142 | 301 => 143 | 328 => 177 | 329 => 178 | 330 => 179 | 331 => 180 | 332 => 181 | 215 => 182 | 343 => 196 | n => n, fun | 28 => 42 | 3 => 3 | 46 => 190 | 0 => 0 | 51 => 233 | 53 => 223 | 4 => 4 | 183 => 227 | 182 => 226 | 131 => 160 | 5 => 5 | 9 => 9 | 218 => 266 | 222 => 270 | 228 => 289 | 229 => 290 | n => n, fun | n => n⟩
theorem Tryz.lays189 : Go.Proofs.Lays.n189 Tryz.prog Tryz.lays189_ren := {
  mixed := by kernel_rfl
  f125 := Tryz.func104.trans (congrArg some (by kernel_rfl))
  f128 := Tryz.func144.trans (congrArg some (by kernel_rfl))
  f129 := Tryz.func145.trans (congrArg some (by kernel_rfl))
  f189 := Tryz.func58.trans (congrArg some (by kernel_rfl))
  f215 := Tryz.func182.trans (congrArg some (by kernel_rfl))
  f216 := Tryz.func141.trans (congrArg some (by kernel_rfl))
  f257 := Tryz.func103.trans (congrArg some (by kernel_rfl))
  f294 := Tryz.func135.trans (congrArg some (by kernel_rfl))
  f295 := Tryz.func136.trans (congrArg some (by kernel_rfl))
  f296 := Tryz.func137.trans (congrArg some (by kernel_rfl))
  f297 := Tryz.func138.trans (congrArg some (by kernel_rfl))
  f298 := Tryz.func139.trans (congrArg some (by kernel_rfl))
  f299 := Tryz.func140.trans (congrArg some (by kernel_rfl))
  f300 := Tryz.func142.trans (congrArg some (by kernel_rfl))
  f301 := Tryz.func143.trans (congrArg some (by kernel_rfl))
  f328 := Tryz.func177.trans (congrArg some (by kernel_rfl))
  f329 := Tryz.func178.trans (congrArg some (by kernel_rfl))
  f330 := Tryz.func179.trans (congrArg some (by kernel_rfl))
  f331 := Tryz.func180.trans (congrArg some (by kernel_rfl))
  f332 := Tryz.func181.trans (congrArg some (by kernel_rfl))
  f343 := Tryz.func196.trans (congrArg some (by kernel_rfl))
  t0 := Tryz.underlying0
  a0 := Tryz.isAgg0
  z0 := Tryz.sizeOf0
  v0 := Tryz.zeroValue0
  t3 := Tryz.underlying3
  a3 := Tryz.isAgg3
  z3 := Tryz.sizeOf3
  v3 := Tryz.zeroValue3
  t4 := Tryz.underlying4
  a4 := Tryz.isAgg4
  z4 := Tryz.sizeOf4
  v4 := Tryz.zeroValue4
  t5 := Tryz.underlying5
  a5 := Tryz.isAgg5
  z5 := Tryz.sizeOf5
  v5 := Tryz.zeroValue5
  t9 := Tryz.underlying9
  a9 := Tryz.isAgg9
  z9 := Tryz.sizeOf9
  v9 := Tryz.zeroValue9
  t28 := Tryz.underlying42
  a28 := Tryz.isAgg42
  z28 := Tryz.sizeOf42
  v28 := Tryz.zeroValue42
  t46 := Tryz.underlying190
  a46 := Tryz.isAgg190
  z46 := Tryz.sizeOf190
  v46 := Tryz.zeroValue190
  t51 := Tryz.underlying233
  a51 := Tryz.isAgg233
  z51 := Tryz.sizeOf233
  v51 := Tryz.zeroValue233
  t53 := Tryz.underlying223
  a53 := Tryz.isAgg223
  z53 := Tryz.sizeOf223
  v53 := Tryz.zeroValue223
  t131 := Tryz.underlying160
  a131 := Tryz.isAgg160
  z131 := Tryz.sizeOf160
  v131 := Tryz.zeroValue160
  t182 := Tryz.underlying226
  a182 := Tryz.isAgg226
  z182 := Tryz.sizeOf226
  v182 := Tryz.zeroValue226
  t183 := Tryz.underlying227
  a183 := Tryz.isAgg227
  z183 := Tryz.sizeOf227
  v183 := Tryz.zeroValue227
  t218 := Tryz.underlying266
  a218 := Tryz.isAgg266
  z218 := Tryz.sizeOf266
  v218 := Tryz.zeroValue266
  t222 := Tryz.underlying270
  a222 := Tryz.isAgg270
  z222 := Tryz.sizeOf270
  v222 := Tryz.zeroValue270
  t228 := Tryz.underlying289
  a228 := Tryz.isAgg289
  z228 := Tryz.sizeOf289
  v228 := Tryz.zeroValue289
  t229 := Tryz.underlying290
  a229 := Tryz.isAgg290
  z229 := Tryz.sizeOf290
  v229 := Tryz.zeroValue290 }
def Tryz.lays220_ren : Go.Shelf.Ren := ⟨fun | 20 => 163 | n => n, fun | 22 => 42 | 3 => 3 | 4 => 4 | 0 => 0 | n => n, fun | n => n⟩
theorem Tryz.lays220 : Go.Proofs.Lays2.n20 Tryz.prog Tryz.lays220_ren := {
  mixed := by kernel_rfl
  f20 := Tryz.func163.trans (congrArg some (by kernel_rfl))
  t0 := Tryz.underlying0
  a0 := Tryz.isAgg0
  z0 := Tryz.sizeOf0
  v0 := Tryz.zeroValue0
  t3 := Tryz.underlying3
  a3 := Tryz.isAgg3
  z3 := Tryz.sizeOf3
  v3 := Tryz.zeroValue3
  t4 := Tryz.underlying4
  a4 := Tryz.isAgg4
  z4 := Tryz.sizeOf4
  v4 := Tryz.zeroValue4
  t22 := Tryz.underlying42
  a22 := Tryz.isAgg42
  z22 := Tryz.sizeOf42
  v22 := Tryz.zeroValue42
  i3 := by kernel_rfl }
def Tryz.sortOrd_ren : Go.Shelf.Ren := ⟨fun | 6 => 167 | 15 => 104 | 14 => 192 | 28 => 144 | 29 => 145 | 20 => 199 | 21 => 200 | 22 => 201 | 23 => 202 | 24 => 203 | 25 => 204 | 26 => 205 | 27 => 206 | 46 => 209 | 47 => 178 | 48 => 179 | 49 => 210 | 50 => 211 | 57 => 213 | n => n, fun | 22 => 44 | 24 => 31 | 25 => 254 | 3 => 3 | 39 => 190 | 0 => 0 | 53 => 233 | 55 => 223 | 4 => 4 | 46 => 227 | 45 => 226 | 50 => 160 | 5 => 5 | 9 => 9 | 66 => 266 | 70 => 270 | 76 => 289 | 77 => 290 | n => n, fun | n => n⟩
theorem Tryz.sortOrd : Go.Proofs.SlLaysF0.n6 Tryz.prog Tryz.sortOrd_ren := {
  mixed := by kernel_rfl
  f6 := ⟨Tryz.f167.name, by decide, Tryz.func167.trans (congrArg some (by kernel_rfl))⟩
  f14 := ⟨Tryz.f192.name, by decide, Tryz.func192.trans (congrArg some (by kernel_rfl))⟩
  f15 := Tryz.func104.trans (congrArg some (by kernel_rfl))
  f20 := ⟨Tryz.f199.name, by decide, Tryz.func199.trans (congrArg some (by kernel_rfl))⟩
  f21 := ⟨Tryz.f200.name, by decide, Tryz.func200.trans (congrArg some (by kernel_rfl))⟩
  f22 := ⟨Tryz.f201.name, by decide, Tryz.func201.trans (congrArg some (by kernel_rfl))⟩
  f23 := ⟨Tryz.f202.name, by decide, Tryz.func202.trans (congrArg some (by kernel_rfl))⟩
  f24 := ⟨Tryz.f203.name, by decide, Tryz.func203.trans (congrArg some (by kernel_rfl))⟩
  f25 := ⟨Tryz.f204.name, by decide, Tryz.func204.trans (congrArg some (by kernel_rfl))⟩
  f26 := ⟨Tryz.f205.name, by decide, Tryz.func205.trans (congrArg some (by kernel_rfl))⟩
  f27 := ⟨Tryz.f206.name, by decide, Tryz.func206.trans (congrArg some (by kernel_rfl))⟩
  f28 := Tryz.func144.trans (congrArg some (by kernel_rfl))
  f29 := Tryz.func145.trans (congrArg some (by kernel_rfl))
  f46 := ⟨Tryz.f209.name, by decide, Tryz.func209.trans (congrArg some (by kernel_rfl))⟩
  f47 := Tryz.func178.trans (congrArg some (by kernel_rfl))
  f48 := Tryz.func179.trans (congrArg some (by kernel_rfl))
  f49 := ⟨Tryz.f210.name, by decide, Tryz.func210.trans (congrArg some (by kernel_rfl))⟩
  f50 := ⟨Tryz.f211.name, by decide, Tryz.func211.trans (congrArg some (by kernel_rfl))⟩
  f57 := ⟨Tryz.f213.name, by decide, Tryz.func213.trans (congrArg some (by kernel_rfl))⟩
  t0 := Tryz.underlying0
  a0 := Tryz.isAgg0
  z0 := Tryz.sizeOf0
  v0 := Tryz.zeroValue0
  t3 := Tryz.underlying3
  a3 := Tryz.isAgg3
  z3 := Tryz.sizeOf3
  v3 := Tryz.zeroValue3
  t4 := Tryz.underlying4
  a4 := Tryz.isAgg4
  z4 := Tryz.sizeOf4
  v4 := Tryz.zeroValue4
  t5 := Tryz.underlying5
  a5 := Tryz.isAgg5
  z5 := Tryz.sizeOf5
  v5 := Tryz.zeroValue5
  t9 := Tryz.underlying9
  a9 := Tryz.isAgg9
  z9 := Tryz.sizeOf9
  v9 := Tryz.zeroValue9
  t22 := Tryz.underlying44
  a22 := Tryz.isAgg44
  z22 := Tryz.sizeOf44
  v22 := Tryz.zeroValue44
  t25 := Tryz.underlying254
  a25 := Tryz.isAgg254
  z25 := Tryz.sizeOf254
  v25 := Tryz.zeroValue254
  t39 := Tryz.underlying190
  a39 := Tryz.isAgg190
  z39 := Tryz.sizeOf190
  v39 := Tryz.zeroValue190
  t45 := Tryz.underlying226
  a45 := Tryz.isAgg226
  z45 := Tryz.sizeOf226
  v45 := Tryz.zeroValue226
  t46 := Tryz.underlying227
  a46 := Tryz.isAgg227
  z46 := Tryz.sizeOf227
  v46 := Tryz.zeroValue227
  t50 := Tryz.underlying160
  a50 := Tryz.isAgg160
  z50 := Tryz.sizeOf160
  v50 := Tryz.zeroValue160
  t53 := Tryz.underlying233
  a53 := Tryz.isAgg233
  z53 := Tryz.sizeOf233
  v53 := Tryz.zeroValue233
  t55 := Tryz.underlying223
  a55 := Tryz.isAgg223
  z55 := Tryz.sizeOf223
  v55 := Tryz.zeroValue223
  t66 := Tryz.underlying266
  a66 := Tryz.isAgg266
  z66 := Tryz.sizeOf266
  v66 := Tryz.zeroValue266
  t70 := Tryz.underlying270
  a70 := Tryz.isAgg270
  z70 := Tryz.sizeOf270
  v70 := Tryz.zeroValue270
  t76 := Tryz.underlying289
  a76 := Tryz.isAgg289
  z76 := Tryz.sizeOf289
  v76 := Tryz.zeroValue289
  t77 := Tryz.underlying290
  a77 := Tryz.isAgg290
  z77 := Tryz.sizeOf290
  v77 := Tryz.zeroValue290 }
set_option maxHeartbeats 1000000 in
theorem Tryz.closure168 (zx zy : Int) (a1 b1 a2 b2 a3 b3 a4 b4 a5 b5 a6 b6 a7 b7 a8 b8 a9 b9 : Value) (W : World) (h1 : -4611686018427387904 ≤ zx) (h2 : zx ≤ 4611686018427387903) (h3 : -4611686018427387904 ≤ zy) (h4 : zy ≤ 4611686018427387903) :
    Calls Tryz.prog 168 #[.agg #[.int .i64 zx, a1, a2, a3, a4, a5, a6, a7, a8, a9], .agg #[.int .i64 zy, b1, b2, b3, b4, b5, b6, b7, b8, b9]] W fun e w' => e = .returned (.int .i64 (zx - zy)) ∧ ∃ q os', w' = grow (W.drewN q) os' := by
  go_enter Tryz.func168, Tryz.ntmps168
  go_wp2
  go_ret
  exact ⟨rfl, 0, _, by rw [alloc_eq_grow, alloc_eq_grow, grow_grow]; rfl⟩
set_option maxHeartbeats 1000000 in
theorem Tryz.closure193 (zx zy : Int) (a1 b1 a2 b2 a3 b3 a4 b4 a5 b5 a6 b6 a7 b7 a8 b8 a9 b9 : Value) (W : World) (h1 : -4611686018427387904 ≤ zx) (h2 : zx ≤ 4611686018427387903) (h3 : -4611686018427387904 ≤ zy) (h4 : zy ≤ 4611686018427387903) :
    Calls Tryz.prog 193 #[.agg #[.int .i64 zx, a1, a2, a3, a4, a5, a6, a7, a8, a9], .agg #[.int .i64 zy, b1, b2, b3, b4, b5, b6, b7, b8, b9]] W fun e w' => e = .returned (.int .i64 (zx - zy)) ∧ ∃ q os', w' = grow (W.drewN q) os' := by
  go_enter Tryz.func193, Tryz.ntmps193
  go_wp2
  go_ret
  exact ⟨rfl, 0, _, by rw [alloc_eq_grow, alloc_eq_grow, grow_grow]; rfl⟩
end Go.Proofs
namespace Go.Lv
open Go Go.Proofs Go.Sort

theorem sortC : TurnC Tryz.prog 58 sortI where
  fn := ⟨_, Tryz.func58, rfl, rfl⟩
  len := fun zs => (sortI_perm zs).length_eq
  nil := fun p cap w => Any.slices_Sort_int_none Tryz.lays189 p cap w
  some := fun blk off cap zs w hH hb hz => by
    have := Any.slices_Sort_int Tryz.lays189 blk off cap zs w hH hb hz
    rw [mergeSort_sortI] at this
    exact this
theorem compC : CompC Tryz.prog 163 where
  fn := ⟨_, Tryz.func163, rfl, rfl, by decide⟩
  nil := fun p cap w => Any.slices_Compact_int_empty Tryz.lays220 p cap w
  some := fun blk off cap zs w hH hz hc => Any.slices_Compact_int Tryz.lays220 blk off cap zs w hH hz hc
theorem cmpOK168 : CmpOK Tryz.prog 168 10 0 := by
  intro x y zx zy hx hy hkx hky h1 h2 h3 h4 W
  match x, y, hx, hy with
  | [a0, a1, a2, a3, a4, a5, a6, a7, a8, a9], [b0, b1, b2, b3, b4, b5, b6, b7, b8, b9], _, _ =>
    have hc : a0 = .int .i64 zx := by simpa using hkx
    have he : b0 = .int .i64 zy := by simpa using hky
    subst hc he
    exact Tryz.closure168 zx zy a1 b1 a2 b2 a3 b3 a4 b4 a5 b5 a6 b6 a7 b7 a8 b8 a9 b9 W h1 h2 h3 h4
theorem sortOrd168 : SortC Tryz.prog 167 168 10 0 :=
  sortC_of Tryz.sortOrd (by decide) (fun _ => by kernel_rfl) (fun _ => by kernel_rfl) ⟨_, Tryz.func167, rfl, rfl⟩ (enters_of Tryz.func168 (by kernel_rfl) rfl) cmpOK168
theorem cmpOK193 : CmpOK Tryz.prog 193 10 0 := by
  intro x y zx zy hx hy hkx hky h1 h2 h3 h4 W
  match x, y, hx, hy with
  | [a0, a1, a2, a3, a4, a5, a6, a7, a8, a9], [b0, b1, b2, b3, b4, b5, b6, b7, b8, b9], _, _ =>
    have hc : a0 = .int .i64 zx := by simpa using hkx
    have he : b0 = .int .i64 zy := by simpa using hky
    subst hc he
    exact Tryz.closure193 zx zy a1 b1 a2 b2 a3 b3 a4 b4 a5 b5 a6 b6 a7 b7 a8 b8 a9 b9 W h1 h2 h3 h4
theorem sortOrd193 : SortC Tryz.prog 167 193 10 0 :=
  sortC_of Tryz.sortOrd (by decide) (fun _ => by kernel_rfl) (fun _ => by kernel_rfl) ⟨_, Tryz.func167, rfl, rfl⟩ (enters_of Tryz.func193 (by kernel_rfl) rfl) cmpOK193
noncomputable def EH : Ev := { L := LT, S := SS, hk := fun f T s o => if f = 58 then some (turnHk sortI T s o) else if f = 167 then some (sortHk [(168, 10, 0), (193, 10, 0)] T s o) else none, sp := fun f => if f = 163 then some compSp else if f = 98 then some Se.sessSp else none }
theorem EHok : EvOk Tryz.prog EH where
  L := hLT
  m := by kernel_rfl
  hk := fun f T s o s' x args tys caps _ _ ho hx h => by
    simp only [EH] at h
    split at h
    · rename_i e
      subst e
      exact turnHk_ok sortC ho hx (Option.some.inj h)
    · split at h
      · rename_i e
        subst e
        refine sortHk_ok (gs := [(168, 10, 0), (193, 10, 0)]) (fun g k κ hl => ?_) ho hx (Option.some.inj h)
        change Bool.rec (motive := fun _ => Option (Nat × Nat)) (Bool.rec (motive := fun _ => Option (Nat × Nat)) (none) (some (10, 0)) (Nat.beq 193 g)) (some (10, 0)) (Nat.beq 168 g) = some (k, κ) at hl
        cases hb0 : Nat.beq 168 g with
        | true =>
          rw [hb0] at hl
          have e : 168 = g := Nat.eq_of_beq_eq_true hb0
          subst e
          cases hl
          exact sortOrd168
        | false =>
        rw [hb0] at hl
        cases hb1 : Nat.beq 193 g with
        | true =>
          rw [hb1] at hl
          have e : 193 = g := Nat.eq_of_beq_eq_true hb1
          subst e
          cases hl
          exact sortOrd193
        | false =>
        rw [hb1] at hl
        cases hl
      · cases h
  sp := fun f g h r args sto d sto' hg => by
    simp only [EH] at h
    split at h
    · rename_i e
      subst e
      cases h
      exact compSp_ok compC hg
    · split at h
      · rename_i e
        subst e
        cases h
        exact Se.sessSp_ok sortC hg
      · cases h
end Go.Lv
