/-
  Part 16 of the texts under the proof: an abstract run of loaded code on data, and what the functions do. No condition.
-/
import Derived.Test.YtmbkdljolcmmiaaGreatM15
import Derived.Shelf.Sort.Plain
import Derived.Shelf.Slices.CompactI
import Derived.Shelf.Slices.In.SortNone
import Derived.Shelf.SlSortCmp.NoneTotal
import Derived.Ground.SlsfProg
import Derived.Ground.NamesProg
import Derived.Ground.Names2Prog
import Derived.KernelRfl
set_option linter.all false
set_option maxRecDepth 100000
namespace Go.Proofs
open Go.Shelf Go.RowKit Go.Lib Go.Sort
def Tryz.lays189_ren : Go.Shelf.Ren := ⟨fun | 189 => 58 | 125 => 104 | 257 => 103 | 128 => 144 | 129 => 145 | 294 => 135 | 295 => 136 | 296 => 137 | 297 => 138 | 298 => 139 | 299 => 140 | 216 => 141 | 300 => 142 | 301 => 143 | 328 => 177 | 329 => 178 | 330 => 179 | 331 => 180 | 332 => 181 | 215 => 182 | 343 => 196 | n => n, fun | 28 => 42 | 3 => 3 | 46 => 190 | 0 => 0 | 51 => 233 | 53 => 223 | 4 => 4 | 183 => 227 | 182 => 226 | 131 => 160 | 5 => 5 | 9 => 9 | 218 => 266 | 222 => 270 | 228 => 289 | 229 => 290 | n => n, fun | n => n⟩
theorem Tryz.lays189 : Go.Proofs.Lays.n189 Tryz.prog Tryz.lays189_ren := {
  mixed := by kernel_rfl
  f125 := Tryz.func104.trans (congrArg some (by kernel_rfl))
  f128 := Tryz.func144.trans (congrArg some (by kernel_rfl))
  f129 := Tryz.func145.trans (congrArg some (by kernel_rfl))
  f189 := Tryz.func58.trans (congrArg some (by kernel_rfl))
  f215 := Tryz.func182.trans (congrArg some (by kernel_rfl))
  f216 := Tryz.func141.trans (congrArg some (by kernel_rfl))
  f257 := Tryz.func103.trans (congrArg some (by kernel_rfl))
  f294 := Tryz.func135.trans (congrArg some (by kernel_rfl))
  f295 := Tryz.func136.trans (congrArg some (by kernel_rfl))
  f296 := Tryz.func137.trans (congrArg some (by kernel_rfl))
  f297 := Tryz.func138.trans (congrArg some (by kernel_rfl))
  f298 := Tryz.func139.trans (congrArg some (by kernel_rfl))
  f299 := Tryz.func140.trans (congrArg some (by kernel_rfl))
  f300 := Tryz.func142.trans (congrArg some (by kernel_rfl))
  f301 := Tryz.func143.trans (congrArg some (by kernel_rfl))
  f328 := Tryz.func177.trans (congrArg some (by kernel_rfl))
  f329 := Tryz.func178.trans (congrArg some (by kernel_rfl))
  f330 := Tryz.func179.trans (congrArg some (by kernel_rfl))
  f331 := Tryz.func180.trans (congrArg some (by kernel_rfl))
  f332 := Tryz.func181.trans (congrArg some (by kernel_rfl))
  f343 := Tryz.func196.trans (congrArg some (by kernel_rfl))
  t0 := Tryz.underlying0
  a0 := Tryz.isAgg0
  z0 := Tryz.sizeOf0
  v0 := Tryz.zeroValue0
  t3 := Tryz.underlying3
  a3 := Tryz.isAgg3
  z3 := Tryz.sizeOf3
  v3 := Tryz.zeroValue3
  t4 := Tryz.underlying4
  a4 := Tryz.isAgg4
  z4 := Tryz.sizeOf4
  v4 := Tryz.zeroValue4
  t5 := Tryz.underlying5
  a5 := Tryz.isAgg5
  z5 := Tryz.sizeOf5
  v5 := Tryz.zeroValue5
  t9 := Tryz.underlying9
  a9 := Tryz.isAgg9
  z9 := Tryz.sizeOf9
  v9 := Tryz.zeroValue9
  t28 := Tryz.underlying42
  a28 := Tryz.isAgg42
  z28 := Tryz.sizeOf42
  v28 := Tryz.zeroValue42
  t46 := Tryz.underlying190
  a46 := Tryz.isAgg190
  z46 := Tryz.sizeOf190
  v46 := Tryz.zeroValue190
  t51 := Tryz.underlying233
  a51 := Tryz.isAgg233
  z51 := Tryz.sizeOf233
  v51 := Tryz.zeroValue233
  t53 := Tryz.underlying223
  a53 := Tryz.isAgg223
  z53 := Tryz.sizeOf223
  v53 := Tryz.zeroValue223
  t131 := Tryz.underlying160
  a131 := Tryz.isAgg160
  z131 := Tryz.sizeOf160
  v131 := Tryz.zeroValue160
  t182 := Tryz.underlying226
  a182 := Tryz.isAgg226
  z182 := Tryz.sizeOf226
  v182 := Tryz.zeroValue226
  t183 := Tryz.underlying227
  a183 := Tryz.isAgg227
  z183 := Tryz.sizeOf227
  v183 := Tryz.zeroValue227
  t218 := Tryz.underlying266
  a218 := Tryz.isAgg266
  z218 := Tryz.sizeOf266
  v218 := Tryz.zeroValue266
  t222 := Tryz.underlying270
  a222 := Tryz.isAgg270
  z222 := Tryz.sizeOf270
  v222 := Tryz.zeroValue270
  t228 := Tryz.underlying289
  a228 := Tryz.isAgg289
  z228 := Tryz.sizeOf289
  v228 := Tryz.zeroValue289
  t229 := Tryz.underlying290
  a229 := Tryz.isAgg290
  z229 := Tryz.sizeOf290
  v229 := Tryz.zeroValue290 }
def Tryz.lays220_ren : Go.Shelf.Ren := ⟨fun | 20 => 163 | n => n, fun | 22 => 42 | 3 => 3 | 4 => 4 | 0 => 0 | n => n, fun | n => n⟩
theorem Tryz.lays220 : Go.Proofs.Lays2.n20 Tryz.prog Tryz.lays220_ren := {
  mixed := by kernel_rfl
  f20 := Tryz.func163.trans (congrArg some (by kernel_rfl))
  t0 := Tryz.underlying0
  a0 := Tryz.isAgg0
  z0 := Tryz.sizeOf0
  v0 := Tryz.zeroValue0
  t3 := Tryz.underlying3
  a3 := Tryz.isAgg3
  z3 := Tryz.sizeOf3
  v3 := Tryz.zeroValue3
  t4 := Tryz.underlying4
  a4 := Tryz.isAgg4
  z4 := Tryz.sizeOf4
  v4 := Tryz.zeroValue4
  t22 := Tryz.underlying42
  a22 := Tryz.isAgg42
  z22 := Tryz.sizeOf42
  v22 := Tryz.zeroValue42
  i3 := by kernel_rfl }
def Tryz.sortOrd_ren : Go.Shelf.Ren := ⟨fun | 6 => 167 | 15 => 104 | 14 => 192 | 28 => 144 | 29 => 145 | 20 => 199 | 21 => 200 | 22 => 201 | 23 => 202 | 24 => 203 | 25 => 204 | 26 => 205 | 27 => 206 | 46 => 209 | 47 => 178 | 48 => 179 | 49 => 210 | 50 => 211 | 57 => 213 | n => n, fun | 22 => 44 | 24 => 31 | 25 => 254 | 3 => 3 | 39 => 190 | 0 => 0 | 53 => 233 | 55 => 223 | 4 => 4 | 46 => 227 | 45 => 226 | 50 => 160 | 5 => 5 | 9 => 9 | 66 => 266 | 70 => 270 | 76 => 289 | 77 => 290 | n => n, fun | n => n⟩
theorem Tryz.sortOrd : Go.Proofs.SlLaysF0.n6 Tryz.prog Tryz.sortOrd_ren := {
  mixed := by kernel_rfl
  f6 := ⟨Tryz.f167.name, by decide, Tryz.func167.trans (congrArg some (by kernel_rfl))⟩
  f14 := ⟨Tryz.f192.name, by decide, Tryz.func192.trans (congrArg some (by kernel_rfl))⟩
  f15 := Tryz.func104.trans (congrArg some (by kernel_rfl))
  f20 := ⟨Tryz.f199.name, by decide, Tryz.func199.trans (congrArg some (by kernel_rfl))⟩
  f21 := ⟨Tryz.f200.name, by decide, Tryz.func200.trans (congrArg some (by kernel_rfl))⟩
  f22 := ⟨Tryz.f201.name, by decide, Tryz.func201.trans (congrArg some (by kernel_rfl))⟩
  f23 := ⟨Tryz.f202.name, by decide, Tryz.func202.trans (congrArg some (by kernel_rfl))⟩
  f24 := ⟨Tryz.f203.name, by decide, Tryz.func203.trans (congrArg some (by kernel_rfl))⟩
  f25 := ⟨Tryz.f204.name, by decide, Tryz.func204.trans (congrArg some (by kernel_rfl))⟩
  f26 := ⟨Tryz.f205.name, by decide, Tryz.func205.trans (congrArg some (by kernel_rfl))⟩
  f27 := ⟨Tryz.f206.name, by decide, Tryz.func206.trans (congrArg some (by kernel_rfl))⟩
  f28 := Tryz.func144.trans (congrArg some (by kernel_rfl))
  f29 := Tryz.func145.trans (congrArg some (by kernel_rfl))
  f46 := ⟨Tryz.f209.name, by decide, Tryz.func209.trans (congrArg some (by kernel_rfl))⟩
  f47 := Tryz.func178.trans (congrArg some (by kernel_rfl))
  f48 := Tryz.func179.trans (congrArg some (by kernel_rfl))
  f49 := ⟨Tryz.f210.name, by decide, Tryz.func210.trans (congrArg some (by kernel_rfl))⟩
  f50 := ⟨Tryz.f211.name, by decide, Tryz.func211.trans (congrArg some (by kernel_rfl))⟩
  f57 := ⟨Tryz.f213.name, by decide, Tryz.func213.trans (congrArg some (by kernel_rfl))⟩
  t0 := Tryz.underlying0
  a0 := Tryz.isAgg0
  z0 := Tryz.sizeOf0
  v0 := Tryz.zeroValue0
  t3 := Tryz.underlying3
  a3 := Tryz.isAgg3
  z3 := Tryz.sizeOf3
  v3 := Tryz.zeroValue3
  t4 := Tryz.underlying4
  a4 := Tryz.isAgg4
  z4 := Tryz.sizeOf4
  v4 := Tryz.zeroValue4
  t5 := Tryz.underlying5
  a5 := Tryz.isAgg5
  z5 := Tryz.sizeOf5
  v5 := Tryz.zeroValue5
  t9 := Tryz.underlying9
  a9 := Tryz.isAgg9
  z9 := Tryz.sizeOf9
  v9 := Tryz.zeroValue9
  t22 := Tryz.underlying44
  a22 := Tryz.isAgg44
  z22 := Tryz.sizeOf44
  v22 := Tryz.zeroValue44
  t25 := Tryz.underlying254
  a25 := Tryz.isAgg254
  z25 := Tryz.sizeOf254
  v25 := Tryz.zeroValue254
  t39 := Tryz.underlying190
  a39 := Tryz.isAgg190
  z39 := Tryz.sizeOf190
  v39 := Tryz.zeroValue190
  t45 := Tryz.underlying226
  a45 := Tryz.isAgg226
  z45 := Tryz.sizeOf226
  v45 := Tryz.zeroValue226
  t46 := Tryz.underlying227
  a46 := Tryz.isAgg227
  z46 := Tryz.sizeOf227
  v46 := Tryz.zeroValue227
  t50 := Tryz.underlying160
  a50 := Tryz.isAgg160
  z50 := Tryz.sizeOf160
  v50 := Tryz.zeroValue160
  t53 := Tryz.underlying233
  a53 := Tryz.isAgg233
  z53 := Tryz.sizeOf233
  v53 := Tryz.zeroValue233
  t55 := Tryz.underlying223
  a55 := Tryz.isAgg223
  z55 := Tryz.sizeOf223
  v55 := Tryz.zeroValue223
  t66 := Tryz.underlying266
  a66 := Tryz.isAgg266
  z66 := Tryz.sizeOf266
  v66 := Tryz.zeroValue266
  t70 := Tryz.underlying270
  a70 := Tryz.isAgg270
  z70 := Tryz.sizeOf270
  v70 := Tryz.zeroValue270
  t76 := Tryz.underlying289
  a76 := Tryz.isAgg289
  z76 := Tryz.sizeOf289
  v76 := Tryz.zeroValue289
  t77 := Tryz.underlying290
  a77 := Tryz.isAgg290
  z77 := Tryz.sizeOf290
  v77 := Tryz.zeroValue290 }
set_option maxHeartbeats 1000000 in
theorem Tryz.closure168 (zx zy : Int) (a1 b1 a2 b2 a3 b3 a4 b4 a5 b5 a6 b6 a7 b7 a8 b8 a9 b9 : Value) (W : World) (h1 : -4611686018427387904 ≤ zx) (h2 : zx ≤ 4611686018427387903) (h3 : -4611686018427387904 ≤ zy) (h4 : zy ≤ 4611686018427387903) :
    Calls Tryz.prog 168 #[.agg #[.int .i64 zx, a1, a2, a3, a4, a5, a6, a7, a8, a9], .agg #[.int .i64 zy, b1, b2, b3, b4, b5, b6, b7, b8, b9]] W fun e w' => e = .returned (.int .i64 (zx - zy)) ∧ ∃ q os', w' = grow (W.drewN q) os' := by
  go_enter Tryz.func168, Tryz.ntmps168
  go_wp2
  go_ret
  exact ⟨rfl, 0, _, by rw [alloc_eq_grow, alloc_eq_grow, grow_grow]; rfl⟩
set_option maxHeartbeats 1000000 in
theorem Tryz.closure193 (zx zy : Int) (a1 b1 a2 b2 a3 b3 a4 b4 a5 b5 a6 b6 a7 b7 a8 b8 a9 b9 : Value) (W : World) (h1 : -4611686018427387904 ≤ zx) (h2 : zx ≤ 4611686018427387903) (h3 : -4611686018427387904 ≤ zy) (h4 : zy ≤ 4611686018427387903) :
    Calls Tryz.prog 193 #[.agg #[.int .i64 zx, a1, a2, a3, a4, a5, a6, a7, a8, a9], .agg #[.int .i64 zy, b1, b2, b3, b4, b5, b6, b7, b8, b9]] W fun e w' => e = .returned (.int .i64 (zx - zy)) ∧ ∃ q os', w' = grow (W.drewN q) os' := by
  go_enter Tryz.func193, Tryz.ntmps193
  go_wp2
  go_ret
  exact ⟨rfl, 0, _, by rw [alloc_eq_grow, alloc_eq_grow, grow_grow]; rfl⟩
end Go.Proofs
namespace Go.Lv
open Go Go.Proofs Go.Sort

theorem sortC : TurnC Tryz.prog 58 sortI where
  fn := ⟨_, Tryz.func58, rfl, rfl⟩
  len := fun zs => (sortI_perm zs).length_eq
  nil := fun p cap w => Any.slices_Sort_int_none Tryz.lays189 p cap w
  some := fun blk off cap zs w hH hb hz => by
    have := Any.slices_Sort_int Tryz.lays189 blk off cap zs w hH hb hz
    rw [mergeSort_sortI] at this
    exact this
theorem compC : CompC Tryz.prog 163 where
  fn := ⟨_, Tryz.func163, rfl, rfl, by decide⟩
  nil := fun p cap w => Any.slices_Compact_int_empty Tryz.lays220 p cap w
  some := fun blk off cap zs w hH hz hc => Any.slices_Compact_int Tryz.lays220 blk off cap zs w hH hz hc
theorem cmpOK168 : CmpOK Tryz.prog 168 10 0 := by
  intro x y zx zy hx hy hkx hky h1 h2 h3 h4 W
  match x, y, hx, hy with
  | [a0, a1, a2, a3, a4, a5, a6, a7, a8, a9], [b0, b1, b2, b3, b4, b5, b6, b7, b8, b9], _, _ =>
    have hc : a0 = .int .i64 zx := by simpa using hkx
    have he : b0 = .int .i64 zy := by simpa using hky
    subst hc he
    exact Tryz.closure168 zx zy a1 b1 a2 b2 a3 b3 a4 b4 a5 b5 a6 b6 a7 b7 a8 b8 a9 b9 W h1 h2 h3 h4
theorem sortOrd168 : SortC Tryz.prog 167 168 10 0 :=
  sortC_of Tryz.sortOrd (by decide) (fun _ => by kernel_rfl) (fun _ => by kernel_rfl) ⟨_, Tryz.func167, rfl, rfl⟩ (enters_of Tryz.func168 (by kernel_rfl) rfl) cmpOK168
theorem cmpOK193 : CmpOK Tryz.prog 193 10 0 := by
  intro x y zx zy hx hy hkx hky h1 h2 h3 h4 W
  match x, y, hx, hy with
  | [a0, a1, a2, a3, a4, a5, a6, a7, a8, a9], [b0, b1, b2, b3, b4, b5, b6, b7, b8, b9], _, _ =>
    have hc : a0 = .int .i64 zx := by simpa using hkx
    have he : b0 = .int .i64 zy := by simpa using hky
    subst hc he
    exact Tryz.closure193 zx zy a1 b1 a2 b2 a3 b3 a4 b4 a5 b5 a6 b6 a7 b7 a8 b8 a9 b9 W h1 h2 h3 h4
theorem sortOrd193 : SortC Tryz.prog 167 193 10 0 :=
  sortC_of Tryz.sortOrd (by decide) (fun _ => by kernel_rfl) (fun _ => by kernel_rfl) ⟨_, Tryz.func167, rfl, rfl⟩ (enters_of Tryz.func193 (by kernel_rfl) rfl) cmpOK193
noncomputable def EH : Ev := { L := LT, S := SS, hk := fun f T s o => if f = 58 then some (turnHk sortI T s o) else if f = 167 then some (sortHk [(168, 10, 0), (193, 10, 0)] T s o) else none, sp := fun f => if f = 163 then some compSp else if f = 98 then some Se.sessSp else none }
theorem EHok : EvOk Tryz.prog EH where
  L := hLT
  m := by kernel_rfl
  hk := fun f T s o s' x args tys caps _ _ ho hx h => by
    simp only [EH] at h
    split at h
    · rename_i e
      subst e
      exact turnHk_ok sortC ho hx (Option.some.inj h)
    · split at h
      · rename_i e
        subst e
        refine sortHk_ok (gs := [(168, 10, 0), (193, 10, 0)]) (fun g k κ hl => ?_) ho hx (Option.some.inj h)
        change Bool.rec (motive := fun _ => Option (Nat × Nat)) (Bool.rec (motive := fun _ => Option (Nat × Nat)) (none) (some (10, 0)) (Nat.beq 193 g)) (some (10, 0)) (Nat.beq 168 g) = some (k, κ) at hl
        cases hb0 : Nat.beq 168 g with
        | true =>
          rw [hb0] at hl
          have e : 168 = g := Nat.eq_of_beq_eq_true hb0
          subst e
          cases hl
          exact sortOrd168
        | false =>
        rw [hb0] at hl
        cases hb1 : Nat.beq 193 g with
        | true =>
          rw [hb1] at hl
          have e : 193 = g := Nat.eq_of_beq_eq_true hb1
          subst e
          cases hl
          exact sortOrd193
        | false =>
        rw [hb1] at hl
        cases hl
      · cases h
  sp := fun f g h r args sto d sto' hg => by
    simp only [EH] at h
    split at h
    · rename_i e
      subst e
      cases h
      exact compSp_ok compC hg
    · split at h
      · rename_i e
        subst e
        cases h
        exact Se.sessSp_ok sortC hg
      · cases h
end Go.Lv

namespace Go.Lv.Se
open Go.Proofs Go.Lv

theorem hmixS : Tryz.prog.follows .mixedOrders = true := by kernel_rfl
abbrev E5 := Int × Int × Int × Int × Int
abbrev Tbs := List (Int × E5)
noncomputable def encE5 (e : E5) : D := .agg [.int .i64 e.1, .int .i64 e.2.1, .int .i64 e.2.2.1, .int .i64 e.2.2.2.1, .int .i64 e.2.2.2.2]
noncomputable def encG (m : Tbs) : List (D × D) := m.map fun x => (.int .i64 x.1, encE5 x.2)
noncomputable def stG (m : Tbs) : List Ob := [.map (encG m), .box [.map 0]]
theorem encG_split {l1 l2 : List (D × D)} {y : D × D} {m : Tbs} (h : encG m = l1 ++ y :: l2) : ∃ (m1 : Tbs) (k : Int) (e : E5) (m2 : Tbs), m = m1 ++ (k, e) :: m2 ∧ l1 = encG m1 ∧ y = (.int .i64 k, encE5 e) ∧ l2 = encG m2 := by
  obtain ⟨a, b, h1, h2, h3⟩ := List.map_eq_append_iff.1 h
  obtain ⟨x, c, h4, h5, h6⟩ := List.map_eq_cons_iff.1 h3
  obtain ⟨k, e⟩ := x
  exact ⟨a, k, e, c, by rw [h1, h4], h2.symm, h5.symm, h6.symm⟩
theorem sortI_eq {l l' : List Int} (h : l.Perm l') : sortI l = sortI l' :=
  List.Perm.eq_of_pairwise (le := fun x y => x ≤ y) (fun x y _ _ h1 h2 => by omega) (sortI_sorted _) (sortI_sorted _) (((sortI_perm _).trans h).trans (sortI_perm _).symm)

noncomputable def sSe (m : Tbs) (sz : Nat) (zs : List Int) : DS := ⟨[(0, .gptr 1 0), (3, .list (.own sz) (zs.map rowI)), (9, .lptr 9 0 0), (2, .list (.own 0) [])], [], stG m, mR 2⟩
theorem c_Sessions_0 (hC : TurnC Tryz.prog 58 sortI) (m : Tbs) (hm : m.length ≤ 1000) : Tri Tryz.prog 98 2 [.gptr 1 0] (stG m) (fun d l => d = .list (.own (if m.isEmpty = true then 0 else 1)) ((sortI (m.map Prod.fst)).map rowI) ∧ l = stG m) := by
  refine Tri.walk2 (L := LT) (c := {la := false, n := 21, ko := [2, 3], xf := [14, 20]}) [(58, 3, [])] [0, 3, 9, 2, 4] hLT hmixS Tryz.func98 rfl rfl ⟨rfl, rfl⟩ (by show 1 ≤ 21; decide) (by show 2 ≤ 2; decide) ?_
  show Ok _ _ _ _ _
  refine Ok.rangeBlk (t := 9) (k := 0) (es := encG m) (t10 := 10) (t11 := 11) (t12 := 12) (n2 := 4) hLT
    (fun l s => ∃ (m1 m2 : Tbs) (sz : Nat), l = encG m2 ∧ (m1 ++ m2).Perm m ∧ ((sz = 0 ∧ m1 = []) ∨ (sz = 1 ∧ m1 ≠ [])) ∧ s = sSe m sz (m1.map Prod.fst))
    rfl rfl rfl rfl rfl rfl rfl rfl rfl rfl rfl rfl rfl rfl rfl rfl rfl rfl rfl (by decide) (by decide) rfl (by show 2 ≤ 2; decide) (by show 0 < 2; decide) rfl (by show 9 < 21; decide) hmixS [(58, 3, [])] [0, 3, 9, 2, 4] [0, 3, 9, 2] [] ?_ ?_ ?_ ?_
  · refine And.intro rfl (And.intro rfl (And.intro rfl ?_))
    exact ⟨[], m, 0, rfl, by simp, .inl ⟨rfl, rfl⟩, rfl⟩
  · rintro l s ⟨m1, m2, sz, rfl, _, _, rfl⟩
    rfl
  · rintro l1 y l2 s ⟨m1, m2, sz, hl, hp, hsz, rfl⟩
    obtain ⟨n1, k, e, n2, rfl, rfl, rfl, rfl⟩ := encG_split hl.symm
    have hlen : m1.length + (n1.length + (n2.length + 1)) = m.length := by
      have := hp.length_eq
      simpa using this
    have hz : ((m1.map Prod.fst).map rowI) ++ [[.int .i64 k]] = ((m1 ++ [(k, e)]).map Prod.fst).map rowI := by simp [rowI]
    have hp' : (m1 ++ [(k, e)] ++ (n1 ++ n2)).Perm m := by
      refine List.Perm.trans ?_ hp
      simp only [List.append_assoc, List.singleton_append]
      exact List.Perm.append_left m1 List.perm_middle.symm
    have hsz' : sz = 0 ∨ sz = 1 := by rcases hsz with ⟨h, _⟩ | ⟨h, _⟩ <;> omega
    rcases hsz' with rfl | rfl
    · refine And.intro trivial ?_
      refine And.intro rfl (And.intro ?_ (And.intro rfl ?_))
      · show (((m1.map Prod.fst).map rowI).length + 1) * 8 ≤ 140737488355328
        simp only [List.length_map]
        omega
      refine And.intro rfl ?_
      refine ⟨m1 ++ [(k, e)], n1 ++ n2, 1, by simp [encG], hp', .inr ⟨rfl, by simp⟩, ?_⟩
      unfold sSe
      rw [← hz]
      rfl
    · refine And.intro trivial ?_
      refine And.intro rfl (And.intro ?_ (And.intro rfl ?_))
      · show (((m1.map Prod.fst).map rowI).length + 1) * 8 ≤ 140737488355328
        simp only [List.length_map]
        omega
      refine And.intro rfl ?_
      refine ⟨m1 ++ [(k, e)], n1 ++ n2, 1, by simp [encG], hp', .inr ⟨rfl, by simp⟩, ?_⟩
      unfold sSe
      rw [← hz]
      rfl
  · rintro s ⟨m1, m2, sz, hl, hp, hsz, rfl⟩
    have hm2 : m2 = [] := by
      cases m2 with
      | nil => rfl
      | cons x r => simp [encG] at hl
    subst hm2
    rw [List.append_nil] at hp
    have hs : sortI (m.map Prod.fst) = sortI (m1.map Prod.fst) := sortI_eq (hp.map Prod.fst).symm
    have hlen := hp.length_eq
    rw [hs]
    rcases hsz with ⟨rfl, rfl⟩ | ⟨rfl, hm1⟩
    · have hE : m.isEmpty = true := by
        have : m.length = 0 := by simpa using hlen.symm
        rw [List.length_eq_zero_iff.1 this]
        rfl
      refine OpOk.turn (zs := []) hC rfl rfl rfl rfl (fun _ => ?_) (fun h => absurd rfl h)
      exact And.intro (by rw [hE]; rfl) rfl
    · have hE : m.isEmpty = false := by
        cases m with
        | nil => exact absurd (List.length_eq_zero_iff.1 (show m1.length = 0 by simpa using hlen)) hm1
        | cons x r => rfl
      refine OpOk.turn (zs := m1.map Prod.fst) hC rfl rfl rfl rfl (fun h => ?_) (fun h => ⟨⟨rfl, rfl⟩, rfl, by simp only [List.length_map]; omega, ?_⟩)
      · exact absurd h (by simpa using hm1)
      · exact And.intro (by rw [hE]; rfl) rfl
theorem nrUp {k k' : Nat} (h : k ≤ k') {d : D} (hd : NR k d) : NR k' d := by
  induction hd with
  | gptr j o hj => exact .gptr _ _ (Nat.lt_of_lt_of_le hj h)
  | map j hj => exact .map _ (Nat.lt_of_lt_of_le hj h)
  | fn f ds _ ih => exact .fn _ _ ih
  | list q xs _ ih => exact .list _ _ ih
  | agg cs _ ih => exact .agg _ ih
  | tup cs _ ih => exact .tup _ ih
  | int k n => exact .int _ _
  | bool b => exact .bool _
  | str s => exact .str _
  | nil => exact .nil
  | nilmap => exact .nilmap
  | nilfn => exact .nilfn
  | dead => exact .dead
noncomputable def rho2 (p b : Nat) : Nat → Nat := fun i => if i = 0 then p else b
theorem back2 {p b : Nat} {sto : List Ob} {es es' : List (D × D)} (hp : sto[p]? = some (.map es)) (hb : sto[b]? = some (.box [.map p])) (hne : p ≠ b) :
    backSto (rho2 p b) 2 sto [.map es', .box [.map 0]] = sto.set p (.map es') := by
  show ((sto.set p (.map es')).set b (.box [.map (extR (rho2 p b) 2 sto.length 0)])) ++ [] = _
  rw [List.append_nil]
  have : extR (rho2 p b) 2 sto.length 0 = p := rfl
  rw [this]
  apply List.ext_getElem?
  intro i
  rw [List.getElem?_set]
  split
  · rename_i h
    subst h
    have hlt := (List.getElem?_eq_some_iff.1 hb).1
    rw [if_pos (by rw [List.length_set]; exact hlt), List.getElem?_set_ne hne, hb]
  · rfl
theorem set_self {sto : List Ob} {p : Nat} {o : Ob} (h : sto[p]? = some o) : sto.set p o = sto := by
  apply List.ext_getElem?
  intro i
  rw [List.getElem?_set]
  split
  · rename_i e
    subst e
    rw [if_pos (List.getElem?_eq_some_iff.1 h).1, h]
  · rfl
theorem Tri.tabRO {f : Nat} {m : Tbs} {args : List D} {R : D → Prop} (h : Tri Tryz.prog f 2 (.gptr 1 0 :: args) (stG m) (fun d l => R d ∧ l = stG m)) (ha : args.all cellsOK = true) (hn : nrBL 0 args = true) (hd : ∀ d, R d → partsOK d = true ∧ nrB 0 d = true)
    {r p b : Nat} {sto : List Ob} (hr : r ≤ sto.length) (hp : sto[p]? = some (.map (encG m))) (hb : sto[b]? = some (.box [.map p])) (hne : p ≠ b) (hpr : p < r) (hbr : b < r) : Tri Tryz.prog f r (.gptr b 0 :: args) sto (fun d l => R d ∧ l = sto) := by
  have := Tri.ren (r := r) (sto := sto) (rho2 p b) h (fun i j hi hj e => by
      match i, j, hi, hj with
      | 0, 0, _, _ => rfl
      | 1, 1, _, _ => rfl
      | 0, 1, _, _ => exact absurd (show p = b from e) hne
      | 1, 0, _, _ => exact absurd (show b = p from e).symm hne
      | i + 2, _, hi, _ => exact absurd hi (by show ¬ i + 2 < 2; omega)
      | _, j + 2, _, hj => exact absurd hj (by show ¬ j + 2 < 2; omega)) (fun i o hi => by
      match i, hi with
      | 0, hi => simp [stG] at hi; subst hi; exact hp
      | 1, hi => simp [stG] at hi; subst hi; exact hb
      | i + 2, hi => simp [stG] at hi) (fun i hi => by
      match i, hi with
      | 0, _ => exact ⟨fun _ => hpr, fun _ => by omega⟩
      | 1, _ => exact ⟨fun _ => hbr, fun _ => by omega⟩
      | i + 2, hi => exact absurd hi (by show ¬ i + 2 < 2; omega)) hr (by show (true && args.all cellsOK) = true; rw [ha]; rfl) (fun x hx => by
      rcases List.mem_cons.1 hx with e | hx
      · rw [e]; exact .gptr _ _ (by show 1 < 2; omega)
      · exact nrUp (Nat.zero_le _) (nrBL_nr hn x hx)) (fun o ho => by
      rcases List.mem_cons.1 ho with e | ho
      · rw [e]; exact trivial
      · have : o = .box [.map 0] := by simpa using ho
        rw [this]
        exact nrO_nr (k := 2) rfl) rfl (fun d l ⟨h1, h2⟩ => by subst h2; exact ⟨(hd _ h1).1, rfl⟩)
  rw [show renL (rho2 p b) (.gptr 1 0 :: args) = .gptr b 0 :: args by show D.gptr b 0 :: renL (rho2 p b) args = _; rw [renL_id _ hn]] at this
  refine this.mono fun d l ⟨d1, l1, ⟨h1, h2⟩, h3, h4⟩ => ?_
  subst h2
  refine ⟨by rw [h3, renD_id _ (hd _ h1).2]; exact h1, ?_⟩
  rw [h4]
  exact (back2 hp hb hne).trans (set_self hp)

noncomputable def keysG : List (D × D) → Option Tbs
  | [] => some []
  | (.int .i64 k, .agg [.int .i64 a, .int .i64 b, .int .i64 c, .int .i64 d, .int .i64 e]) :: r => (keysG r).map fun l => (k, a, b, c, d, e) :: l
  | _ => none
theorem keysG_is : ∀ {es : List (D × D)} {m : Tbs}, keysG es = some m → es = encG m
  | [], m, h => by cases h; rfl
  | (k, v) :: r, m, h => by
    unfold keysG at h
    split at h
    · rename_i e; cases e
    · rename_i e
      cases e
      obtain ⟨l, hl, rfl⟩ := Option.map_eq_some_iff.1 h
      rw [keysG_is hl]
      rfl
    · cases h
noncomputable def sessSp : Caller := fun r _ args sto => match args with
  | [.gptr b 0] => match sto[b]? with
    | some (.box [.map p]) => match sto[p]? with
      | some (.map es) => match keysG es with
        | some m => if (Nat.ble m.length 1000 && Nat.ble r sto.length) && (Nat.blt p r && (Nat.blt b r && !(Nat.beq p b))) then .ok (.list (.own (if m.isEmpty = true then 0 else 1)) ((sortI (m.map Prod.fst)).map rowI), sto) else .no [50]
        | none => .no [51]
      | _ => .no [52]
    | _ => .no [53]
  | _ => .no [54]
theorem nrBLL_Is : ∀ l : List Int, nrBLL 0 (l.map rowI) = true
  | [] => rfl
  | b :: r => by
    show (nrBL 0 (rowI b) && nrBLL 0 (r.map rowI)) = true
    rw [nrBLL_Is r]
    rfl
theorem sessSp_ok (hC : TurnC Tryz.prog 58 sortI) {r f' : Nat} {args : List D} {sto : List Ob} {d : D} {sto' : List Ob} (h : sessSp r f' args sto = .ok (d, sto')) : Tri Tryz.prog 98 r args sto (fun d' l => d' = d ∧ l = sto') ∧ Pre r sto sto' := by
  unfold sessSp at h
  split at h
  · rename_i b
    split at h
    · rename_i p hb
      split at h
      · rename_i es hp
        split at h
        · rename_i m hm
          split at h
          · rename_i hg
            cases h
            simp only [Bool.and_eq_true, Bool.not_eq_true', Nat.ble_eq, Nat.blt_eq] at hg
            obtain ⟨⟨h1, h2⟩, h3, h4, h5⟩ := hg
            have hne : p ≠ b := fun e => by rw [e] at h5; simp at h5
            rw [keysG_is hm] at hp
            exact ⟨Tri.tabRO (args := []) (c_Sessions_0 hC m h1) rfl rfl (fun d hd => by subst hd; exact ⟨rfl, nrBLL_Is _⟩) h2 hp hb hne h3 h4, Pre.refl _ _⟩
          · cases h
        · cases h
      · cases h
    · cases h
  · cases h
end Go.Lv.Se
