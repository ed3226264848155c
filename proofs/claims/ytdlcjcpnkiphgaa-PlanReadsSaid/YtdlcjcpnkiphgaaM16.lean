/-
  Part 16 of the texts under the proof: an abstract run of loaded code on data, and what the functions do. No condition.
-/
import Derived.Test.YtdlcjcpnkiphgaaM15
import Derived.Shelf.Sort.Plain
import Derived.Shelf.Slices.CompactI
import Derived.Shelf.Slices.In.SortNone
import Derived.Ground.NamesProg
import Derived.Ground.Names2Prog
import Derived.KernelRfl
set_option linter.all false
set_option maxRecDepth 100000
namespace Go.Proofs
open Go.Shelf
def Try.lays189_ren : Go.Shelf.Ren := ⟨fun | 189 => 36 | 125 => 58 | 257 => 57 | 128 => 79 | 129 => 80 | 294 => 70 | 295 => 71 | 296 => 72 | 297 => 73 | 298 => 74 | 299 => 75 | 216 => 76 | 300 => 77 | 301 => 78 | 328 => 86 | 329 => 87 | 330 => 88 | 331 => 89 | 332 => 90 | 215 => 91 | 343 => 93 | n => n, fun | 28 => 34 | 3 => 3 | 46 => 83 | 0 => 0 | 51 => 104 | 53 => 90 | 4 => 4 | 183 => 96 | 182 => 95 | 131 => 101 | 5 => 5 | 9 => 9 | 218 => 111 | 222 => 115 | 228 => 118 | 229 => 119 | n => n, fun | n => n⟩
theorem Try.lays189 : Go.Proofs.Lays.n189 Try.prog Try.lays189_ren := {
  mixed := by kernel_rfl
  f125 := Try.func58.trans (congrArg some (by kernel_rfl))
  f128 := Try.func79.trans (congrArg some (by kernel_rfl))
  f129 := Try.func80.trans (congrArg some (by kernel_rfl))
  f189 := Try.func36.trans (congrArg some (by kernel_rfl))
  f215 := Try.func91.trans (congrArg some (by kernel_rfl))
  f216 := Try.func76.trans (congrArg some (by kernel_rfl))
  f257 := Try.func57.trans (congrArg some (by kernel_rfl))
  f294 := Try.func70.trans (congrArg some (by kernel_rfl))
  f295 := Try.func71.trans (congrArg some (by kernel_rfl))
  f296 := Try.func72.trans (congrArg some (by kernel_rfl))
  f297 := Try.func73.trans (congrArg some (by kernel_rfl))
  f298 := Try.func74.trans (congrArg some (by kernel_rfl))
  f299 := Try.func75.trans (congrArg some (by kernel_rfl))
  f300 := Try.func77.trans (congrArg some (by kernel_rfl))
  f301 := Try.func78.trans (congrArg some (by kernel_rfl))
  f328 := Try.func86.trans (congrArg some (by kernel_rfl))
  f329 := Try.func87.trans (congrArg some (by kernel_rfl))
  f330 := Try.func88.trans (congrArg some (by kernel_rfl))
  f331 := Try.func89.trans (congrArg some (by kernel_rfl))
  f332 := Try.func90.trans (congrArg some (by kernel_rfl))
  f343 := Try.func93.trans (congrArg some (by kernel_rfl))
  t0 := Try.underlying0
  a0 := Try.isAgg0
  z0 := Try.sizeOf0
  v0 := Try.zeroValue0
  t3 := Try.underlying3
  a3 := Try.isAgg3
  z3 := Try.sizeOf3
  v3 := Try.zeroValue3
  t4 := Try.underlying4
  a4 := Try.isAgg4
  z4 := Try.sizeOf4
  v4 := Try.zeroValue4
  t5 := Try.underlying5
  a5 := Try.isAgg5
  z5 := Try.sizeOf5
  v5 := Try.zeroValue5
  t9 := Try.underlying9
  a9 := Try.isAgg9
  z9 := Try.sizeOf9
  v9 := Try.zeroValue9
  t28 := Try.underlying34
  a28 := Try.isAgg34
  z28 := Try.sizeOf34
  v28 := Try.zeroValue34
  t46 := Try.underlying83
  a46 := Try.isAgg83
  z46 := Try.sizeOf83
  v46 := Try.zeroValue83
  t51 := Try.underlying104
  a51 := Try.isAgg104
  z51 := Try.sizeOf104
  v51 := Try.zeroValue104
  t53 := Try.underlying90
  a53 := Try.isAgg90
  z53 := Try.sizeOf90
  v53 := Try.zeroValue90
  t131 := Try.underlying101
  a131 := Try.isAgg101
  z131 := Try.sizeOf101
  v131 := Try.zeroValue101
  t182 := Try.underlying95
  a182 := Try.isAgg95
  z182 := Try.sizeOf95
  v182 := Try.zeroValue95
  t183 := Try.underlying96
  a183 := Try.isAgg96
  z183 := Try.sizeOf96
  v183 := Try.zeroValue96
  t218 := Try.underlying111
  a218 := Try.isAgg111
  z218 := Try.sizeOf111
  v218 := Try.zeroValue111
  t222 := Try.underlying115
  a222 := Try.isAgg115
  z222 := Try.sizeOf115
  v222 := Try.zeroValue115
  t228 := Try.underlying118
  a228 := Try.isAgg118
  z228 := Try.sizeOf118
  v228 := Try.zeroValue118
  t229 := Try.underlying119
  a229 := Try.isAgg119
  z229 := Try.sizeOf119
  v229 := Try.zeroValue119 }
def Try.lays220_ren : Go.Shelf.Ren := ⟨fun | 20 => 37 | n => n, fun | 22 => 34 | 3 => 3 | 4 => 4 | 0 => 0 | n => n, fun | n => n⟩
theorem Try.lays220 : Go.Proofs.Lays2.n20 Try.prog Try.lays220_ren := {
  mixed := by kernel_rfl
  f20 := Try.func37.trans (congrArg some (by kernel_rfl))
  t0 := Try.underlying0
  a0 := Try.isAgg0
  z0 := Try.sizeOf0
  v0 := Try.zeroValue0
  t3 := Try.underlying3
  a3 := Try.isAgg3
  z3 := Try.sizeOf3
  v3 := Try.zeroValue3
  t4 := Try.underlying4
  a4 := Try.isAgg4
  z4 := Try.sizeOf4
  v4 := Try.zeroValue4
  t22 := Try.underlying34
  a22 := Try.isAgg34
  z22 := Try.sizeOf34
  v22 := Try.zeroValue34
  i3 := by kernel_rfl }
end Go.Proofs
namespace Go.Lv
open Go Go.Proofs Go.Sort

theorem sortC : TurnC Try.prog 36 sortI where
  fn := ⟨_, Try.func36, rfl, rfl⟩
  len := fun zs => (sortI_perm zs).length_eq
  nil := fun p cap w => Any.slices_Sort_int_none Try.lays189 p cap w
  some := fun blk off cap zs w hH hb hz => by
    have := Any.slices_Sort_int Try.lays189 blk off cap zs w hH hb hz
    rw [mergeSort_sortI] at this
    exact this
theorem compC : CompC Try.prog 37 where
  fn := ⟨_, Try.func37, rfl, rfl, by decide⟩
  nil := fun p cap w => Any.slices_Compact_int_empty Try.lays220 p cap w
  some := fun blk off cap zs w hH hz hc => Any.slices_Compact_int Try.lays220 blk off cap zs w hH hz hc

noncomputable def E9 : Ev := { L := LT, S := SS, hk := fun f T s o => if f = 36 then some (turnHk sortI T s o) else none, sp := fun f => if f = 37 then some compSp else none }
theorem E9ok : EvOk Try.prog E9 where
  L := hLT
  m := by kernel_rfl
  hk := fun f T s o s' x args tys caps _ _ ho hx h => by
    simp only [E9] at h
    split at h
    · rename_i e
      subst e
      exact turnHk_ok sortC ho hx (Option.some.inj h)
    · cases h
  sp := fun f g h r args sto d sto' hg => by
    simp only [E9] at h
    split at h
    · rename_i e
      subst e
      cases h
      exact compSp_ok compC hg
    · cases h
end Go.Lv

namespace Go.Lv
open Go Go.Proofs Go.Sort
noncomputable def trueR : Rz (D × List Ob) → Bool
  | .ok (.bool b, _) => b
  | _ => false
theorem trueR_tri {n k : Nat} {args : List D} (h : trueR (evF Try.prog E9 n 0 k args []) = true) : Tri Try.prog k 0 args [] (fun d l => d = .bool true ∧ l = []) := by
  unfold trueR at h
  split at h
  · rename_i b l he
    subst h
    exact Tri.forget ((evF_ok E9ok n 0 k args [] _ _ he).1) (fun d l h _ => ⟨0, Nat.zero_le _, Nat.zero_le _, by rw [h.1]; exact .bool _, fun o ho => absurd ho (by simp), h.1, rfl⟩)
  · cases h
theorem tRuns : Tri Try.prog 3 0 [] [] (fun d l => d = .bool true ∧ l = []) := trueR_tri (n := 20) (by kernel_rfl)
end Go.Lv

namespace Go.Lv
open Go.Proofs

theorem hmix : Try.prog.follows .mixedOrders = true := by kernel_rfl
theorem row_at {α : Type} {f : α → List D} (l : List α) {i : Nat} (hi : i < l.length) : (l.map f)[((i : Nat) : Int).toNat]? = some (f l[i]) := by
  rw [Int.toNat_natCast, List.getElem?_map, List.getElem?_eq_getElem hi]
  rfl
theorem wrap_succ {i n : Nat} (hi : i < n) (hn : n ≤ 1000000000000000) : IntKind.i64.wrap ((i : Int) + 1) = ((i + 1 : Nat) : Int) := by
  rw [wrap64 (by omega) (by omega)]
  omega
theorem allLen_mono {n : Nat} {xs ys : List (List D)} (h : allLen n xs = true) (hs : ∀ r, r ∈ ys → r ∈ xs) : allLen n ys = true := by
  unfold allLen at *
  rw [List.all_eq_true] at *
  exact fun r hr => h r (hs r hr)
theorem row_at' {α : Type} (f : α → List D) (l : List α) {n : Int} {i : Nat} (h : n = (i : Int)) (hi : i < l.length) : (l.map f)[n.toNat]? = some (f l[i]) := by
  rw [h]
  exact row_at l hi
theorem nd_true {p : Prop} [Decidable p] (h : (!decide p) = true) : ¬ p := by simpa using h
theorem nd_false {p : Prop} [Decidable p] (h : (!decide p) = false) : p := by simpa using h
noncomputable def in64' (z : Int) : Prop := -9223372036854775808 ≤ z ∧ z ≤ 9223372036854775807
theorem wrapU (z : Int) : IntKind.u64.wrap z = z % 18446744073709551616 := by simp [IntKind.wrap, IntKind.bits, IntKind.signed]
noncomputable def rowB (z : Int) : List D := [.int .u8 z]
theorem allLenB (bs : List Int) : allLen 1 (bs.map rowB) = true := by
  simp [allLen, rowB]
theorem nrBLL_B : ∀ bs : List Int, nrBLL 0 (bs.map rowB) = true
  | [] => rfl
  | b :: r => by
    show (nrBL 0 (rowB b) && nrBLL 0 (r.map rowB)) = true
    rw [nrBLL_B r]
    rfl
theorem nrBL_B {bs : List Int} {d : D} (hd : nrB 0 d = true) : nrBL 0 [.list .imm (bs.map rowB), d] = true := by
  show (nrBLL 0 (bs.map rowB) && (nrB 0 d && true)) = true
  rw [nrBLL_B, hd]
  rfl
theorem allLenB' (bs : List Int) : allLen 1 (bs.map rowB) = true := by
  simp [allLen, rowB]
theorem NR.up {k k' : Nat} (h : k ≤ k') {d : D} (hd : NR k d) : NR k' d := by
  induction hd with
  | gptr j o hj => exact .gptr _ _ (Nat.lt_of_lt_of_le hj h)
  | map j hj => exact .map _ (Nat.lt_of_lt_of_le hj h)
  | fn f ds _ ih => exact .fn _ _ ih
  | list q xs _ ih => exact .list _ _ ih
  | agg cs _ ih => exact .agg _ ih
  | tup cs _ ih => exact .tup _ ih
  | int k n => exact .int _ _
  | bool b => exact .bool _
  | str s => exact .str _
  | nil => exact .nil
  | nilmap => exact .nilmap
  | nilfn => exact .nilfn
  | dead => exact .dead
theorem set_self {sto : List Ob} {p : Nat} {o : Ob} (h : sto[p]? = some o) : sto.set p o = sto := by
  apply List.ext_getElem?
  intro i
  rw [List.getElem?_set]
  split
  · rename_i e
    subst e
    rw [if_pos (List.getElem?_eq_some_iff.1 h).1, h]
  · rfl
/-- A function of one box that holds no pointers, where it lies elsewhere; what is new lies behind. -/
theorem Tri.one {f : Nat} {o : Ob} {R : D → List Ob → Prop} (h : Tri Try.prog f 0 [.gptr 0 0] [o] R) (ho : nrO 0 o = true) (hbx : ([o].drop 0).all boxOK = true)
    (hok : ∀ d l, R d l → partsOK d = true ∧ (l.drop 0).all boxOK = true) {r b : Nat} {sto : List Ob} (hr : r ≤ b) (hb : sto[b]? = some o) (hid : ∀ ρ, renO ρ o = o) :
    Tri Try.prog f r [.gptr b 0] sto (fun d l => ∃ d' l', R d' l' ∧ d = renD (extR (fun _ => b) 1 sto.length) d' ∧ l = backSto (fun _ => b) 1 sto l') := by
  have hlt : b < sto.length := (List.getElem?_eq_some_iff.1 hb).1
  exact Tri.ren (r := r) (sto := sto) (fun _ => b) h (fun i j hi hj e => by
      have hi : i < 1 := hi
      have hj : j < 1 := hj
      omega) (fun i o' hi => by
      match i, hi with
      | 0, hi =>
        have : o' = o := by simpa using hi.symm
        rw [this, hid]
        exact hb
      | i + 1, hi => simp at hi) (fun i hi => ⟨fun h => absurd h (Nat.not_lt_zero _), fun h => by have : b < r := h; omega⟩) (by omega) rfl (fun x hx => by
      have : x = .gptr 0 0 := by simpa using hx
      rw [this]
      exact .gptr _ _ (by show 0 < 1; omega)) (fun o' ho' => by
      have : o' = o := by simpa using ho'
      rw [this]
      have h := nrO_nr (k := 0) ho
      cases o with
      | box cs => exact fun d hd => (h d hd).up (Nat.zero_le _)
      | map es => trivial) hbx hok
theorem okBytes {n m : Nat} {x : List D} (h : OkD LT (n + 2) 44 x) (z : SzD LT (m + 1) 44 x) : ∃ bs : List Int, x = [.list .imm (bs.map rowB)] ∧ bs.length ≤ 140737488351232 ∧ ∀ b, b ∈ bs → 0 ≤ b ∧ b ≤ 255 := by
  obtain ⟨xs, rfl, _, h⟩ := h
  obtain ⟨xs', e, z, _⟩ := z
  cases e
  have key : ∀ xs : List (List D), (∀ r, r ∈ xs → r.length = LT.size 5 ∧ OkD LT (n + 1) 5 r) → ∃ bs : List Int, xs = bs.map rowB ∧ ∀ b, b ∈ bs → 0 ≤ b ∧ b ≤ 255 := by
    intro xs
    induction xs with
    | nil => intro _; exact ⟨[], rfl, fun a ha => by cases ha⟩
    | cons x r ih =>
      intro h
      obtain ⟨i, rfl, h1, h2⟩ := (h x (by simp)).2
      obtain ⟨al, rfl, has⟩ := ih fun y hy => h y (by simp [hy])
      exact ⟨i :: al, rfl, fun b hb => by
        rcases List.mem_cons.1 hb with e | hb
        · rw [e]; exact ⟨h1, h2⟩
        · exact has b hb⟩
  obtain ⟨bs, rfl, hb⟩ := key xs h
  have z : (bs.map rowB).length * 1 ≤ 140737488351232 := z
  rw [List.length_map] at z
  exact ⟨bs, rfl, by omega, hb⟩
theorem c_draybook_Same_int_0 (al bl : List Int) (ha : al.length ≤ 1000000000000000) (hb : bl.length ≤ 1000000000000000) :
    Tri Try.prog 12 0 [.list .imm (al.map rowI), .list .imm (bl.map rowI)] [] (fun d l => d = .bool (decide (al = bl)) ∧ l = []) := by
  refine Tri.walk2 (L := LT) (c := {la := false, n := 26, ko := [4]}) [] [0, 1, 4, 5, 10, 14, 25] hLT hmix Try.func12 rfl rfl ⟨rfl, rfl⟩ (by show 2 ≤ 26; decide) (Nat.le_refl _) ?_
  refine And.intro (fun hn => ?_) (fun hn => ?_)
  · refine And.intro ?_ rfl
    have : ¬ al = bl := by
      rintro rfl
      simp at hn
    rw [decide_eq_false this]
  · have hlen : al.length = bl.length := by
      simp at hn
      omega
    show Ok _ _ _ _ _
    refine Ok.loopN hLT hmix [] [0, 1, 4, 5, 10, 14, 25] [0, 1, 5, 4] [] (fun n s => ∃ i : Nat, n = al.length - i ∧ i ≤ al.length ∧ (∀ j, j < i → al[j]? = bl[j]?) ∧ s = ⟨[(0, .list .imm (al.map rowI)), (1, .list .imm (bl.map rowI)), (5, .int .i64 (i : Int)), (4, .bool false)], [], [], mR 0⟩) (n := al.length) ⟨0, rfl, Nat.zero_le _, fun j hj => absurd hj (Nat.not_lt_zero j), rfl⟩ ?_
    rintro n s ⟨i, rfl, hi, heq, rfl⟩
    refine And.intro (fun h => ?_) (fun h => ?_)
    · have h : ((i : Nat) : Int) < ((al.map rowI).length : Int) := of_decide_eq_true h
      rw [List.length_map] at h
      have hi1 : i < al.length := by omega
      have hi2 : i < bl.length := by omega
      refine ⟨⟨511, [0, 0, 3, 4, 0, 0, 48, 64, 136], [1, 2, 7, 15, 16, 32, 112, 240, 511]⟩, by kernel_rfl, ?_⟩
      refine ⟨al.map rowI, [.int .i64 al[i]], rfl, by omega, by rw [Int.toNat_natCast, List.getElem?_map, List.getElem?_eq_getElem hi1]; rfl, rfl, by decide, ?_⟩
      refine And.intro rfl ?_
      refine ⟨bl.map rowI, [.int .i64 bl[i]], rfl, by omega, by rw [Int.toNat_natCast, List.getElem?_map, List.getElem?_eq_getElem hi2]; rfl, rfl, by decide, ?_⟩
      refine And.intro rfl ?_
      refine And.intro (fun hne => ?_) (fun hne => ?_)
      · refine And.intro ?_ rfl
        have : ¬ al = bl := by
          rintro rfl
          simp at hne
        rw [decide_eq_false this]
      · have hq : al[i] = bl[i] := by simpa using hne
        have hw : IntKind.i64.wrap ((i : Int) + 1) = ((i + 1 : Nat) : Int) := by
          rw [wrap64 (by omega) (by omega)]
          omega
        refine ⟨al.length - (i + 1), by omega, i + 1, rfl, by omega, fun j hj => ?_, ?_⟩
        · rcases Nat.lt_or_ge j i with h' | h'
          · exact heq j h'
          · have : j = i := by omega
            subst this
            rw [List.getElem?_eq_getElem hi1, List.getElem?_eq_getElem hi2, hq]
        · rw [← hw]
          rfl
    · have h : ¬ ((i : Nat) : Int) < ((al.map rowI).length : Int) := of_decide_eq_false h
      rw [List.length_map] at h
      refine And.intro ?_ rfl
      have : al = bl := by
        apply List.ext_getElem?
        intro j
        rcases Nat.lt_or_ge j al.length with h' | h'
        · exact heq j (by omega)
        · rw [List.getElem?_eq_none h', List.getElem?_eq_none (by omega)]
      rw [decide_eq_true this]
theorem c_draybook_Same_byte_0 (al bl : List Int) (ha : al.length ≤ 1000000000000000) (hb : bl.length ≤ 1000000000000000) :
    Tri Try.prog 20 0 [.list .imm (al.map rowB), .list .imm (bl.map rowB)] [] (fun d l => d = .bool (decide (al = bl)) ∧ l = []) := by
  refine Tri.walk2 (L := LT) (c := {la := false, n := 26, ko := [4]}) [] [0, 1, 4, 5, 10, 14, 25] hLT hmix Try.func20 rfl rfl ⟨rfl, rfl⟩ (by show 2 ≤ 26; decide) (Nat.le_refl _) ?_
  refine And.intro (fun hn => ?_) (fun hn => ?_)
  · refine And.intro ?_ rfl
    have : ¬ al = bl := by
      rintro rfl
      simp at hn
    rw [decide_eq_false this]
  · have hlen : al.length = bl.length := by
      simp at hn
      omega
    show Ok _ _ _ _ _
    refine Ok.loopN hLT hmix [] [0, 1, 4, 5, 10, 14, 25] [0, 1, 5, 4] [] (fun n s => ∃ i : Nat, n = al.length - i ∧ i ≤ al.length ∧ (∀ j, j < i → al[j]? = bl[j]?) ∧ s = ⟨[(0, .list .imm (al.map rowB)), (1, .list .imm (bl.map rowB)), (5, .int .i64 (i : Int)), (4, .bool false)], [], [], mR 0⟩) (n := al.length) ⟨0, rfl, Nat.zero_le _, fun j hj => absurd hj (Nat.not_lt_zero j), rfl⟩ ?_
    rintro n s ⟨i, rfl, hi, heq, rfl⟩
    refine And.intro (fun h => ?_) (fun h => ?_)
    · have h : ((i : Nat) : Int) < ((al.map rowB).length : Int) := of_decide_eq_true h
      rw [List.length_map] at h
      have hi1 : i < al.length := by omega
      have hi2 : i < bl.length := by omega
      refine ⟨⟨511, [0, 0, 3, 4, 0, 0, 48, 64, 136], [1, 2, 7, 15, 16, 32, 112, 240, 511]⟩, by kernel_rfl, ?_⟩
      refine ⟨al.map rowB, [.int .u8 al[i]], rfl, by omega, by rw [Int.toNat_natCast, List.getElem?_map, List.getElem?_eq_getElem hi1]; rfl, rfl, by decide, ?_⟩
      refine And.intro rfl ?_
      refine ⟨bl.map rowB, [.int .u8 bl[i]], rfl, by omega, by rw [Int.toNat_natCast, List.getElem?_map, List.getElem?_eq_getElem hi2]; rfl, rfl, by decide, ?_⟩
      refine And.intro rfl ?_
      refine And.intro (fun hne => ?_) (fun hne => ?_)
      · refine And.intro ?_ rfl
        have : ¬ al = bl := by
          rintro rfl
          simp at hne
        rw [decide_eq_false this]
      · have hq : al[i] = bl[i] := by simpa using hne
        have hw : IntKind.i64.wrap ((i : Int) + 1) = ((i + 1 : Nat) : Int) := by
          rw [wrap64 (by omega) (by omega)]
          omega
        refine ⟨al.length - (i + 1), by omega, i + 1, rfl, by omega, fun j hj => ?_, ?_⟩
        · rcases Nat.lt_or_ge j i with h' | h'
          · exact heq j h'
          · have : j = i := by omega
            subst this
            rw [List.getElem?_eq_getElem hi1, List.getElem?_eq_getElem hi2, hq]
        · rw [← hw]
          rfl
    · have h : ¬ ((i : Nat) : Int) < ((al.map rowB).length : Int) := of_decide_eq_false h
      rw [List.length_map] at h
      refine And.intro ?_ rfl
      have : al = bl := by
        apply List.ext_getElem?
        intro j
        rcases Nat.lt_or_ge j al.length with h' | h'
        · exact heq j (by omega)
        · rw [List.getElem?_eq_none h', List.getElem?_eq_none (by omega)]
      rw [decide_eq_true this]
theorem nrBLL_I : ∀ l : List Int, nrBLL 0 (l.map rowI) = true
  | [] => rfl
  | b :: r => by
    show (nrBL 0 (rowI b) && nrBLL 0 (r.map rowI)) = true
    rw [nrBLL_I r]
    rfl
theorem c_draybook_Same_int (al bl : List Int) (ha : al.length ≤ 1000000000000000) (hb : bl.length ≤ 1000000000000000) {r : Nat} {sto : List Ob} (hr : r ≤ sto.length) :
    Tri Try.prog 12 r [.list .imm (al.map rowI), .list .imm (bl.map rowI)] sto (fun d l => d = .bool (decide (al = bl)) ∧ l = sto) :=
  (c_draybook_Same_int_0 al bl ha hb).pure rfl (by
    show (nrBLL 0 (al.map rowI) && (nrBLL 0 (bl.map rowI) && true)) = true
    rw [nrBLL_I, nrBLL_I]
    rfl) rfl rfl hr
theorem c_draybook_Same_byte (al bl : List Int) (ha : al.length ≤ 1000000000000000) (hb : bl.length ≤ 1000000000000000) {r : Nat} {sto : List Ob} (hr : r ≤ sto.length) :
    Tri Try.prog 20 r [.list .imm (al.map rowB), .list .imm (bl.map rowB)] sto (fun d l => d = .bool (decide (al = bl)) ∧ l = sto) :=
  (c_draybook_Same_byte_0 al bl ha hb).pure rfl (by
    show (nrBLL 0 (al.map rowB) && (nrBLL 0 (bl.map rowB) && true)) = true
    rw [nrBLL_B, nrBLL_B]
    rfl) rfl rfl hr
end Go.Lv

namespace Go.Lv
open Go.Proofs

noncomputable def zu (n : Int) : Int := IntKind.u64.wrap (IntKind.u64.wrap n * 2 ^ min (Int.toNat 1) IntKind.u64.bits)
noncomputable def zn (u : Int) : Int := IntKind.u64.wrap (BitVec.ofInt IntKind.u64.bits (if IntKind.u64.signed then -1 else IntKind.u64.max) ^^^ BitVec.ofInt IntKind.u64.bits u).toNat
noncomputable def zigU (n : Int) : Int := if n < 0 then zn (zu n) else zu n
noncomputable def zsh (n : Int) : Int := IntKind.u64.wrap (n.fdiv (2 ^ min (Int.toNat 63) IntKind.i64.bits))
noncomputable def zx (a b : Int) : Int := IntKind.u64.wrap (BitVec.ofInt IntKind.u64.bits a ^^^ BitVec.ofInt IntKind.u64.bits b).toNat
theorem zu_range (n : Int) : 0 ≤ zu n ∧ zu n < 18446744073709551616 := by
  unfold zu
  rw [wrapU]
  omega
theorem zn_range (n : Int) : 0 ≤ zn n ∧ zn n < 18446744073709551616 := by
  unfold zn
  rw [wrapU]
  omega
theorem zigU_range (n : Int) : 0 ≤ zigU n ∧ zigU n < 18446744073709551616 := by
  unfold zigU
  split
  · exact zn_range _
  · exact zu_range _
theorem zig_eq {n : Int} (h1 : -9223372036854775808 ≤ n) (h2 : n ≤ 9223372036854775807) : zx (zu n) (zsh n) = zigU n := by
  have e63 : (2 : Int) ^ min (Int.toNat 63) IntKind.i64.bits = 9223372036854775808 := by decide
  unfold zigU
  split
  · rename_i h
    have e : zsh n = 18446744073709551615 := by
      unfold zsh
      rw [e63, wrapU]
      have : n.fdiv 9223372036854775808 = -1 := by
        rw [Int.fdiv_eq_ediv_of_nonneg _ (by omega)]
        omega
      rw [this]
      decide
    rw [e]
    unfold zx zn
    rw [BitVec.xor_comm]
    rfl
  · rename_i h
    have e : zsh n = 0 := by
      unfold zsh
      rw [e63, wrapU]
      have : n.fdiv 9223372036854775808 = 0 := by
        rw [Int.fdiv_eq_ediv_of_nonneg _ (by omega)]
        omega
      rw [this]
      decide
    rw [e]
    obtain ⟨r1, r2⟩ := zu_range n
    generalize zu n = u at r1 r2
    show IntKind.u64.wrap ((BitVec.ofInt 64 u ^^^ BitVec.ofInt 64 0).toNat : Int) = u
    rw [show BitVec.ofInt 64 0 = 0#64 by decide, BitVec.xor_zero, wrapU, BitVec.toNat_ofInt]
    omega
theorem c_wire_zig_0 (n : Int) (h1 : -9223372036854775808 ≤ n) (h2 : n ≤ 9223372036854775807) : Tri Try.prog 83 0 [.int .i64 n] [] (fun d l => d = .int .u64 (zigU n) ∧ l = []) := by
  refine Tri.walk2 (L := LT) (c := {la := false, n := 10, ko := [2]}) [] [0, 2] hLT hmix Try.func83 rfl rfl ⟨rfl, rfl⟩ (by show 1 ≤ 10; decide) (Nat.le_refl _) ?_
  refine And.intro ?_ rfl
  rw [← zig_eq h1 h2]
  rfl
noncomputable def orB (u : Int) : Int := IntKind.u8.wrap (BitVec.ofInt IntKind.u8.bits (IntKind.u8.wrap u) ||| BitVec.ofInt IntKind.u8.bits 128).toNat
noncomputable def sh7 (u : Int) : Int := u.fdiv (2 ^ min (Int.toNat 7) IntKind.u64.bits)
theorem sh7_eq {u : Int} : sh7 u = u / 128 := by
  unfold sh7
  rw [show (2 : Int) ^ min (Int.toNat 7) IntKind.u64.bits = 128 by decide, Int.fdiv_eq_ediv_of_nonneg _ (by omega)]
/-- A number's groups. -/
noncomputable def putB : Nat → Int → List Int
  | 0, u => [IntKind.u8.wrap u]
  | f + 1, u => if u ≥ 128 then orB u :: putB f (sh7 u) else [IntKind.u8.wrap u]
noncomputable def numB (n : Int) : List Int := putB 9 (zigU n)
theorem putB_len : ∀ (f : Nat) (u : Int), (putB f u).length ≤ f + 1
  | 0, u => by simp [putB]
  | f + 1, u => by
    unfold putB
    split
    · have := putB_len f (sh7 u); simp; omega
    · simp
theorem putB_end {f : Nat} {u : Int} (h : ¬ u ≥ 128) : putB f u = [IntKind.u8.wrap u] := by
  cases f with
  | zero => rfl
  | succ f => unfold putB; rw [if_neg h]
theorem pow128 (f : Nat) : (128 : Int) ^ (f + 1) = 128 * 128 ^ f := by rw [Int.pow_succ, Int.mul_comm]
theorem sh7_lt {u : Int} {f : Nat} (h0 : 0 ≤ u) (h : u < 128 ^ (f + 2)) : 0 ≤ sh7 u ∧ sh7 u < 128 ^ (f + 1) := by
  rw [sh7_eq]
  rw [pow128 (f + 1)] at h
  omega
noncomputable def sP (sz : Nat) (bs : List Int) (n u : Int) : DS := ⟨[(0, .list (.own sz) (bs.map rowB)), (5, .int .u64 u), (4, .list (.own 0) [])], [], [], mR 0⟩
/-- put. -/
theorem c_wire_put_0 (sz : Nat) (hsz : sz = 0 ∨ sz = 1) (bs : List Int) (hb : bs.length ≤ 140737488355300) (n : Int) (h1 : -9223372036854775808 ≤ n) (h2 : n ≤ 9223372036854775807) :
    Tri Try.prog 65 0 [.list (.own sz) (bs.map rowB), .int .i64 n] [] (fun d l => d = .list (.own 1) ((bs ++ numB n).map rowB) ∧ l = []) := by
  refine Tri.walk2 (L := LT) (c := {la := false, n := 23, ko := [0, 4], xf := [10, 18]}) [] [0, 1, 4, 5, 9] hLT hmix Try.func65 rfl rfl ⟨rfl, rfl⟩ (by show 2 ≤ 23; decide) (Nat.le_refl _) ?_
  have hz := zigU_range n
  have start : ∀ (sz : Nat), (sz = 0 ∨ sz = 1) → ∃ (f : Nat) (u : Int) (pre : List Int), 9 = f ∧ 0 ≤ u ∧ u < 128 ^ (f + 1) ∧ pre ++ putB f u = numB n ∧ pre.length + f = 9 ∧ ((pre = [] ∧ (sz = 0 ∨ sz = 1)) ∨ sz = 1) ∧ sP sz bs n (zigU n) = sP sz (bs ++ pre) n u := fun sz hsz =>
    ⟨9, zigU n, [], rfl, hz.1, by have : (128 : Int) ^ (9 + 1) = 1180591620717411303424 := by decide
                                  omega, rfl, rfl, .inl ⟨rfl, hsz⟩, by rw [List.append_nil]⟩
  have rest : ∀ (sz : Nat), (sz = 0 ∨ sz = 1) → ∀ s, nmB [0, 5, 4] [] s = sP sz bs n (zigU n) → ∀ c Q, (∀ k s, (∃ (sz f : Nat) (u : Int) (pre : List Int), k = f ∧ 0 ≤ u ∧ u < 128 ^ (f + 1) ∧ pre ++ putB f u = numB n ∧ pre.length + f = 9 ∧ (sz = 0 ∨ sz = 1) ∧ s = sP sz (bs ++ pre) n u) → wC Try.prog ⟨LT, {la := false, n := 23, ko := [0, 4], xf := [10, 18]}, 0, 0⟩ [] [0, 1, 4, 5, 9] c s (Ex.then (fun s' => ∃ k', k' < k ∧ ∃ (sz f : Nat) (u : Int) (pre : List Int), k' = f ∧ 0 ≤ u ∧ u < 128 ^ (f + 1) ∧ pre ++ putB f u = numB n ∧ pre.length + f = 9 ∧ (sz = 0 ∨ sz = 1) ∧ nmB [0, 5, 4] [] s' = sP sz (bs ++ pre) n u) Q)) → Ok Try.prog ⟨LT, {la := false, n := 23, ko := [0, 4], xf := [10, 18]}, 0, 0⟩ (.loop c) s Q := by
    intro sz hsz s hs c Q hr
    refine Ok.loopN hLT hmix [] [0, 1, 4, 5, 9] [0, 5, 4] [] (fun k s => ∃ (sz f : Nat) (u : Int) (pre : List Int), k = f ∧ 0 ≤ u ∧ u < 128 ^ (f + 1) ∧ pre ++ putB f u = numB n ∧ pre.length + f = 9 ∧ (sz = 0 ∨ sz = 1) ∧ s = sP sz (bs ++ pre) n u) (n := 9) ?_ hr
    obtain ⟨f, u, pre, q1, q2, q3, q4, q5, q6, q7⟩ := start sz hsz
    refine ⟨sz, f, u, pre, q1, q2, q3, q4, q5, hsz, ?_⟩
    rw [hs]
    exact q7
  rcases hsz with rfl | rfl
  all_goals
    refine ⟨rfl, Nat.le_refl 0, (c_wire_zig_0 n h1 h2).mono ?_⟩
    rintro d l ⟨rfl, rfl⟩
    refine ⟨rfl, fun _ _ => rfl, rfl, ?_⟩
    show Ok _ _ _ _ _
    refine rest _ (by simp) _ rfl _ _ ?_
    rintro f s ⟨sz, _, u, pre, rfl, hu0, hu1, hpre, hlen, hsz, rfl⟩
    have hroom : ((bs ++ pre).map rowB).length + 1 ≤ 140737488355328 := by
      simp only [List.length_map, List.length_append]
      omega
    rcases hsz with rfl | rfl
    all_goals
      refine And.intro (fun h => ?_) (fun h => ?_)
      · have h := of_decide_eq_true h
        cases f with
        | zero => exact absurd h (by simp at hu1; omega)
        | succ f =>
          refine And.intro trivial ?_
          refine And.intro rfl (And.intro ?_ (And.intro rfl ?_))
          · show (((bs ++ pre).map rowB).length + 1) * 1 ≤ 140737488355328
            omega
          have hs7 := sh7_lt hu0 hu1
          refine ⟨f, Nat.lt_succ_self f, 1, f, sh7 u, pre ++ [orB u], rfl, hs7.1, hs7.2, ?_, by simp; omega, .inr rfl, ?_⟩
          · rw [← hpre]
            conv => rhs; unfold putB
            rw [if_pos h]
            simp
          · have : (bs ++ (pre ++ [orB u])).map rowB = (bs ++ pre).map rowB ++ [rowB (orB u)] := by simp
            unfold sP
            rw [this]
            rfl
      · have h := of_decide_eq_false h
        refine And.intro trivial ?_
        refine And.intro rfl (And.intro ?_ (And.intro rfl ?_))
        · show (((bs ++ pre).map rowB).length + 1) * 1 ≤ 140737488355328
          omega
        refine And.intro ?_ rfl
        rw [← hpre, putB_end h]
        have : (bs ++ (pre ++ [IntKind.u8.wrap u])).map rowB = (bs ++ pre).map rowB ++ [rowB (IntKind.u8.wrap u)] := by simp
        rw [this]
        rfl
/-- again. -/
theorem c_wire_again_0 (bs : List Int) (hb : bs.length ≤ 140737488354000) (k : Int) (h1 : 0 ≤ k) (h2 : k ≤ 1000) :
    Tri Try.prog 59 0 [.list .imm (bs.map rowB), .int .i64 k] [] (fun d l => d = .list (.own 1) (bs.map rowB) ∧ l = []) := by
  refine Tri.walk2 (L := LT) (c := {la := false, n := 14, ko := [4, 5], xf := [11]}) [] [0, 1, 4, 5] hLT hmix Try.func59 rfl rfl ⟨rfl, rfl⟩ (by show 2 ≤ 14; decide) (Nat.le_refl _) ?_
  have hw : IntKind.i64.wrap (((bs.map rowB).length : Int) + k) = (bs.length : Int) + k := by
    rw [List.length_map, wrap64 (by omega) (by omega)]
  refine And.intro ?_ ?_
  · show 0 ≤ 0 ∧ (0 : Int) ≤ IntKind.i64.wrap (((bs.map rowB).length : Int) + k) ∧ IntKind.i64.wrap (((bs.map rowB).length : Int) + k) * (1 : Nat) ≤ 2 * (140737488355328 : Nat) ∧ IntKind.i64.wrap (((bs.map rowB).length : Int) + k) ≤ 9223372036854775807 ∧ 0 < 1
    rw [hw]
    omega
  refine And.intro trivial ?_
  refine And.intro rfl (And.intro ?_ (And.intro ?_ ?_))
  · show (0 + (bs.map rowB).length) * 1 ≤ 140737488355328
    simp only [List.length_map]
    omega
  · simp [allLen, rowB]
    intro a _
    rfl
  exact And.intro rfl rfl
/-- Num. -/
theorem c_wire_Num_0 (bs : List Int) (hb : bs.length ≤ 140737488354000) (n : Int) (h1 : -9223372036854775808 ≤ n) (h2 : n ≤ 9223372036854775807) :
    Tri Try.prog 44 0 [.list .imm (bs.map rowB), .int .i64 n] [] (fun d l => d = .list (.own 1) ((bs ++ numB n).map rowB) ∧ l = []) := by
  refine Tri.walk2 (L := LT) (c := {la := false, n := 9, ko := [4]}) [(65, 0, [0])] [0, 1, 4] hLT hmix Try.func44 rfl rfl ⟨rfl, rfl⟩ (by show 2 ≤ 9; decide) (Nat.le_refl _) ?_
  refine ⟨rfl, Nat.le_refl 0, (c_wire_again_0 bs hb 10 (by omega) (by omega)).mono ?_⟩
  rintro d l ⟨rfl, rfl⟩
  refine ⟨rfl, fun _ _ => rfl, rfl, ?_⟩
  refine ⟨rfl, Nat.le_refl 0, (c_wire_put_0 1 (.inr rfl) bs (by omega) n h1 h2).mono ?_⟩
  rintro d l ⟨rfl, rfl⟩
  refine ⟨rfl, fun _ _ => rfl, rfl, ?_⟩
  exact And.intro rfl rfl
noncomputable def sQ (bs : List Int) (u : Int) : DS := ⟨[(5, .list (.own 1) (bs.map rowB)), (6, .int .u64 u), (4, .list (.own 0) [])], [], [], mR 0⟩
theorem c_drayref3_Num_0 (bs : List Int) (hb : bs.length ≤ 140737488355000) (n : Int) :
    Tri Try.prog 52 0 [.list .imm (bs.map rowB), .int .i64 n] [] (fun d l => d = .list (.own 1) ((bs ++ numB n).map rowB) ∧ l = []) := by
  refine Tri.walk2 (L := LT) (c := {la := false, n := 32, ko := [4, 5], xf := [19, 27]}) [] [0, 1, 4, 5, 6, 14, 18] hLT hmix Try.func52 rfl rfl ⟨rfl, rfl⟩ (by show 2 ≤ 32; decide) (Nat.le_refl _) ?_
  have hz := zigU_range n
  refine And.intro trivial ?_
  refine And.intro rfl (And.intro ?_ (And.intro (allLenB bs) ?_))
  · show (0 + (bs.map rowB).length) * 1 ≤ 140737488355328
    simp only [List.length_map]
    omega
  have fin : ∀ (s : DS) (u0 : Int), u0 = zigU n → nmB [5, 6, 4] [] s = sQ bs u0 → ∀ c Q, (∀ f s, (∃ (u : Int) (pre : List Int), 0 ≤ u ∧ u < 128 ^ (f + 1) ∧ pre ++ putB f u = numB n ∧ pre.length + f = 9 ∧ s = sQ (bs ++ pre) u) → wC Try.prog ⟨LT, {la := false, n := 32, ko := [4, 5], xf := [19, 27]}, 0, 0⟩ [] [0, 1, 4, 5, 6, 14, 18] c s (Ex.then (fun s' => ∃ k', k' < f ∧ ∃ (u : Int) (pre : List Int), 0 ≤ u ∧ u < 128 ^ (k' + 1) ∧ pre ++ putB k' u = numB n ∧ pre.length + k' = 9 ∧ nmB [5, 6, 4] [] s' = sQ (bs ++ pre) u) Q)) → Ok Try.prog ⟨LT, {la := false, n := 32, ko := [4, 5], xf := [19, 27]}, 0, 0⟩ (.loop c) s Q := by
    intro s u0 hu0 hs c Q hr
    refine Ok.loopN hLT hmix [] [0, 1, 4, 5, 6, 14, 18] [5, 6, 4] [] (fun f s => ∃ (u : Int) (pre : List Int), 0 ≤ u ∧ u < 128 ^ (f + 1) ∧ pre ++ putB f u = numB n ∧ pre.length + f = 9 ∧ s = sQ (bs ++ pre) u) (n := 9) ⟨zigU n, [], hz.1, ?_, rfl, rfl, ?_⟩ hr
    · have : (128 : Int) ^ (9 + 1) = 1180591620717411303424 := by decide
      omega
    · rw [List.append_nil, ← hu0]
      exact hs
  refine And.intro (fun hn => ?_) (fun hn => ?_)
  · have hn := of_decide_eq_true hn
    show Ok _ _ _ _ _
    refine fin _ (zn (zu n)) (by unfold zigU; rw [if_pos hn]) rfl _ _ ?_
    rintro f s ⟨u, pre, hu0, hu1, hpre, hlen, rfl⟩
    have hroom : ((bs ++ pre).map rowB).length + 1 ≤ 140737488355328 := by
      simp only [List.length_map, List.length_append]
      omega
    refine And.intro (fun h => ?_) (fun h => ?_)
    · have h := of_decide_eq_true h
      cases f with
      | zero => exact absurd h (by simp at hu1; omega)
      | succ f =>
        refine And.intro trivial ?_
        refine And.intro rfl (And.intro ?_ (And.intro rfl ?_))
        · show (((bs ++ pre).map rowB).length + 1) * 1 ≤ 140737488355328
          omega
        have hs7 := sh7_lt hu0 hu1
        refine ⟨f, Nat.lt_succ_self f, sh7 u, pre ++ [orB u], hs7.1, hs7.2, ?_, by simp; omega, ?_⟩
        · rw [← hpre]
          conv => rhs; unfold putB
          rw [if_pos h]
          simp
        · have : (bs ++ (pre ++ [orB u])).map rowB = (bs ++ pre).map rowB ++ [rowB (orB u)] := by simp
          unfold sQ
          rw [this]
          rfl
    · have h := of_decide_eq_false h
      refine And.intro trivial ?_
      refine And.intro rfl (And.intro ?_ (And.intro rfl ?_))
      · show (((bs ++ pre).map rowB).length + 1) * 1 ≤ 140737488355328
        omega
      refine And.intro ?_ rfl
      rw [← hpre, putB_end h]
      have : (bs ++ (pre ++ [IntKind.u8.wrap u])).map rowB = (bs ++ pre).map rowB ++ [rowB (IntKind.u8.wrap u)] := by simp
      rw [this]
      rfl
  · have hn := of_decide_eq_false hn
    show Ok _ _ _ _ _
    refine fin _ (zu n) (by unfold zigU; rw [if_neg hn]) rfl _ _ ?_
    rintro f s ⟨u, pre, hu0, hu1, hpre, hlen, rfl⟩
    have hroom : ((bs ++ pre).map rowB).length + 1 ≤ 140737488355328 := by
      simp only [List.length_map, List.length_append]
      omega
    refine And.intro (fun h => ?_) (fun h => ?_)
    · have h := of_decide_eq_true h
      cases f with
      | zero => exact absurd h (by simp at hu1; omega)
      | succ f =>
        refine And.intro trivial ?_
        refine And.intro rfl (And.intro ?_ (And.intro rfl ?_))
        · show (((bs ++ pre).map rowB).length + 1) * 1 ≤ 140737488355328
          omega
        have hs7 := sh7_lt hu0 hu1
        refine ⟨f, Nat.lt_succ_self f, sh7 u, pre ++ [orB u], hs7.1, hs7.2, ?_, by simp; omega, ?_⟩
        · rw [← hpre]
          conv => rhs; unfold putB
          rw [if_pos h]
          simp
        · have : (bs ++ (pre ++ [orB u])).map rowB = (bs ++ pre).map rowB ++ [rowB (orB u)] := by simp
          unfold sQ
          rw [this]
          rfl
    · have h := of_decide_eq_false h
      refine And.intro trivial ?_
      refine And.intro rfl (And.intro ?_ (And.intro rfl ?_))
      · show (((bs ++ pre).map rowB).length + 1) * 1 ≤ 140737488355328
        omega
      refine And.intro ?_ rfl
      rw [← hpre, putB_end h]
      have : (bs ++ (pre ++ [IntKind.u8.wrap u])).map rowB = (bs ++ pre).map rowB ++ [rowB (IntKind.u8.wrap u)] := by simp
      rw [this]
      rfl
theorem numB_len (n : Int) : (numB n).length ≤ 10 := putB_len 9 _
theorem c_wire_Num (bs : List Int) (hb : bs.length ≤ 140737488354000) (n : Int) (h1 : -9223372036854775808 ≤ n) (h2 : n ≤ 9223372036854775807) {r : Nat} {sto : List Ob} (hr : r ≤ sto.length) :
    Tri Try.prog 44 r [.list .imm (bs.map rowB), .int .i64 n] sto (fun d l => d = .list (.own 1) ((bs ++ numB n).map rowB) ∧ l = sto) :=
  (c_wire_Num_0 bs hb n h1 h2).pure rfl (nrBL_B rfl) rfl (nrBLL_B _) hr
end Go.Lv

namespace Go.Lv
open Go.Proofs

/-- A reader: its fault's place and number, its bytes, where it stands. -/
noncomputable def stR (fa fw : Int) (bs : List Int) (p : Int) : List Ob := [.box [.int .i64 fa, .int .i64 fw, .list .imm (bs.map rowB), .int .i64 p]]
theorem c_wire_Reader_fail (fa fw p a e : Int) (bs : List Int) : Tri Try.prog 64 0 [.gptr 0 0, .int .i64 a, .int .i64 e] (stR fa fw bs p) (fun d l => d = .tup [] ∧ l = stR a e bs a) := by
  refine Tri.walk2 (L := LT) (c := {la := false, n := 16}) [] [0, 1, 2] hLT hmix Try.func64 rfl rfl ⟨rfl, rfl⟩ (by show 3 ≤ 16; decide) (Nat.zero_le _) ?_
  exact And.intro rfl rfl
theorem c_api_Fault_Good_0 (fa fw : Int) : Tri Try.prog 61 0 [.agg [.int .i64 fa, .int .i64 fw]] [] (fun d l => d = .bool (decide (fw = 0)) ∧ l = []) := by
  refine Tri.walk2 (L := LT) (c := {la := false, n := 6, ko := [2]}) [] [1, 2] hLT hmix Try.func61 rfl rfl ⟨rfl, rfl⟩ (by show 1 ≤ 6; decide) (Nat.zero_le _) ?_
  refine And.intro (fun h => And.intro (by rw [h]) rfl) (fun h => And.intro (by rw [h]) rfl)
noncomputable def zagU (u : Int) : Int := IntKind.i64.wrap (BitVec.ofInt IntKind.i64.bits (IntKind.i64.wrap (u.fdiv (2 ^ min (Int.toNat 1) IntKind.u64.bits))) ^^^ BitVec.ofInt IntKind.i64.bits (IntKind.i64.wrap (0 - IntKind.i64.wrap (IntKind.u64.wrap (BitVec.ofInt IntKind.u64.bits u &&& BitVec.ofInt IntKind.u64.bits 1).toNat)))).toNat
theorem c_wire_zag_0 (u : Int) : Tri Try.prog 92 0 [.int .u64 u] [] (fun d l => d = .int .i64 (zagU u) ∧ l = []) := by
  refine Tri.walk2 (L := LT) (c := {la := false, n := 11, ko := [2]}) [] [0, 2] hLT hmix Try.func92 rfl rfl ⟨rfl, rfl⟩ (by show 1 ≤ 11; decide) (Nat.zero_le _) ?_
  exact And.intro rfl rfl
/-- A group's bits. -/
noncomputable def grp (c : Int) : Int := IntKind.u64.wrap (IntKind.u8.wrap (BitVec.ofInt IntKind.u8.bits c &&& BitVec.ofInt IntKind.u8.bits 127).toNat)
noncomputable def orU (u c : Int) (k : Nat) : Int := IntKind.u64.wrap (BitVec.ofInt IntKind.u64.bits u ||| BitVec.ofInt IntKind.u64.bits (IntKind.u64.wrap (grp c * 2 ^ min (7 * k) IntKind.u64.bits))).toNat
/-- What is read of a number: what is wrong, the number, where it ends. -/
noncomputable def numL : List Int → Nat → Int → Nat → Int × Int × Nat
  | [], _, _, _ => (3, 0, 0)
  | c :: r, k, u, p => if (k : Int) = 9 ∧ c > 1 then (4, 0, 0) else if c ≥ 128 then numL r (k + 1) (orU u c k) (p + 1) else if c = 0 ∧ (k : Int) > 0 then (4, 0, 0) else (0, zagU (orU u c k), p + 1)
theorem numL_bad {c u : Int} {r : List Int} {k p : Nat} (h : (k : Int) = 9 ∧ c > 1) : numL (c :: r) k u p = (4, 0, 0) := by simp only [numL]; rw [if_pos h]
theorem numL_more {c u : Int} {r : List Int} {k p : Nat} (h : ¬ ((k : Int) = 9 ∧ c > 1)) (hc : c ≥ 128) : numL (c :: r) k u p = numL r (k + 1) (orU u c k) (p + 1) := by simp only [numL]; rw [if_neg h, if_pos hc]
theorem numL_zero {c u : Int} {r : List Int} {k p : Nat} (h : ¬ ((k : Int) = 9 ∧ c > 1)) (hc : ¬ c ≥ 128) (h0 : c = 0) (h4 : (k : Int) > 0) : numL (c :: r) k u p = (4, 0, 0) := by simp only [numL]; rw [if_neg h, if_neg hc, if_pos ⟨h0, h4⟩]
theorem numL_ok {c u : Int} {r : List Int} {k p : Nat} (h : ¬ ((k : Int) = 9 ∧ c > 1)) (hc : ¬ c ≥ 128) (h4 : ¬ (c = 0 ∧ (k : Int) > 0)) : numL (c :: r) k u p = (0, zagU (orU u c k), p + 1) := by simp only [numL]; rw [if_neg h, if_neg hc, if_neg h4]
noncomputable def outN (fa fw from' : Int) (bs : List Int) (x : Int × Int × Nat) : List Ob := if x.1 = 0 then stR fa fw bs x.2.2 else stR from' x.1 bs from'
theorem sh_ask {x b : Int} {k : Nat} {kk : IntKind} (hb : b = 7 * (k : Int)) : binD LT 90 .shl (.int .u64 x) (.int kk b) = some (.int .u64 (IntKind.u64.wrap (x * 2 ^ min (7 * k) IntKind.u64.bits))) := by
  subst hb
  show (if (7 * (k : Int)) < 0 then none else some (D.int .u64 (IntKind.u64.wrap (x * 2 ^ min (7 * (k : Int)).toNat IntKind.u64.bits)))) = _
  rw [if_neg (by omega)]
  have : (7 * (k : Int)).toNat = 7 * k := by omega
  rw [this]
noncomputable def sN (fa fw from' : Int) (bs : List Int) (k : Nat) (u : Int) (p : Nat) : DS := ⟨[(0, .gptr 0 0), (1, .int .i64 from'), (5, .int .u64 u), (6, .int .i64 (k : Int)), (4, .int .i64 0)], [], stR fa fw bs p, mR 0⟩
set_option maxHeartbeats 4000000 in
theorem c_wire_Reader_num (fa fw from' : Int) (bs : List Int) (hb : bs.length ≤ 140737488351232) (p : Nat) (hp : p ≤ bs.length) :
    Tri Try.prog 82 0 [.gptr 0 0, .int .i64 from'] (stR fa fw bs p) (fun d l => d = .int .i64 (numL (bs.drop p) 0 0 p).2.1 ∧ l = outN fa fw from' bs (numL (bs.drop p) 0 0 p)) := by
  refine Tri.walk2 (L := LT) (c := {la := false, n := 71, ko := [4], fs := [56]}) [(64, 1, [])] [0, 1, 4, 5, 6, 7, 19, 38, 59, 65] hLT hmix Try.func82 rfl rfl ⟨rfl, rfl⟩ (by show 2 ≤ 71; decide) (Nat.zero_le _) ?_
  show Ok _ _ _ _ _
  refine Ok.loopN hLT hmix [(64, 1, [])] [0, 1, 4, 5, 6, 7, 19, 38, 59, 65] [0, 1, 5, 6, 4] [] (fun n s => ∃ (k : Nat) (u : Int) (q : Nat), n = bs.length - q ∧ q ≤ bs.length ∧ k ≤ 9 ∧ numL (bs.drop q) k u q = numL (bs.drop p) 0 0 p ∧ s = sN fa fw from' bs k u q) (n := bs.length - p) ⟨0, 0, p, rfl, hp, by omega, rfl, rfl⟩ ?_
  rintro n s ⟨k, u, q, rfl, hq, hk, hnum, rfl⟩
  rw [← hnum]
  refine ⟨⟨1023, [0, 1, 2, 4, 0, 16, 32, 64, 128, 264], [1, 3, 7, 15, 16, 48, 112, 240, 496, 1023]⟩, by kernel_rfl, ?_⟩
  refine And.intro (fun h1 => ?_) (fun h1 => ?_)
  · have h1 : ((q : Nat) : Int) ≥ ((bs.map rowB).length : Int) := of_decide_eq_true h1
    rw [List.length_map] at h1
    have hd : bs.drop q = [] := List.drop_eq_nil_of_le (by omega)
    refine ⟨rfl, Nat.le_refl 0, (c_wire_Reader_fail fa fw q from' 3 bs).mono ?_⟩
    rintro d l ⟨rfl, rfl⟩
    refine ⟨rfl, fun k hk => absurd hk (Nat.not_lt_zero k), rfl, ?_⟩
    rw [hd]
    exact And.intro rfl rfl
  · have h1 : ¬ ((q : Nat) : Int) ≥ ((bs.map rowB).length : Int) := of_decide_eq_false h1
    rw [List.length_map] at h1
    have hq1 : q < bs.length := by omega
    have hd : bs.drop q = bs[q] :: bs.drop (q + 1) := List.drop_eq_getElem_cons hq1
    have hrow := row_at (f := rowB) bs hq1
    have hw : IntKind.i64.wrap ((q : Int) + 1) = ((q + 1 : Nat) : Int) := wrap_succ hq1 (by omega)
    have hwk : IntKind.i64.wrap ((k : Int) + 1) = ((k + 1 : Nat) : Int) := wrap_succ (n := 10) (by omega) (by omega)
    rw [hd]
    generalize bs[q] = c at hrow
    refine ⟨⟨2047, [0, 1, 2, 4, 0, 16, 32, 64, 136, 256, 1023], [1, 3, 7, 15, 16, 48, 112, 240, 511, 1023, 2047]⟩, by kernel_rfl, ?_⟩
    refine ⟨bs.map rowB, rowB c, rfl, by omega, hrow, rfl, (by show 0 < 1; decide), ?_⟩
    refine And.intro rfl ?_
    refine And.intro ?_ trivial
    refine And.intro trivial ?_
    have hB : IntKind.u64.wrap (IntKind.i64.wrap (7 * (k : Int))) = 7 * (k : Int) := by
      rw [wrap64 (by omega) (by omega), wrapU]
      omega
    refine And.intro (fun h2 => ?_) (fun h2 => ?_)
    · have h2 : (k : Int) = 9 := of_decide_eq_true h2
      refine And.intro (fun h3 => ?_) (fun h3 => ?_)
      · have h3 : c > 1 := of_decide_eq_true h3
        refine ⟨rfl, Nat.le_refl 0, (c_wire_Reader_fail fa fw q from' 4 bs).mono ?_⟩
        rintro d l ⟨rfl, rfl⟩
        refine ⟨rfl, fun k hk => absurd hk (Nat.not_lt_zero k), rfl, ?_⟩
        rw [numL_bad ⟨h2, h3⟩]
        exact And.intro rfl rfl
      · have h3 : ¬ c > 1 := of_decide_eq_false h3
        have hbad : ¬ ((k : Int) = 9 ∧ c > 1) := fun h => h3 h.2
        refine Exists.intro _ (And.intro (sh_ask (x := grp c) hB) ?_)
        refine And.intro (fun hc => ?_) (fun hc => ?_)
        · have hc : c ≥ 128 := of_decide_eq_true hc
          have hk9 : k + 1 ≤ 9 := by
            rcases Nat.lt_or_ge k 9 with h | h
            · omega
            · exact absurd ⟨by omega, by omega⟩ hbad
          refine ⟨bs.length - (q + 1), by omega, k + 1, orU u c k, q + 1, rfl, by omega, hk9, (numL_more hbad hc).symm, ?_⟩
          unfold sN stR
          rw [← hwk, ← hw]
          rfl
        · have hc : ¬ c ≥ 128 := of_decide_eq_false hc
          refine And.intro (fun h0 => ?_) (fun h0 => ?_)
          · have h0 : c = 0 := of_decide_eq_true h0
            refine And.intro (fun h4 => ?_) (fun h4 => ?_)
            · have h4 : (k : Int) > 0 := of_decide_eq_true h4
              refine ⟨rfl, Nat.le_refl 0, (c_wire_Reader_fail fa fw (IntKind.i64.wrap ((q : Int) + 1)) from' 4 bs).mono ?_⟩
              rintro d l ⟨rfl, rfl⟩
              refine ⟨rfl, fun k hk => absurd hk (Nat.not_lt_zero k), rfl, ?_⟩
              rw [numL_zero hbad hc h0 h4]
              exact And.intro rfl rfl
            · have h4 : ¬ (k : Int) > 0 := of_decide_eq_false h4
              refine ⟨rfl, Nat.zero_le 1, ((c_wire_zag_0 (orU u c k)).pure rfl rfl rfl rfl (r := 1) (sto := stR fa fw bs (IntKind.i64.wrap ((q : Int) + 1))) (Nat.le_refl 1)).mono ?_⟩
              rintro d l ⟨rfl, rfl⟩
              refine ⟨rfl, fun _ _ => rfl, rfl, ?_⟩
              rw [numL_ok hbad hc (fun h => h4 h.2)]
              refine And.intro rfl ?_
              rw [hw]
              rfl
          · have h0 : ¬ c = 0 := of_decide_eq_false h0
            refine ⟨rfl, Nat.zero_le 1, ((c_wire_zag_0 (orU u c k)).pure rfl rfl rfl rfl (r := 1) (sto := stR fa fw bs (IntKind.i64.wrap ((q : Int) + 1))) (Nat.le_refl 1)).mono ?_⟩
            rintro d l ⟨rfl, rfl⟩
            refine ⟨rfl, fun _ _ => rfl, rfl, ?_⟩
            rw [numL_ok hbad hc (fun h => h0 h.1)]
            refine And.intro rfl ?_
            rw [hw]
            rfl
    · have h2 : ¬ (k : Int) = 9 := of_decide_eq_false h2
      have hbad : ¬ ((k : Int) = 9 ∧ c > 1) := fun h => h2 h.1
      refine Exists.intro _ (And.intro (sh_ask (x := grp c) hB) ?_)
      refine And.intro (fun hc => ?_) (fun hc => ?_)
      · have hc : c ≥ 128 := of_decide_eq_true hc
        have hk9 : k + 1 ≤ 9 := by
          rcases Nat.lt_or_ge k 9 with h | h
          · omega
          · exact absurd ⟨by omega, by omega⟩ hbad
        refine ⟨bs.length - (q + 1), by omega, k + 1, orU u c k, q + 1, rfl, by omega, hk9, (numL_more hbad hc).symm, ?_⟩
        unfold sN stR
        rw [← hwk, ← hw]
        rfl
      · have hc : ¬ c ≥ 128 := of_decide_eq_false hc
        refine And.intro (fun h0 => ?_) (fun h0 => ?_)
        · have h0 : c = 0 := of_decide_eq_true h0
          refine And.intro (fun h4 => ?_) (fun h4 => ?_)
          · have h4 : (k : Int) > 0 := of_decide_eq_true h4
            refine ⟨rfl, Nat.le_refl 0, (c_wire_Reader_fail fa fw (IntKind.i64.wrap ((q : Int) + 1)) from' 4 bs).mono ?_⟩
            rintro d l ⟨rfl, rfl⟩
            refine ⟨rfl, fun k hk => absurd hk (Nat.not_lt_zero k), rfl, ?_⟩
            rw [numL_zero hbad hc h0 h4]
            exact And.intro rfl rfl
          · have h4 : ¬ (k : Int) > 0 := of_decide_eq_false h4
            refine ⟨rfl, Nat.zero_le 1, ((c_wire_zag_0 (orU u c k)).pure rfl rfl rfl rfl (r := 1) (sto := stR fa fw bs (IntKind.i64.wrap ((q : Int) + 1))) (Nat.le_refl 1)).mono ?_⟩
            rintro d l ⟨rfl, rfl⟩
            refine ⟨rfl, fun _ _ => rfl, rfl, ?_⟩
            rw [numL_ok hbad hc (fun h => h4 h.2)]
            refine And.intro rfl ?_
            rw [hw]
            rfl
        · have h0 : ¬ c = 0 := of_decide_eq_false h0
          refine ⟨rfl, Nat.zero_le 1, ((c_wire_zag_0 (orU u c k)).pure rfl rfl rfl rfl (r := 1) (sto := stR fa fw bs (IntKind.i64.wrap ((q : Int) + 1))) (Nat.le_refl 1)).mono ?_⟩
          rintro d l ⟨rfl, rfl⟩
          refine ⟨rfl, fun _ _ => rfl, rfl, ?_⟩
          rw [numL_ok hbad hc (fun h => h0 h.1)]
          refine And.intro rfl ?_
          rw [hw]
          rfl
structure Rd where
  fa : Int
  fw : Int
  p : Nat
noncomputable def stRd (bs : List Int) (s : Rd) : List Ob := stR s.fa s.fw bs s.p
theorem numL_pos : ∀ (l : List Int) (k : Nat) (u : Int) (p : Nat), (numL l k u p).2.2 ≤ p + l.length
  | [], k, u, p => by simp [numL]
  | c :: r, k, u, p => by
    unfold numL
    split
    · simp
    · split
      · have := numL_pos r (k + 1) (orU u c k) (p + 1)
        simp only [List.length_cons]
        omega
      · split
        · simp
        · simp only [List.length_cons]
          omega
noncomputable def numRd (bs : List Int) (s : Rd) : Int × Rd := if s.fw = 0 then ((numL (bs.drop s.p) 0 0 s.p).2.1, if (numL (bs.drop s.p) 0 0 s.p).1 = 0 then ⟨s.fa, s.fw, (numL (bs.drop s.p) 0 0 s.p).2.2⟩ else ⟨s.p, (numL (bs.drop s.p) 0 0 s.p).1, s.p⟩) else (0, s)
theorem numRd_pos {bs : List Int} {s : Rd} (h : s.p ≤ bs.length) : (numRd bs s).2.p ≤ bs.length := by
  unfold numRd
  split
  · have := numL_pos (bs.drop s.p) 0 0 s.p
    rw [List.length_drop] at this
    simp only
    split
    · show (numL (bs.drop s.p) 0 0 s.p).2.2 ≤ bs.length
      omega
    · exact h
  · exact h
theorem outN_rd (bs : List Int) (s : Rd) (h : s.fw = 0) : outN s.fa s.fw (s.p : Int) bs (numL (bs.drop s.p) 0 0 s.p) = stRd bs (numRd bs s).2 := by
  unfold outN numRd stRd
  rw [if_pos h]
  simp only
  split <;> rfl
/-- Num. -/
theorem c_wire_Reader_Num (bs : List Int) (hb : bs.length ≤ 140737488351232) (s : Rd) (hp : s.p ≤ bs.length) :
    Tri Try.prog 62 0 [.gptr 0 0] (stRd bs s) (fun d l => d = .int .i64 (numRd bs s).1 ∧ l = stRd bs (numRd bs s).2) := by
  refine Tri.walk2 (L := LT) (c := {la := false, n := 19, ko := [2]}) [(82, 1, [])] [0, 2, 12] hLT hmix Try.func62 rfl rfl ⟨rfl, rfl⟩ (by show 1 ≤ 19; decide) (Nat.zero_le _) ?_
  refine And.intro (fun h => by cases h) (fun _ => ?_)
  refine ⟨rfl, Nat.zero_le 1, ((c_api_Fault_Good_0 s.fa s.fw).pure rfl rfl rfl rfl (r := 1) (sto := stRd bs s) (Nat.le_refl 1)).mono ?_⟩
  rintro d l ⟨hd, rfl⟩
  by_cases hf : s.fw = 0
  · rw [decide_eq_true hf] at hd
    subst hd
    refine ⟨rfl, fun _ _ => rfl, rfl, ?_⟩
    refine ⟨rfl, Nat.le_refl 0, (c_wire_Reader_num s.fa s.fw (s.p : Int) bs hb s.p hp).mono ?_⟩
    rintro d l ⟨rfl, rfl⟩
    refine ⟨rfl, fun k hk => absurd hk (Nat.not_lt_zero k), ?_, ?_⟩
    · rw [outN_rd bs s hf]; rfl
    rw [outN_rd bs s hf]
    refine And.intro ?_ rfl
    unfold numRd
    rw [if_pos hf]
  · rw [decide_eq_false hf] at hd
    subst hd
    refine ⟨rfl, fun _ _ => rfl, rfl, ?_⟩
    have : numRd bs s = (0, s) := by unfold numRd; rw [if_neg hf]
    rw [this]
    exact And.intro rfl rfl
noncomputable def cntRd (bs : List Int) (most : Int) (s : Rd) : Int × Rd := if s.fw = 0 then (if (numRd bs s).2.fw = 0 ∧ ((numRd bs s).1 < 0 ∨ (numRd bs s).1 > most) then (0, ⟨s.p, 2, s.p⟩) else numRd bs s) else (0, s)
/-- count. -/
theorem c_wire_Reader_count (bs : List Int) (hb : bs.length ≤ 140737488351232) (s : Rd) (hp : s.p ≤ bs.length) (hf : s.fw = 0) (most : Int) :
    Tri Try.prog 81 0 [.gptr 0 0, .int .i64 (s.p : Int), .int .i64 most] (stRd bs s) (fun d l => d = .int .i64 (cntRd bs most s).1 ∧ l = stRd bs (cntRd bs most s).2) := by
  refine Tri.walk2 (L := LT) (c := {la := false, n := 29, ko := [6]}) [(82, 1, []), (64, 1, [])] [0, 1, 2, 6, 7, 24] hLT hmix Try.func81 rfl rfl ⟨rfl, rfl⟩ (by show 3 ≤ 29; decide) (Nat.zero_le _) ?_
  refine ⟨rfl, Nat.le_refl 0, (c_wire_Reader_num s.fa s.fw (s.p : Int) bs hb s.p hp).mono ?_⟩
  rintro d l ⟨rfl, rfl⟩
  have h1 : (numL (bs.drop s.p) 0 0 s.p).2.1 = (numRd bs s).1 := by unfold numRd; rw [if_pos hf]
  rw [outN_rd bs s hf, h1]
  have hc : cntRd bs most s = if (numRd bs s).2.fw = 0 ∧ ((numRd bs s).1 < 0 ∨ (numRd bs s).1 > most) then (0, ⟨s.p, 2, s.p⟩) else numRd bs s := by unfold cntRd; rw [if_pos hf]
  rw [hc]
  generalize numRd bs s = x
  obtain ⟨n, t⟩ := x
  refine ⟨rfl, fun k hk => absurd hk (Nat.not_lt_zero k), rfl, ?_⟩
  refine ⟨rfl, Nat.zero_le 1, ((c_api_Fault_Good_0 t.fa t.fw).pure rfl rfl rfl rfl (r := 1) (sto := stRd bs t) (Nat.le_refl 1)).mono ?_⟩
  rintro d l ⟨hd, rfl⟩
  by_cases hf2 : t.fw = 0
  · rw [decide_eq_true hf2] at hd
    subst hd
    refine ⟨rfl, fun _ _ => rfl, rfl, ?_⟩
    have bad : (n < 0 ∨ n > most) → (if t.fw = 0 ∧ (n < 0 ∨ n > most) then ((0 : Int), (⟨s.p, 2, s.p⟩ : Rd)) else (n, t)) = (0, ⟨s.p, 2, s.p⟩) := fun h => if_pos ⟨hf2, h⟩
    refine And.intro (fun h2 => ?_) (fun h2 => ?_)
    · have h2 : n < 0 := of_decide_eq_true h2
      refine ⟨rfl, Nat.le_refl 0, (c_wire_Reader_fail t.fa t.fw t.p s.p 2 bs).mono ?_⟩
      rintro d l ⟨rfl, rfl⟩
      refine ⟨rfl, fun k hk => absurd hk (Nat.not_lt_zero k), rfl, ?_⟩
      rw [bad (.inl h2)]
      exact And.intro rfl rfl
    · have h2 : ¬ n < 0 := of_decide_eq_false h2
      refine And.intro (fun h3 => ?_) (fun h3 => ?_)
      · have h3 : n > most := of_decide_eq_true h3
        refine ⟨rfl, Nat.le_refl 0, (c_wire_Reader_fail t.fa t.fw t.p s.p 2 bs).mono ?_⟩
        rintro d l ⟨rfl, rfl⟩
        refine ⟨rfl, fun k hk => absurd hk (Nat.not_lt_zero k), rfl, ?_⟩
        rw [bad (.inr h3)]
        exact And.intro rfl rfl
      · have h3 : ¬ n > most := of_decide_eq_false h3
        rw [if_neg (fun h => h.2.elim h2 h3)]
        exact And.intro rfl rfl
  · rw [decide_eq_false hf2] at hd
    subst hd
    refine ⟨rfl, fun _ _ => rfl, rfl, ?_⟩
    rw [if_neg (fun h => hf2 h.1)]
    exact And.intro rfl rfl
/-- Count. -/
theorem c_wire_Reader_Count (bs : List Int) (hb : bs.length ≤ 140737488351232) (s : Rd) (hp : s.p ≤ bs.length) (most : Int) :
    Tri Try.prog 60 0 [.gptr 0 0, .int .i64 most] (stRd bs s) (fun d l => d = .int .i64 (cntRd bs most s).1 ∧ l = stRd bs (cntRd bs most s).2) := by
  refine Tri.walk2 (L := LT) (c := {la := false, n := 22, ko := [4]}) [(81, 1, [])] [0, 1, 4, 14] hLT hmix Try.func60 rfl rfl ⟨rfl, rfl⟩ (by show 2 ≤ 22; decide) (Nat.zero_le _) ?_
  refine And.intro (fun h => by cases h) (fun _ => ?_)
  refine ⟨rfl, Nat.zero_le 1, ((c_api_Fault_Good_0 s.fa s.fw).pure rfl rfl rfl rfl (r := 1) (sto := stRd bs s) (Nat.le_refl 1)).mono ?_⟩
  rintro d l ⟨hd, rfl⟩
  by_cases hf : s.fw = 0
  · rw [decide_eq_true hf] at hd
    subst hd
    refine ⟨rfl, fun _ _ => rfl, rfl, ?_⟩
    refine ⟨rfl, Nat.le_refl 0, (c_wire_Reader_count bs hb s hp hf most).mono ?_⟩
    rintro d l ⟨rfl, rfl⟩
    refine ⟨rfl, fun k hk => absurd hk (Nat.not_lt_zero k), rfl, ?_⟩
    exact And.intro rfl rfl
  · rw [decide_eq_false hf] at hd
    subst hd
    refine ⟨rfl, fun _ _ => rfl, rfl, ?_⟩
    have : cntRd bs most s = (0, s) := by unfold cntRd; rw [if_neg hf]
    rw [this]
    exact And.intro rfl rfl
/-- Read. -/
theorem c_wire_Read_0 (bs : List Int) (hb : bs.length ≤ 140737488351232) : Tri Try.prog 41 0 [.list .imm (bs.map rowB)] [] (fun d l => d = .gptr 0 0 ∧ l = stRd bs ⟨0, 0, 0⟩) := by
  refine Tri.walk2 (L := LT) (c := {la := false, n := 7, ko := [2], gl := [6]}) [] [0, 2] hLT hmix Try.func41 rfl rfl ⟨rfl, rfl⟩ (by show 1 ≤ 7; decide) (Nat.zero_le _) ?_
  refine ⟨rfl, Nat.le_refl 0, (c_wire_again_0 bs (by omega) 0 (by omega) (by omega)).mono ?_⟩
  rintro d l ⟨rfl, rfl⟩
  refine ⟨rfl, fun _ _ => rfl, rfl, ?_⟩
  exact And.intro rfl rfl
noncomputable def endRd (bs : List Int) (s : Rd) : Int × Rd := if s.fw = 0 ∧ s.p < bs.length then (5, ⟨s.p, 5, s.p⟩) else (s.fw, s)
/-- End. -/
theorem c_wire_Reader_End (bs : List Int) (s : Rd) :
    Tri Try.prog 43 0 [.gptr 0 0] (stRd bs s) (fun d l => d = .int .i64 (endRd bs s).1 ∧ l = stRd bs (endRd bs s).2) := by
  refine Tri.walk2 (L := LT) (c := {la := false, n := 33, ko := [2]}) [(64, 1, [])] [0, 2, 4, 21] hLT hmix Try.func43 rfl rfl ⟨rfl, rfl⟩ (by show 1 ≤ 33; decide) (Nat.zero_le _) ?_
  refine And.intro (fun h => by cases h) (fun _ => ?_)
  refine ⟨⟨131071, [0, 1, 2, 4, 8, 16, 32, 96, 160, 288, 32, 1056, 2080, 4128, 8224, 16928, 32800], [1, 3, 7, 15, 31, 63, 127, 255, 511, 1023, 1087, 3135, 7231, 15423, 31807, 65535, 131071]⟩, by kernel_rfl, ?_⟩
  refine And.intro ?_ trivial
  refine ⟨rfl, Nat.zero_le 1, ((c_api_Fault_Good_0 s.fa s.fw).pure rfl rfl rfl rfl (r := 1) (sto := stRd bs s) (Nat.le_refl 1)).mono ?_⟩
  rintro d l ⟨hd, rfl⟩
  unfold endRd
  by_cases hf : s.fw = 0
  · rw [decide_eq_true hf] at hd
    subst hd
    refine ⟨rfl, fun _ _ => rfl, rfl, ?_⟩
    refine And.intro trivial ?_
    refine And.intro (fun _ => ?_) (fun h => by cases h)
    refine And.intro (fun h => ?_) (fun h => ?_)
    · have h : ((s.p : Nat) : Int) < ((bs.map rowB).length : Int) := of_decide_eq_true h
      rw [List.length_map] at h
      refine And.intro (fun _ => ?_) (fun h => by cases h)
      refine ⟨rfl, Nat.le_refl 0, (c_wire_Reader_fail s.fa s.fw s.p s.p 5 bs).mono ?_⟩
      rintro d l ⟨rfl, rfl⟩
      refine ⟨rfl, fun k hk => absurd hk (Nat.not_lt_zero k), rfl, ?_⟩
      rw [if_pos ⟨hf, by omega⟩]
      exact And.intro rfl rfl
    · have h : ¬ ((s.p : Nat) : Int) < ((bs.map rowB).length : Int) := of_decide_eq_false h
      rw [List.length_map] at h
      refine And.intro (fun h => by cases h) (fun _ => ?_)
      rw [if_neg (fun q => h (by omega))]
      exact And.intro rfl rfl
  · rw [decide_eq_false hf] at hd
    subst hd
    refine ⟨rfl, fun _ _ => rfl, rfl, ?_⟩
    refine And.intro trivial ?_
    rw [if_neg (fun q => hf q.1)]
    refine And.intro (fun h => by cases h) (fun _ => ?_)
    refine And.intro (fun h => by cases h) (fun _ => ?_)
    exact And.intro rfl rfl
/-- What uses a reader, wherever it stands. -/
theorem Tri.rdRW {f : Nat} {bs : List Int} {s s' : Rd} {args : List D} {d : D} (h : Tri Try.prog f 0 (.gptr 0 0 :: args) (stRd bs s) (fun d' l => d' = d ∧ l = stRd bs s')) (ha : args.all cellsOK = true) (hn : nrBL 0 args = true) (hd : partsOK d = true) (hdn : nrB 0 d = true)
    {r b : Nat} {sto : List Ob} (hr : r ≤ sto.length) (hb : sto[b]? = some (.box [.int .i64 s.fa, .int .i64 s.fw, .list .imm (bs.map rowB), .int .i64 (s.p : Int)])) (hbr : r ≤ b) :
    Tri Try.prog f r (.gptr b 0 :: args) sto (fun d' l => d' = d ∧ l = sto.set b (.box [.int .i64 s'.fa, .int .i64 s'.fw, .list .imm (bs.map rowB), .int .i64 (s'.p : Int)])) := by
  have hre : ∀ (t : Rd) (ρ : Nat → Nat), renO ρ (.box [.int .i64 t.fa, .int .i64 t.fw, .list .imm (bs.map rowB), .int .i64 (t.p : Int)]) = .box [.int .i64 t.fa, .int .i64 t.fw, .list .imm (bs.map rowB), .int .i64 (t.p : Int)] := fun t ρ => by
    show Ob.box [.int .i64 t.fa, .int .i64 t.fw, .list .imm (renLL ρ (bs.map rowB)), .int .i64 (t.p : Int)] = _
    rw [renLL_id ρ (nrBLL_B bs)]
  have := Tri.ren (r := r) (sto := sto) (fun _ => b) h (fun i j hi hj e => by
      have hi : i < 1 := hi
      have hj : j < 1 := hj
      omega) (fun i o hi => by
      match i, hi with
      | 0, hi => simp [stRd, stR] at hi; subst hi; rw [hre]; exact hb
      | i + 1, hi => simp [stRd, stR] at hi) (fun i hi => ⟨fun h => absurd h (Nat.not_lt_zero _), fun h => by have : b < r := h; omega⟩) hr (by show (true && args.all cellsOK) = true; rw [ha]; rfl) (fun x hx => by
      rcases List.mem_cons.1 hx with e | hx
      · rw [e]; exact .gptr _ _ (by show 0 < 1; omega)
      · exact (nrBL_nr hn x hx).up (Nat.zero_le _)) (fun o ho => by
      have : o = .box [.int .i64 s.fa, .int .i64 s.fw, .list .imm (bs.map rowB), .int .i64 (s.p : Int)] := by simpa [stRd, stR] using ho
      rw [this]
      refine (nrO_nr (k := 0) (o := .box _) ?_ : NRo 0 _) |> fun h d hd => (h d hd).up (Nat.zero_le _)
      show (nrBLL 0 (bs.map rowB) && true) = true
      rw [nrBLL_B]
      rfl) rfl (fun d l ⟨h1, h2⟩ => by subst h1; subst h2; exact ⟨hd, rfl⟩)
  rw [show renL (fun _ => b) (.gptr 0 0 :: args) = .gptr b 0 :: args by show D.gptr b 0 :: renL (fun _ => b) args = _; rw [renL_id _ hn]] at this
  refine this.mono fun d' l ⟨d1, l1, ⟨h1, h2⟩, h3, h4⟩ => ?_
  subst h1; subst h2
  refine ⟨by rw [h3, renD_id _ hdn], ?_⟩
  rw [h4]
  show (sto.set b (renO _ (.box [.int .i64 s'.fa, .int .i64 s'.fw, .list .imm (bs.map rowB), .int .i64 (s'.p : Int)]))) ++ [] = _
  rw [List.append_nil, hre]
theorem cntRd_pos {bs : List Int} {s : Rd} {n : Int} (h : s.p ≤ bs.length) : (cntRd bs n s).2.p ≤ bs.length := by
  unfold cntRd
  split
  · split
    · exact h
    · exact numRd_pos h
  · exact h
theorem numL_err : ∀ (l : List Int) (k : Nat) (u : Int) (p : Nat), (numL l k u p).1 ≠ 0 → (numL l k u p).2.1 = 0
  | [], k, u, p, _ => rfl
  | c :: r, k, u, p, h => by
    unfold numL at h ⊢
    split at h
    · rename_i hb
      rw [if_pos hb]
    · rename_i hb
      rw [if_neg hb]
      split at h
      · rename_i hc
        rw [if_pos hc]
        exact numL_err r _ _ _ h
      · rename_i hc
        rw [if_neg hc]
        split at h
        · rename_i h0
          rw [if_pos h0]
        · exact absurd rfl h
theorem cntRd_le {bs : List Int} {s : Rd} {n : Int} (hn : 0 ≤ n) : (cntRd bs n s).1 ≤ n := by
  unfold cntRd
  split
  · rename_i hf
    split
    · exact hn
    · rename_i h
      by_cases hz : (numRd bs s).2.fw = 0
      · have : ¬ (numRd bs s).1 > n := fun h' => h ⟨hz, .inr h'⟩
        omega
      · have : (numRd bs s).1 = 0 := by
          unfold numRd at hz ⊢
          rw [if_pos hf] at hz ⊢
          simp only at hz ⊢
          split at hz
          · exact absurd hf hz
          · rename_i he
            exact numL_err _ _ _ _ he
        rw [this]
        exact hn
  · exact hn
theorem wrap8 (z : Int) : IntKind.u8.wrap z = z % 256 := by simp [IntKind.wrap, IntKind.bits, IntKind.signed]
theorem ofInt8 (z : Int) : (BitVec.ofInt 8 (z % 256)).toNat = (z % 256).toNat := by
  rw [BitVec.toNat_ofInt]
  omega
theorem or128 : ∀ x : Nat, x < 256 → (x ||| 128) = x % 128 + 128 := by decide +kernel
theorem and127 : ∀ x : Nat, x < 256 → (x &&& 127) = x % 128 := by decide +kernel
theorem orB_eq (w : Int) : orB w = w % 128 + 128 := by
  show IntKind.u8.wrap ((BitVec.ofInt 8 (IntKind.u8.wrap w) ||| BitVec.ofInt 8 128).toNat : Int) = _
  rw [wrap8, wrap8, BitVec.toNat_or, ofInt8, show (BitVec.ofInt 8 128).toNat = 128 by decide, or128 _ (by omega)]
  omega
theorem grp_eq {c : Int} (h0 : 0 ≤ c) (h1 : c < 256) : grp c = c % 128 := by
  show IntKind.u64.wrap (IntKind.u8.wrap ((BitVec.ofInt 8 c &&& BitVec.ofInt 8 127).toNat : Int)) = _
  have : c = c % 256 := by omega
  rw [wrapU, wrap8, BitVec.toNat_and, show BitVec.ofInt 8 c = BitVec.ofInt 8 (c % 256) by rw [← this], ofInt8, show (BitVec.ofInt 8 127).toNat = 127 by decide, and127 _ (by omega)]
  omega
theorem ofInt64 {z : Int} (h0 : 0 ≤ z) (h1 : z < 18446744073709551616) : (BitVec.ofInt 64 z).toNat = z.toNat := by
  rw [BitVec.toNat_ofInt]
  omega
theorem orU_eq {u c : Int} {k : Nat} (hk : k ≤ 9) (hu0 : 0 ≤ u) (hu1 : u < 128 ^ k) (hc0 : 0 ≤ c) (hc1 : c < 256) (ht : u + (c % 128) * 128 ^ k < 18446744073709551616) : orU u c k = u + (c % 128) * 128 ^ k := by
  have hmin : min (7 * k) IntKind.u64.bits = 7 * k := Nat.min_eq_left (by show 7 * k ≤ 64; omega)
  have hpow : (2 : Int) ^ (7 * k) = 128 ^ k := by rw [Int.pow_mul]; rfl
  have hpos : (0 : Int) < 128 ^ k := Int.pow_pos (by omega)
  have hm : 0 ≤ (c % 128) * 128 ^ k := Int.mul_nonneg (by omega) (by omega)
  show IntKind.u64.wrap ((BitVec.ofInt 64 u ||| BitVec.ofInt 64 (IntKind.u64.wrap (grp c * 2 ^ min (7 * k) IntKind.u64.bits))).toNat : Int) = _
  rw [hmin, hpow, grp_eq hc0 hc1, wrapU, wrapU, Int.emod_eq_of_lt hm (by omega), BitVec.toNat_or, ofInt64 hu0 (by omega), ofInt64 hm (by omega)]
  have e1 : ((c % 128) * 128 ^ k).toNat = (c % 128).toNat <<< (7 * k) := by
    rw [Nat.shiftLeft_eq]
    have : ((c % 128) * 128 ^ k) = (((c % 128).toNat * 2 ^ (7 * k) : Nat) : Int) := by
      rw [Int.natCast_mul, Int.natCast_pow, ← hpow]
      have : (((c % 128).toNat : Nat) : Int) = c % 128 := by omega
      rw [this]
      rfl
    rw [this, Int.toNat_natCast]
  have hlt : u.toNat < 2 ^ (7 * k) := by
    have : (u.toNat : Int) < ((2 ^ (7 * k) : Nat) : Int) := by
      rw [Int.natCast_pow]
      have : ((2 : Nat) : Int) ^ (7 * k) = 128 ^ k := hpow
      rw [this]
      omega
    exact Int.ofNat_lt.1 this
  rw [e1, Nat.or_comm, ← Nat.shiftLeft_add_eq_or_of_lt hlt, ← e1]
  rw [Int.emod_eq_of_lt (by omega) (by omega)]
  omega
theorem numL_last {k p : Nat} {w acc : Int} {rest : List Int} (hk : k ≤ 9) (hw0 : 0 ≤ w) (hw1 : w < 128) (h9 : (k : Int) = 9 → w ≤ 1) (ha0 : 0 ≤ acc) (ha1 : acc < 128 ^ k) (ht : acc + w * 128 ^ k < 18446744073709551616) (hz : k > 0 → w ≥ 1) :
    numL (IntKind.u8.wrap w :: rest) k acc p = (0, zagU (acc + w * 128 ^ k), p + 1) := by
  have e : IntKind.u8.wrap w = w := by rw [wrap8]; omega
  rw [e]
  have em : w % 128 = w := by omega
  rw [numL_ok (fun h => by have := h9 h.1; omega) (by omega) (fun h => by have := hz (by omega); omega), orU_eq hk ha0 ha1 hw0 (by omega) (by rw [em]; exact ht), em]
theorem numL_put : ∀ (f k p : Nat) (w acc : Int) (rest : List Int), k + f = 9 → 0 ≤ w → w < 128 ^ (f + 1) → 0 ≤ acc → acc < 128 ^ k → acc + w * 128 ^ k < 18446744073709551616 → (k > 0 → w ≥ 1) →
    numL (putB f w ++ rest) k acc p = (0, zagU (acc + w * 128 ^ k), p + (putB f w).length)
  | 0, k, p, w, acc, rest, hkf, hw0, hw1, ha0, ha1, ht, hz => by
    have hk : k = 9 := by omega
    subst hk
    have hw1 : w < 128 := by simpa using hw1
    have h9 : (128 : Int) ^ 9 = 9223372036854775808 := by decide
    refine numL_last (by omega) hw0 hw1 (fun _ => ?_) ha0 ha1 ht hz
    rw [h9] at ht
    omega
  | f + 1, k, p, w, acc, rest, hkf, hw0, hw1, ha0, ha1, ht, hz => by
    by_cases hge : w ≥ 128
    · have hput : putB (f + 1) w = orB w :: putB f (sh7 w) := by
        conv => lhs; unfold putB
        rw [if_pos hge]
      have hb := orB_eq w
      have hs := sh7_lt hw0 hw1
      have hs7 : sh7 w = w / 128 := sh7_eq
      have hP : (0 : Int) < 128 ^ k := Int.pow_pos (by omega)
      have hP1 : (128 : Int) ^ (k + 1) = 128 * 128 ^ k := pow128 k
      have hsplit : w * 128 ^ k = (w / 128) * (128 * 128 ^ k) + (w % 128) * 128 ^ k := by
        have h := Int.mul_ediv_add_emod w 128
        conv => lhs; rw [← h]
        rw [Int.add_mul, Int.mul_comm 128 (w / 128), Int.mul_assoc]
      have hm0 : 0 ≤ (w % 128) * 128 ^ k := Int.mul_nonneg (by omega) (by omega)
      have hm1 : (w % 128) * 128 ^ k ≤ 127 * 128 ^ k := Int.mul_le_mul_of_nonneg_right (by omega) (by omega)
      have hd0 : 0 ≤ (w / 128) * (128 * 128 ^ k) := Int.mul_nonneg (by omega) (by omega)
      have hc : (w % 128 + 128) % 128 = w % 128 := by omega
      rw [hput, List.cons_append, numL_more (fun h => by
        have : k ≤ 8 := by omega
        omega) (by rw [hb]; omega), orU_eq (by omega) ha0 ha1 (by rw [hb]; omega) (by rw [hb]; omega) (by rw [hb, hc]; omega), hb, hc]
      rw [numL_put f (k + 1) (p + 1) (sh7 w) (acc + (w % 128) * 128 ^ k) rest (by omega) hs.1 hs.2 (by omega) (by rw [hP1]; omega) (by rw [hs7, hP1]; omega) (fun _ => by rw [hs7]; omega)]
      rw [hs7, hP1]
      have e : acc + (w % 128) * 128 ^ k + (w / 128) * (128 * 128 ^ k) = acc + w * 128 ^ k := by rw [hsplit]; omega
      rw [e]
      simp only [List.length_cons]
      congr 2
      omega
    · have hput : putB (f + 1) w = [IntKind.u8.wrap w] := putB_end hge
      rw [hput]
      exact numL_last (by omega) hw0 (by omega) (fun h => by omega) ha0 ha1 ht hz
theorem zag_form {w u : Int} (hw0 : 0 ≤ w) (hw1 : w < 18446744073709551616) (hu : w / 2 = u) : zagU w = IntKind.i64.wrap ((BitVec.ofInt 64 (IntKind.i64.wrap u) ^^^ BitVec.ofInt 64 (IntKind.i64.wrap (0 - IntKind.i64.wrap (IntKind.u64.wrap (w % 2))))).toNat : Int) := by
  have hf : w.fdiv (2 ^ min (Int.toNat 1) IntKind.u64.bits) = u := by
    rw [show (2 : Int) ^ min (Int.toNat 1) IntKind.u64.bits = 2 by decide, Int.fdiv_eq_ediv_of_nonneg _ (by omega), hu]
  have ha : (((BitVec.ofInt 64 w &&& BitVec.ofInt 64 1).toNat : Nat) : Int) = w % 2 := by
    rw [BitVec.toNat_and, ofInt64 hw0 hw1, show (BitVec.ofInt 64 1).toNat = 1 by decide, Nat.and_one_is_mod]
    omega
  show IntKind.i64.wrap ((BitVec.ofInt 64 (IntKind.i64.wrap (w.fdiv (2 ^ min (Int.toNat 1) IntKind.u64.bits))) ^^^ BitVec.ofInt 64 (IntKind.i64.wrap (0 - IntKind.i64.wrap (IntKind.u64.wrap ((BitVec.ofInt 64 w &&& BitVec.ofInt 64 1).toNat : Int))))).toNat : Int) = _
  rw [hf, ha]
theorem zag_nonneg {u : Int} (h0 : 0 ≤ u) (h1 : u < 9223372036854775808) : zagU (2 * u) = u := by
  have e : IntKind.i64.wrap (0 - IntKind.i64.wrap (IntKind.u64.wrap 0)) = 0 := by decide +kernel
  have eu : IntKind.i64.wrap u = u := wrap64 (by omega) (by omega)
  rw [zag_form (u := u) (by omega) (by omega) (by omega), show 2 * u % 2 = 0 by omega, e, eu, show BitVec.ofInt 64 0 = 0#64 by decide, BitVec.xor_zero, ofInt64 h0 (by omega), wrap64 (by omega) (by omega)]
  omega
theorem zag_neg {u : Int} (h0 : 0 ≤ u) (h1 : u < 9223372036854775808) : zagU (2 * u + 1) = -u - 1 := by
  have e : IntKind.i64.wrap (0 - IntKind.i64.wrap (IntKind.u64.wrap 1)) = -1 := by decide +kernel
  have eu : IntKind.i64.wrap u = u := wrap64 (by omega) (by omega)
  rw [zag_form (u := u) (by omega) (by omega) (by omega), show (2 * u + 1) % 2 = 1 by omega, e, eu, show BitVec.ofInt 64 (-1) = BitVec.allOnes 64 by decide, BitVec.xor_allOnes, BitVec.toNat_not, ofInt64 h0 (by omega), IntKind.wrap_i64]
  omega
theorem zu_eq {n : Int} : zu n = (2 * n) % 18446744073709551616 := by
  unfold zu
  rw [show (2 : Int) ^ min (Int.toNat 1) IntKind.u64.bits = 2 by decide, wrapU, wrapU]
  omega
theorem zn_eq {u : Int} (h0 : 0 ≤ u) (h1 : u < 18446744073709551616) : zn u = 18446744073709551615 - u := by
  show IntKind.u64.wrap ((BitVec.ofInt 64 18446744073709551615 ^^^ BitVec.ofInt 64 u).toNat : Int) = _
  rw [show BitVec.ofInt 64 18446744073709551615 = BitVec.allOnes 64 by decide, BitVec.allOnes_xor, BitVec.toNat_not, ofInt64 h0 h1, wrapU]
  omega
theorem zag_zig {n : Int} (h1 : -9223372036854775808 ≤ n) (h2 : n ≤ 9223372036854775807) : zagU (zigU n) = n := by
  unfold zigU
  split
  · rename_i h
    obtain ⟨r1, r2⟩ := zu_range n
    rw [zn_eq r1 r2, zu_eq]
    have : 18446744073709551615 - (2 * n) % 18446744073709551616 = 2 * (-n - 1) + 1 := by omega
    rw [this, zag_neg (by omega) (by omega)]
    omega
  · rename_i h
    rw [zu_eq]
    have : (2 * n) % 18446744073709551616 = 2 * n := by omega
    rw [this, zag_nonneg (by omega) (by omega)]
theorem numL_num {n : Int} (h1 : -9223372036854775808 ≤ n) (h2 : n ≤ 9223372036854775807) (p : Nat) (rest : List Int) : numL (numB n ++ rest) 0 0 p = (0, n, p + (numB n).length) := by
  obtain ⟨r1, r2⟩ := zigU_range n
  have h9 : (128 : Int) ^ (9 + 1) = 1180591620717411303424 := by decide
  have := numL_put 9 0 p (zigU n) 0 rest rfl r1 (by rw [h9]; omega) (by omega) (by decide) (by rw [Int.pow_zero]; omega) (fun h => by omega)
  unfold numB
  rw [this, Int.pow_zero, Int.mul_one, Int.zero_add, zag_zig h1 h2]
theorem drop_more {bs a t : List Int} {p : Nat} (h : bs.drop p = a ++ t) : bs.drop (p + a.length) = t := by
  rw [← List.drop_drop, h, List.drop_left]
theorem numRd_num {bs t : List Int} {fa n : Int} {p : Nat} (h : bs.drop p = numB n ++ t) (hn : in64' n) : numRd bs ⟨fa, 0, p⟩ = (n, ⟨fa, 0, p + (numB n).length⟩) := by
  unfold numRd
  simp only [h, numL_num hn.1 hn.2, if_true]
noncomputable def rdB (bs : List Int) (s : Rd) : Ob := .box [.int .i64 s.fa, .int .i64 s.fw, .list .imm (bs.map rowB), .int .i64 (s.p : Int)]
theorem c_wire_ReadR (bs : List Int) (hb : bs.length ≤ 140737488351232) {r : Nat} {sto : List Ob} (hr : r ≤ sto.length) : Tri Try.prog 41 r [.list .imm (bs.map rowB)] sto (fun d l => d = .gptr sto.length 0 ∧ l = sto ++ [rdB bs ⟨0, 0, 0⟩]) := by
  have := Tri.ren (r := r) (sto := sto) (fun k => k) (c_wire_Read_0 bs hb) (fun i j hi => by cases hi) (fun i o hi => by simp at hi) (fun i hi => by cases hi) hr rfl (fun x hx => by
    have : x = .list .imm (bs.map rowB) := by simpa using hx
    rw [this]
    exact nrB_nr (nrBLL_B bs)) (fun o ho => by cases ho) rfl (fun d l ⟨h1, h2⟩ => by subst h1; subst h2; exact ⟨rfl, rfl⟩)
  rw [show renL (fun k => k) [.list .imm (bs.map rowB)] = [.list .imm (bs.map rowB)] by show [D.list .imm (renLL _ (bs.map rowB))] = _; rw [renLL_id _ (nrBLL_B bs)]] at this
  refine this.mono fun d l ⟨d1, l1, ⟨h1, h2⟩, h3, h4⟩ => ?_
  subst h1; subst h2
  refine ⟨?_, ?_⟩
  · rw [h3]
    show D.gptr (extR _ 0 sto.length 0) 0 = _
    simp [extR]
  · rw [h4]
    show sto ++ [.box [.int .i64 0, .int .i64 0, .list .imm (renLL _ (bs.map rowB)), .int .i64 ((0 : Nat) : Int)]] = _
    rw [renLL_id _ (nrBLL_B bs)]
    rfl
theorem rdB_id (bs : List Int) (t : Rd) (ρ : Nat → Nat) : renO ρ (rdB bs t) = rdB bs t := by
  show Ob.box [.int .i64 t.fa, .int .i64 t.fw, .list .imm (renLL ρ (bs.map rowB)), .int .i64 (t.p : Int)] = _
  rw [renLL_id ρ (nrBLL_B bs)]
  rfl
theorem nrO_rdB (bs : List Int) (t : Rd) : nrO 0 (rdB bs t) = true := by
  show (nrBLL 0 (bs.map rowB) && true) = true
  rw [nrBLL_B]
  rfl
theorem numL_rng : ∀ (l : List Int) (k : Nat) (u : Int) (p : Nat), in64' (numL l k u p).2.1
  | [], k, u, p => by simp [numL, in64']
  | c :: r, k, u, p => by
    unfold numL
    split
    · simp [in64']
    · split
      · exact numL_rng r (k + 1) (orU u c k) (p + 1)
      · split
        · simp [in64']
        · show in64' (zagU _)
          unfold zagU
          rw [IntKind.wrap_i64]
          unfold in64'
          omega
theorem numRd_rng (bs : List Int) (s : Rd) : in64' (numRd bs s).1 := by
  unfold numRd
  split
  · exact numL_rng _ _ _ _
  · simp [in64']
end Go.Lv

namespace Go.Lv
open Go.Proofs

/-- The document's reader: its bytes, where it stands, its fault's place and number. -/
noncomputable def xrdO (bs : List Int) (s : Rd) : Ob := .box [.list .imm (bs.map rowB), .int .i64 (s.p : Int), .int .i64 s.fa, .int .i64 s.fw]
noncomputable def stX (bs : List Int) (s : Rd) : List Ob := [xrdO bs s]
noncomputable def xn (n : Int) : Int := IntKind.i64.wrap (BitVec.ofInt IntKind.i64.bits (if IntKind.i64.signed then -1 else IntKind.i64.max) ^^^ BitVec.ofInt IntKind.i64.bits n).toNat
noncomputable def hf (u : Int) : Int := IntKind.i64.wrap (u.fdiv (2 ^ min (Int.toNat 1) IntKind.u64.bits))
noncomputable def odd1 (u : Int) : Int := IntKind.u64.wrap (BitVec.ofInt IntKind.u64.bits u &&& BitVec.ofInt IntKind.u64.bits 1).toNat
theorem odd1_eq {u : Int} (h0 : 0 ≤ u) (h1 : u < 18446744073709551616) : odd1 u = u % 2 := by
  unfold odd1
  have e : ((BitVec.ofInt 64 u &&& BitVec.ofInt 64 1).toNat : Int) = u % 2 := by
    rw [BitVec.toNat_and, ofInt64 h0 h1, show (BitVec.ofInt 64 1).toNat = 1 by decide, Nat.and_one_is_mod]
    omega
  show IntKind.u64.wrap ((BitVec.ofInt 64 u &&& BitVec.ofInt 64 1).toNat : Int) = _
  rw [e, wrapU]
  omega
theorem hf_eq {u : Int} (h0 : 0 ≤ u) (h1 : u < 18446744073709551616) : hf u = u / 2 := by
  unfold hf
  rw [show (2 : Int) ^ min (Int.toNat 1) IntKind.u64.bits = 2 by decide, Int.fdiv_eq_ediv_of_nonneg _ (by omega), wrap64 (by omega) (by omega)]
theorem zag_odd {u : Int} (h0 : 0 ≤ u) (h1 : u < 18446744073709551616) (h : odd1 u = 1) : xn (hf u) = zagU u := by
  rw [odd1_eq h0 h1] at h
  have hu : u = 2 * (u / 2) + 1 := by omega
  have hz : zagU u = -(u / 2) - 1 := by
    conv => lhs; rw [hu]
    exact zag_neg (by omega) (by omega)
  rw [hz, hf_eq h0 h1]
  show IntKind.i64.wrap ((BitVec.ofInt 64 (-1) ^^^ BitVec.ofInt 64 (u / 2)).toNat : Int) = _
  rw [show BitVec.ofInt 64 (-1) = BitVec.allOnes 64 by decide, BitVec.allOnes_xor, BitVec.toNat_not, ofInt64 (by omega) (by omega), IntKind.wrap_i64]
  omega
theorem zag_even {u : Int} (h0 : 0 ≤ u) (h1 : u < 18446744073709551616) (h : ¬ odd1 u = 1) : hf u = zagU u := by
  rw [odd1_eq h0 h1] at h
  have hu : u = 2 * (u / 2) := by omega
  have hz : zagU u = u / 2 := by
    conv => lhs; rw [hu]
    exact zag_nonneg (by omega) (by omega)
  rw [hz, hf_eq h0 h1]
theorem orU_range (u c : Int) (k : Nat) : 0 ≤ orU u c k ∧ orU u c k < 18446744073709551616 := by
  unfold orU
  rw [wrapU]
  omega
noncomputable def sM (bs : List Int) (p k : Nat) (u : Int) : DS := ⟨[(0, .list .imm (bs.map rowB)), (1, .int .i64 (p : Int)), (7, .int .u64 u), (8, .int .i64 (k : Int)), (4, .int .i64 0), (5, .int .i64 0), (6, .int .i64 0)], [], [], mR 0⟩
noncomputable def tupN (x : Int × Int × Nat) : D := .tup [.int .i64 x.2.1, .int .i64 (x.2.2 : Int), .int .i64 x.1]
set_option maxHeartbeats 4000000 in
theorem c_drayref3_number_0 (bs : List Int) (hb : bs.length ≤ 140737488351232) (p : Nat) (hp : p ≤ bs.length) :
    Tri Try.prog 85 0 [.list .imm (bs.map rowB), .int .i64 (p : Int)] [] (fun d l => d = tupN (numL (bs.drop p) 0 0 p) ∧ l = []) := by
  refine Tri.walk2 (L := LT) (c := {la := false, n := 62, ko := [4, 5, 6], fs := [39]}) [] [0, 1, 4, 5, 6, 7, 8, 9, 10, 12, 20, 32, 42, 48, 54] hLT hmix Try.func85 rfl rfl ⟨rfl, rfl⟩ (by show 2 ≤ 62; decide) (Nat.le_refl _) ?_
  show Ok _ _ _ _ _
  refine Ok.loopN hLT hmix [] [0, 1, 4, 5, 6, 7, 8, 9, 10, 12, 20, 32, 42, 48, 54] [0, 1, 7, 8, 4, 5, 6] [] (fun n s => ∃ (k : Nat) (u : Int), n = 10 - k ∧ k ≤ 9 ∧ p + k ≤ bs.length ∧ numL (bs.drop (p + k)) k u (p + k) = numL (bs.drop p) 0 0 p ∧ s = sM bs p k u) (n := 10) ⟨0, 0, rfl, by omega, hp, rfl, rfl⟩ ?_
  rintro n s ⟨k, u, rfl, hk, hq, hnum, rfl⟩
  rw [← hnum]
  have hwq : IntKind.i64.wrap ((p : Int) + (k : Int)) = ((p + k : Nat) : Int) := by
    rw [wrap64 (by omega) (by omega)]
    omega
  refine And.intro (fun h0 => ?_) (fun h0 => absurd (of_decide_eq_false h0) (by simp only [Decidable.not_not]; show (k : Int) < 10; omega))
  refine And.intro (fun h1 => ?_) (fun h1 => ?_)
  · have h1 : IntKind.i64.wrap ((p : Int) + (k : Int)) ≥ ((bs.map rowB).length : Int) := of_decide_eq_true h1
    rw [List.length_map, hwq] at h1
    have hd : bs.drop (p + k) = [] := List.drop_eq_nil_of_le (by omega)
    rw [hd]
    exact And.intro rfl rfl
  · have h1 : ¬ IntKind.i64.wrap ((p : Int) + (k : Int)) ≥ ((bs.map rowB).length : Int) := of_decide_eq_false h1
    rw [List.length_map, hwq] at h1
    have hq1 : p + k < bs.length := by omega
    have hd : bs.drop (p + k) = bs[p + k] :: bs.drop (p + k + 1) := List.drop_eq_getElem_cons hq1
    have hrow := row_at (f := rowB) bs hq1
    rw [← hwq] at hrow
    have hwk : IntKind.i64.wrap ((k : Int) + 1) = ((k + 1 : Nat) : Int) := wrap_succ (n := 10) (by omega) (by omega)
    have hw1 : IntKind.i64.wrap (IntKind.i64.wrap ((p : Int) + (k : Int)) + 1) = ((p + k + 1 : Nat) : Int) := by
      rw [hwq]
      exact wrap_succ hq1 (by omega)
    rw [hd]
    generalize bs[p + k] = c at hrow
    refine ⟨bs.map rowB, rowB c, rfl, by rw [hwq]; omega, hrow, rfl, (by show 0 < 1; decide), ?_⟩
    have hB : IntKind.i64.wrap (7 * (k : Int)) = 7 * (k : Int) := wrap64 (by omega) (by omega)
    have hend : ¬ ((k : Int) = 9 ∧ c > 1) → ¬ c ≥ 128 → ¬ (c = 0 ∧ (k : Int) > 0) → ∀ v : Int, v = zagU (orU u c k) → D.tup [.int .i64 v, .int .i64 (IntKind.i64.wrap (IntKind.i64.wrap ((p : Int) + (k : Int)) + 1)), .int .i64 0] = tupN (numL (c :: bs.drop (p + k + 1)) k u (p + k)) := fun q1 q2 q3 v hv => by
      rw [numL_ok q1 q2 q3, hv, hw1]
      rfl
    obtain ⟨ho0, ho1⟩ := orU_range u c k
    refine And.intro (fun h2 => ?_) (fun h2 => ?_)
    · have h2 : (k : Int) = 9 := of_decide_eq_true h2
      refine And.intro (fun h3 => ?_) (fun h3 => ?_)
      · have h3 : c > 1 := of_decide_eq_true h3
        rw [numL_bad ⟨h2, h3⟩]
        exact And.intro rfl rfl
      · have h3 : ¬ c > 1 := of_decide_eq_false h3
        have hbad : ¬ ((k : Int) = 9 ∧ c > 1) := fun h => h3 h.2
        refine Exists.intro _ (And.intro (sh_ask (x := grp c) hB) ?_)
        refine And.intro (fun hc => ?_) (fun hc => ?_)
        · have hc : c ≥ 128 := of_decide_eq_true hc
          exact absurd hc (by omega)
        · have hc : ¬ c ≥ 128 := of_decide_eq_false hc
          refine And.intro (fun h0 => ?_) (fun h0 => ?_)
          · have h0 : c = 0 := of_decide_eq_true h0
            refine And.intro (fun h4 => ?_) (fun h4 => ?_)
            · have h4 : (k : Int) > 0 := of_decide_eq_true h4
              rw [numL_zero hbad hc h0 h4]
              exact And.intro rfl rfl
            · have h4 : ¬ (k : Int) > 0 := of_decide_eq_false h4
              exact absurd h4 (by omega)
          · have h0 : ¬ c = 0 := of_decide_eq_false h0
            refine And.intro (fun h5 => ?_) (fun h5 => ?_)
            · exact And.intro (hend hbad hc (fun h => h0 h.1) _ (zag_odd ho0 ho1 (of_decide_eq_true h5))) rfl
            · exact And.intro (hend hbad hc (fun h => h0 h.1) _ (zag_even ho0 ho1 (of_decide_eq_false h5))) rfl
    · have h2 : ¬ (k : Int) = 9 := of_decide_eq_false h2
      have hbad : ¬ ((k : Int) = 9 ∧ c > 1) := fun h => h2 h.1
      refine Exists.intro _ (And.intro (sh_ask (x := grp c) hB) ?_)
      refine And.intro (fun hc => ?_) (fun hc => ?_)
      · have hc : c ≥ 128 := of_decide_eq_true hc
        refine ⟨10 - (k + 1), by omega, k + 1, orU u c k, rfl, by omega, by omega, (numL_more hbad hc).symm, ?_⟩
        unfold sM
        rw [← hwk]
        rfl
      · have hc : ¬ c ≥ 128 := of_decide_eq_false hc
        refine And.intro (fun h0 => ?_) (fun h0 => ?_)
        · have h0 : c = 0 := of_decide_eq_true h0
          refine And.intro (fun h4 => ?_) (fun h4 => ?_)
          · have h4 : (k : Int) > 0 := of_decide_eq_true h4
            rw [numL_zero hbad hc h0 h4]
            exact And.intro rfl rfl
          · have h4 : ¬ (k : Int) > 0 := of_decide_eq_false h4
            refine And.intro (fun h5 => ?_) (fun h5 => ?_)
            · exact And.intro (hend hbad hc (fun h => h4 h.2) _ (zag_odd ho0 ho1 (of_decide_eq_true h5))) rfl
            · exact And.intro (hend hbad hc (fun h => h4 h.2) _ (zag_even ho0 ho1 (of_decide_eq_false h5))) rfl
        · have h0 : ¬ c = 0 := of_decide_eq_false h0
          refine And.intro (fun h5 => ?_) (fun h5 => ?_)
          · exact And.intro (hend hbad hc (fun h => h0 h.1) _ (zag_odd ho0 ho1 (of_decide_eq_true h5))) rfl
          · exact And.intro (hend hbad hc (fun h => h0 h.1) _ (zag_even ho0 ho1 (of_decide_eq_false h5))) rfl
theorem c_drayref3_number (bs : List Int) (hb : bs.length ≤ 140737488351232) (p : Nat) (hp : p ≤ bs.length) {r : Nat} {sto : List Ob} (hr : r ≤ sto.length) :
    Tri Try.prog 85 r [.list .imm (bs.map rowB), .int .i64 (p : Int)] sto (fun d l => d = tupN (numL (bs.drop p) 0 0 p) ∧ l = sto) :=
  (c_drayref3_number_0 bs hb p hp).pure rfl (nrBL_B rfl) rfl rfl hr
theorem c_drayref3_Reader_wrong (bs : List Int) (s : Rd) (e : Int) : Tri Try.prog 69 0 [.gptr 0 0, .int .i64 e] (stX bs s) (fun d l => d = .tup [] ∧ l = stX bs ⟨s.p, e, s.p⟩) := by
  refine Tri.walk2 (L := LT) (c := {la := false, n := 15}) [] [0, 1] hLT hmix Try.func69 rfl rfl ⟨rfl, rfl⟩ (by show 2 ≤ 15; decide) (Nat.zero_le _) ?_
  exact And.intro rfl rfl
/-- What a count is that goes on nowhere. -/
noncomputable def cntX (bs : List Int) (most : Int) (p : Nat) : Int × Int × Nat :=
  if (numL (bs.drop p) 0 0 p).1 = 0 ∧ ((numL (bs.drop p) 0 0 p).2.1 < 0 ∨ (numL (bs.drop p) 0 0 p).2.1 > most) then (2, 0, 0) else numL (bs.drop p) 0 0 p
set_option maxHeartbeats 2000000 in
theorem c_drayref3_Reader_count (bs : List Int) (hb : bs.length ≤ 140737488351232) (s : Rd) (hp : s.p ≤ bs.length) (most : Int) :
    Tri Try.prog 84 1 [.gptr 0 0, .int .i64 most] (stX bs s) (fun d l => d = tupN (cntX bs most s.p) ∧ l = stX bs s) := by
  refine Tri.walk2 (L := LT) (c := {la := false, n := 37, ko := [4, 5, 6]}) [] [0, 1, 4, 5, 6, 7, 8, 9, 33] hLT hmix Try.func84 rfl rfl ⟨rfl, rfl⟩ (by show 2 ≤ 37; decide) (Nat.le_refl _) ?_
  refine ⟨⟨65535, [0, 1, 2, 4, 0, 16, 32, 64, 136, 256, 512, 512, 512, 2047, 12287, 32767], [1, 3, 7, 15, 16, 48, 112, 240, 511, 1023, 2047, 3071, 5119, 10239, 28671, 65535]⟩, by kernel_rfl, ?_⟩
  refine And.intro ?_ trivial
  refine ⟨rfl, Nat.le_refl 1, (c_drayref3_number bs hb s.p hp (r := 1) (sto := stX bs s) (Nat.le_refl 1)).mono ?_⟩
  rintro d l ⟨rfl, rfl⟩
  refine ⟨rfl, fun _ _ => rfl, rfl, ?_⟩
  unfold cntX
  generalize numL (bs.drop s.p) 0 0 s.p = x
  obtain ⟨e, n, q⟩ := x
  refine And.intro trivial ?_
  refine And.intro ?_ trivial
  refine And.intro (And.intro ⟨rfl, rfl⟩ (And.intro ⟨rfl, rfl⟩ trivial)) ?_
  refine And.intro ?_ trivial
  refine And.intro (And.intro ⟨rfl, rfl⟩ trivial) ?_
  refine And.intro ?_ trivial
  refine And.intro trivial ?_
  refine And.intro (fun h1 => ?_) (fun h1 => ?_)
  · have h1 : e = 0 := of_decide_eq_true h1
    refine And.intro (fun h2 => ?_) (fun h2 => ?_)
    · rw [if_pos ⟨h1, .inl (of_decide_eq_true h2)⟩]
      exact And.intro rfl rfl
    · have h2 : ¬ n < 0 := of_decide_eq_false h2
      refine And.intro (fun h3 => ?_) (fun h3 => ?_)
      · rw [if_pos ⟨h1, .inr (of_decide_eq_true h3)⟩]
        exact And.intro rfl rfl
      · have h3 : ¬ n > most := of_decide_eq_false h3
        rw [if_neg (fun h => h.2.elim h2 h3)]
        exact And.intro rfl rfl
  · have h1 : ¬ e = 0 := of_decide_eq_false h1
    rw [if_neg (fun h => h1 h.1)]
    exact And.intro rfl rfl
set_option maxHeartbeats 2000000 in
theorem c_drayref3_Reader_Num (bs : List Int) (hb : bs.length ≤ 140737488351232) (s : Rd) (hp : s.p ≤ bs.length) :
    Tri Try.prog 67 0 [.gptr 0 0] (stX bs s) (fun d l => d = .int .i64 (numRd bs s).1 ∧ l = stX bs (numRd bs s).2) := by
  refine Tri.walk2 (L := LT) (c := {la := false, n := 34, ko := [2]}) [(69, 1, [])] [0, 2, 3, 4, 5, 10, 25] hLT hmix Try.func67 rfl rfl ⟨rfl, rfl⟩ (by show 1 ≤ 34; decide) (Nat.zero_le _) ?_
  unfold numRd
  refine And.intro (fun h0 => ?_) (fun h0 => ?_)
  · rw [if_neg (nd_true h0)]
    exact And.intro rfl rfl
  · have h0 : s.fw = 0 := nd_false h0
    rw [if_pos h0]
    refine ⟨⟨65535, [0, 1, 2, 4, 0, 16, 32, 64, 136, 256, 512, 512, 512, 2047, 12287, 32767], [1, 3, 7, 15, 16, 48, 112, 240, 511, 1023, 2047, 3071, 5119, 10239, 28671, 65535]⟩, by kernel_rfl, ?_⟩
    refine And.intro ?_ trivial
    refine ⟨rfl, Nat.zero_le 1, (c_drayref3_number bs hb s.p hp (r := 1) (sto := stX bs s) (Nat.le_refl 1)).mono ?_⟩
    rintro d l ⟨rfl, rfl⟩
    refine ⟨rfl, fun _ _ => rfl, rfl, ?_⟩
    have he := numL_err (bs.drop s.p) 0 0 s.p
    generalize numL (bs.drop s.p) 0 0 s.p = x at he
    obtain ⟨e, n, q⟩ := x
    refine And.intro trivial ?_
    refine And.intro ?_ trivial
    refine And.intro (And.intro ⟨rfl, rfl⟩ (And.intro ⟨rfl, rfl⟩ trivial)) ?_
    refine And.intro ?_ trivial
    refine And.intro (And.intro ⟨rfl, rfl⟩ trivial) ?_
    refine And.intro ?_ trivial
    refine And.intro trivial ?_
    refine And.intro (fun h1 => ?_) (fun h1 => ?_)
    rotate_left
    · have h1 : e = 0 := nd_false h1
      rw [if_pos h1]
      exact And.intro rfl rfl
    · have h1 : ¬ e = 0 := nd_true h1
      rw [if_neg h1]
      have : n = 0 := he h1
      refine ⟨rfl, Nat.le_refl 0, (c_drayref3_Reader_wrong bs s e).mono ?_⟩
      rintro d l ⟨rfl, rfl⟩
      refine ⟨rfl, fun k hk => absurd hk (Nat.not_lt_zero k), rfl, ?_⟩
      exact And.intro (by rw [this]) rfl
set_option maxHeartbeats 2000000 in
theorem c_drayref3_Reader_Count (bs : List Int) (hb : bs.length ≤ 140737488351232) (s : Rd) (hp : s.p ≤ bs.length) (most : Int) :
    Tri Try.prog 66 0 [.gptr 0 0, .int .i64 most] (stX bs s) (fun d l => d = .int .i64 (cntRd bs most s).1 ∧ l = stX bs (cntRd bs most s).2) := by
  refine Tri.walk2 (L := LT) (c := {la := false, n := 30, ko := [4]}) [(69, 1, [])] [0, 1, 4, 5, 6, 7, 12, 21] hLT hmix Try.func66 rfl rfl ⟨rfl, rfl⟩ (by show 2 ≤ 30; decide) (Nat.zero_le _) ?_
  unfold cntRd numRd
  refine And.intro (fun h0 => ?_) (fun h0 => ?_)
  · rw [if_neg (nd_true h0)]
    exact And.intro rfl rfl
  · have h0 : s.fw = 0 := nd_false h0
    simp only [if_pos h0]
    refine ⟨rfl, Nat.zero_le 1, (c_drayref3_Reader_count bs hb s hp most).mono ?_⟩
    rintro d l ⟨rfl, rfl⟩
    refine ⟨rfl, fun _ _ => rfl, rfl, ?_⟩
    unfold cntX
    have he := numL_err (bs.drop s.p) 0 0 s.p
    generalize numL (bs.drop s.p) 0 0 s.p = x at he
    obtain ⟨e, n, q⟩ := x
    by_cases h1 : e = 0
    · subst h1
      by_cases h2 : n < 0 ∨ n > most
      · simp only [h2, h0, if_true, and_self]
        refine And.intro (fun _ => ?_) (fun h => by cases h)
        refine ⟨rfl, Nat.le_refl 0, (c_drayref3_Reader_wrong bs s 2).mono ?_⟩
        rintro d l ⟨rfl, rfl⟩
        refine ⟨rfl, fun k hk => absurd hk (Nat.not_lt_zero k), rfl, ?_⟩
        exact And.intro rfl rfl
      · simp only [h2, h0, if_true, if_false, and_false]
        refine And.intro (fun h => by cases h) (fun _ => ?_)
        exact And.intro rfl (by rw [← h0]; rfl)
    · have : n = 0 := he h1
      simp only [h1, if_false, false_and]
      refine And.intro (fun _ => ?_) (fun h => absurd (nd_false h) h1)
      refine ⟨rfl, Nat.le_refl 0, (c_drayref3_Reader_wrong bs s e).mono ?_⟩
      rintro d l ⟨rfl, rfl⟩
      refine ⟨rfl, fun k hk => absurd hk (Nat.not_lt_zero k), rfl, ?_⟩
      exact And.intro (by rw [this]) rfl
/-- Read, the document's. -/
theorem c_drayref3_Read_0 (bs : List Int) (hb : bs.length ≤ 140737488351232) : Tri Try.prog 54 0 [.list .imm (bs.map rowB)] [] (fun d l => d = .gptr 0 0 ∧ l = stX bs ⟨0, 0, 0⟩) := by
  refine Tri.walk2 (L := LT) (c := {la := false, n := 8, ko := [2], gl := [7]}) [] [0, 2] hLT hmix Try.func54 rfl rfl ⟨rfl, rfl⟩ (by show 1 ≤ 8; decide) (Nat.zero_le _) ?_
  refine And.intro trivial (And.intro rfl (And.intro ?_ (And.intro (allLenB bs) ?_)))
  · show (0 + (bs.map rowB).length) * 1 ≤ 140737488355328
    simp only [List.length_map]
    omega
  exact And.intro rfl rfl
theorem xrdO_id (bs : List Int) (t : Rd) (ρ : Nat → Nat) : renO ρ (xrdO bs t) = xrdO bs t := by
  show Ob.box [.list .imm (renLL ρ (bs.map rowB)), .int .i64 (t.p : Int), .int .i64 t.fa, .int .i64 t.fw] = _
  rw [renLL_id ρ (nrBLL_B bs)]
  rfl
theorem c_drayref3_ReadR (bs : List Int) (hb : bs.length ≤ 140737488351232) {r : Nat} {sto : List Ob} (hr : r ≤ sto.length) : Tri Try.prog 54 r [.list .imm (bs.map rowB)] sto (fun d l => d = .gptr sto.length 0 ∧ l = sto ++ [xrdO bs ⟨0, 0, 0⟩]) := by
  have := Tri.ren (r := r) (sto := sto) (fun k => k) (c_drayref3_Read_0 bs hb) (fun i j hi => by cases hi) (fun i o hi => by simp at hi) (fun i hi => by cases hi) hr rfl (fun x hx => by
    have : x = .list .imm (bs.map rowB) := by simpa using hx
    rw [this]
    exact nrB_nr (nrBLL_B bs)) (fun o ho => by cases ho) rfl (fun d l ⟨h1, h2⟩ => by subst h1; subst h2; exact ⟨rfl, rfl⟩)
  rw [show renL (fun k => k) [.list .imm (bs.map rowB)] = [.list .imm (bs.map rowB)] by show [D.list .imm (renLL _ (bs.map rowB))] = _; rw [renLL_id _ (nrBLL_B bs)]] at this
  refine this.mono fun d l ⟨d1, l1, ⟨h1, h2⟩, h3, h4⟩ => ?_
  subst h1; subst h2
  refine ⟨?_, ?_⟩
  · rw [h3]
    show D.gptr (extR _ 0 sto.length 0) 0 = _
    simp [extR]
  · rw [h4]
    show sto ++ [renO _ (xrdO bs ⟨0, 0, 0⟩)] = _
    rw [xrdO_id]
theorem nrO_xrd (bs : List Int) (t : Rd) : nrO 0 (xrdO bs t) = true := by
  show (nrBLL 0 (bs.map rowB) && true) = true
  rw [nrBLL_B]
  rfl
end Go.Lv

namespace Go.Lv
open Go.Proofs

/-- A flag that is read. -/
noncomputable def flgRd (bs : List Int) (s : Rd) : Bool × Rd :=
  if s.fw = 0 then match bs[s.p]? with
    | none => (false, ⟨s.p, 3, s.p⟩)
    | some c => if c > 1 then (false, ⟨s.p, 4, s.p⟩) else (decide (c = 1), ⟨s.fa, s.fw, s.p + 1⟩)
  else (false, s)
theorem flgRd_pos {bs : List Int} {s : Rd} (h : s.p ≤ bs.length) : (flgRd bs s).2.p ≤ bs.length := by
  unfold flgRd
  split
  · split
    · exact h
    · rename_i c hc
      have := (List.getElem?_eq_some_iff.1 hc).1
      split
      · exact h
      · show s.p + 1 ≤ bs.length
        omega
  · exact h
theorem flgRd_bad {bs : List Int} {s : Rd} (h : ¬ s.fw = 0) : flgRd bs s = (false, s) := by unfold flgRd; rw [if_neg h]
theorem flgRd_end {bs : List Int} {s : Rd} (h : s.fw = 0) (hp : bs.length ≤ s.p) : flgRd bs s = (false, ⟨s.p, 3, s.p⟩) := by
  unfold flgRd
  rw [if_pos h, List.getElem?_eq_none hp]
theorem flgRd_at {bs : List Int} {s : Rd} (h : s.fw = 0) (hp : s.p < bs.length) : flgRd bs s = if bs[s.p] > 1 then (false, ⟨s.p, 4, s.p⟩) else (decide (bs[s.p] = 1), ⟨s.fa, s.fw, s.p + 1⟩) := by
  unfold flgRd
  rw [if_pos h, List.getElem?_eq_getElem hp]
set_option maxHeartbeats 4000000 in
theorem c_wire_Reader_Flag (bs : List Int) (hb : bs.length ≤ 140737488351232) (s : Rd) (hp : s.p ≤ bs.length) :
    Tri Try.prog 63 0 [.gptr 0 0] (stRd bs s) (fun d l => d = .bool (flgRd bs s).1 ∧ l = stRd bs (flgRd bs s).2) := by
  refine Tri.walk2 (L := LT) (c := {n := 57, ko := [2]}) [(64,1,[])] [0, 2, 3, 13, 23, 41] hLT hmix Try.func63 rfl rfl ⟨rfl, rfl⟩ (by show 1 ≤ 57; decide) (by first | exact Nat.zero_le _ | exact Nat.le_refl _ | decide) ?_
  repeat (first | refine And.intro (fun _ => ?_) (fun h => Bool.noConfusion h) | refine And.intro (fun h => Bool.noConfusion h) (fun _ => ?_))
  refine ⟨rfl, Nat.zero_le 1, ((c_api_Fault_Good_0 s.fa s.fw).pure rfl rfl rfl rfl (r := 1) (sto := stRd bs s) (Nat.le_refl 1)).mono ?_⟩
  rintro d l ⟨hd, rfl⟩
  by_cases hf : s.fw = 0
  rotate_left
  · rw [decide_eq_false hf] at hd
    subst hd
    refine ⟨rfl, fun _ _ => rfl, rfl, ?_⟩
    rw [flgRd_bad hf]
    exact And.intro rfl rfl
  rw [decide_eq_true hf] at hd
  subst hd
  refine ⟨rfl, fun _ _ => rfl, rfl, ?_⟩
  repeat (first | refine And.intro (fun _ => ?_) (fun h => Bool.noConfusion h) | refine And.intro (fun h => Bool.noConfusion h) (fun _ => ?_))
  refine ⟨⟨1023, [0, 1, 2, 4, 0, 16, 32, 64, 128, 264], [1, 3, 7, 15, 16, 48, 112, 240, 496, 1023]⟩, by kernel_rfl, ?_⟩
  refine And.intro (fun h1 => ?_) (fun h1 => ?_)
  · have h1 : ((s.p : Nat) : Int) ≥ ((bs.map rowB).length : Int) := of_decide_eq_true h1
    rw [List.length_map] at h1
    rw [flgRd_end hf (by omega)]
    refine ⟨rfl, Nat.le_refl 0, (c_wire_Reader_fail s.fa s.fw s.p s.p 3 bs).mono ?_⟩
    rintro d l ⟨rfl, rfl⟩
    refine ⟨rfl, fun k hk => absurd hk (Nat.not_lt_zero k), rfl, ?_⟩
    exact And.intro rfl rfl
  · have h1 : ¬ ((s.p : Nat) : Int) ≥ ((bs.map rowB).length : Int) := of_decide_eq_false h1
    rw [List.length_map] at h1
    have hp1 : s.p < bs.length := by omega
    have hw := wrap_succ hp1 (by omega)
    rw [flgRd_at hf hp1]
    refine ⟨⟨2047, [0, 1, 2, 4, 0, 16, 32, 64, 136, 256, 1023], [1, 3, 7, 15, 16, 48, 112, 240, 511, 1023, 2047]⟩, by kernel_rfl, ?_⟩
    refine ⟨(bs).map rowB, rowB ((bs)[s.p]'(by omega)), rfl, by omega, row_at' rowB (bs) (by omega) (by omega), rfl, of_decide_eq_true rfl, ?_⟩
    refine And.intro rfl ?_
    refine And.intro ?_ trivial
    refine And.intro (by repeat (first | exact trivial | refine And.intro ⟨rfl, rfl⟩ ?_ | refine And.intro ⟨_, _, rfl, by omega, row_at' _ _ rfl (by omega), rfl, of_decide_eq_true rfl, And.intro rfl (And.intro rfl rfl)⟩ ?_)) ?_
    generalize bs[s.p] = c
    refine And.intro (fun h2 => ?_) (fun h2 => ?_)
    · have h2 : c > 1 := of_decide_eq_true h2
      rw [if_pos h2]
      refine ⟨rfl, Nat.le_refl 0, (c_wire_Reader_fail s.fa s.fw s.p s.p 4 bs).mono ?_⟩
      rintro d l ⟨rfl, rfl⟩
      refine ⟨rfl, fun k hk => absurd hk (Nat.not_lt_zero k), rfl, ?_⟩
      exact And.intro rfl rfl
    · have h2 : ¬ c > 1 := of_decide_eq_false h2
      rw [if_neg h2]
      refine And.intro (fun h3 => ?_) (fun h3 => ?_)
      · refine And.intro (by rw [h3]) ?_
        rw [hw]
        rfl
      · refine And.intro (by rw [h3]) ?_
        rw [hw]
        rfl
set_option maxHeartbeats 4000000 in
theorem c_drayref3_Reader_Flag (bs : List Int) (hb : bs.length ≤ 140737488351232) (s : Rd) (hp : s.p ≤ bs.length) :
    Tri Try.prog 68 0 [.gptr 0 0] (stX bs s) (fun d l => d = .bool (flgRd bs s).1 ∧ l = stX bs (flgRd bs s).2) := by
  refine Tri.walk2 (L := LT) (c := {n := 44, ko := [2]}) [(69,1,[])] [0, 2, 3, 8, 18, 32] hLT hmix Try.func68 rfl rfl ⟨rfl, rfl⟩ (by show 1 ≤ 44; decide) (by first | exact Nat.zero_le _ | exact Nat.le_refl _ | decide) ?_
  refine And.intro (fun h0 => ?_) (fun h0 => ?_)
  · rw [flgRd_bad (nd_true h0)]
    exact And.intro rfl rfl
  have hf : s.fw = 0 := nd_false h0
  refine ⟨⟨1023, [0, 1, 2, 4, 0, 16, 32, 64, 128, 264], [1, 3, 7, 15, 16, 48, 112, 240, 496, 1023]⟩, by kernel_rfl, ?_⟩
  refine And.intro (fun h1 => ?_) (fun h1 => ?_)
  · have h1 : ((s.p : Nat) : Int) ≥ ((bs.map rowB).length : Int) := of_decide_eq_true h1
    rw [List.length_map] at h1
    rw [flgRd_end hf (by omega)]
    refine ⟨rfl, Nat.le_refl 0, (c_drayref3_Reader_wrong bs s 3).mono ?_⟩
    rintro d l ⟨rfl, rfl⟩
    refine ⟨rfl, fun k hk => absurd hk (Nat.not_lt_zero k), rfl, ?_⟩
    exact And.intro rfl rfl
  · have h1 : ¬ ((s.p : Nat) : Int) ≥ ((bs.map rowB).length : Int) := of_decide_eq_false h1
    rw [List.length_map] at h1
    have hp1 : s.p < bs.length := by omega
    have hw := wrap_succ hp1 (by omega)
    rw [flgRd_at hf hp1]
    refine ⟨⟨2047, [0, 1, 2, 4, 0, 16, 32, 64, 136, 256, 1023], [1, 3, 7, 15, 16, 48, 112, 240, 511, 1023, 2047]⟩, by kernel_rfl, ?_⟩
    refine ⟨(bs).map rowB, rowB ((bs)[s.p]'(by omega)), rfl, by omega, row_at' rowB (bs) (by omega) (by omega), rfl, of_decide_eq_true rfl, ?_⟩
    refine And.intro rfl ?_
    refine And.intro ?_ trivial
    refine And.intro (by repeat (first | exact trivial | refine And.intro ⟨rfl, rfl⟩ ?_ | refine And.intro ⟨_, _, rfl, by omega, row_at' _ _ rfl (by omega), rfl, of_decide_eq_true rfl, And.intro rfl (And.intro rfl rfl)⟩ ?_)) ?_
    generalize bs[s.p] = c
    refine And.intro (fun h2 => ?_) (fun h2 => ?_)
    · have h2 : c > 1 := of_decide_eq_true h2
      rw [if_pos h2]
      refine ⟨rfl, Nat.le_refl 0, (c_drayref3_Reader_wrong bs s 4).mono ?_⟩
      rintro d l ⟨rfl, rfl⟩
      refine ⟨rfl, fun k hk => absurd hk (Nat.not_lt_zero k), rfl, ?_⟩
      exact And.intro rfl rfl
    · have h2 : ¬ c > 1 := of_decide_eq_false h2
      rw [if_neg h2]
      refine And.intro (fun h3 => ?_) (fun h3 => ?_)
      · refine And.intro (by rw [h3]) ?_
        rw [hw]
        rfl
      · refine And.intro (by rw [h3]) ?_
        rw [hw]
        rfl
set_option maxHeartbeats 4000000 in
theorem c_drayref3_Reader_End (bs : List Int) (s : Rd) :
    Tri Try.prog 56 0 [.gptr 0 0] (stX bs s) (fun d l => d = .int .i64 (endRd bs s).1 ∧ l = stX bs (endRd bs s).2) := by
  refine Tri.walk2 (L := LT) (c := {n := 26, ko := [2]}) [(69,1,[])] [0, 2, 19] hLT hmix Try.func56 rfl rfl ⟨rfl, rfl⟩ (by show 1 ≤ 26; decide) (by first | exact Nat.zero_le _ | exact Nat.le_refl _ | decide) ?_
  refine ⟨⟨131071, [0, 1, 2, 4, 8, 16, 32, 96, 160, 288, 32, 1056, 2080, 4128, 8224, 16928, 32800], [1, 3, 7, 15, 31, 63, 127, 255, 511, 1023, 1087, 3135, 7231, 15423, 31807, 65535, 131071]⟩, by kernel_rfl, ?_⟩
  unfold endRd
  refine And.intro (fun h0 => ?_) (fun h0 => ?_)
  · have h0 : s.fw = 0 := of_decide_eq_true h0
    repeat (first | refine And.intro (fun _ => ?_) (fun h => Bool.noConfusion h) | refine And.intro (fun h => Bool.noConfusion h) (fun _ => ?_))
    refine And.intro (fun h1 => ?_) (fun h1 => ?_)
    · have h1 : ((s.p : Nat) : Int) < ((bs.map rowB).length : Int) := of_decide_eq_true h1
      rw [List.length_map] at h1
      repeat (first | refine And.intro (fun _ => ?_) (fun h => Bool.noConfusion h) | refine And.intro (fun h => Bool.noConfusion h) (fun _ => ?_))
      rw [if_pos ⟨h0, by omega⟩]
      refine ⟨rfl, Nat.le_refl 0, (c_drayref3_Reader_wrong bs s 5).mono ?_⟩
      rintro d l ⟨rfl, rfl⟩
      refine ⟨rfl, fun k hk => absurd hk (Nat.not_lt_zero k), rfl, ?_⟩
      exact And.intro rfl rfl
    · have h1 : ¬ ((s.p : Nat) : Int) < ((bs.map rowB).length : Int) := of_decide_eq_false h1
      rw [List.length_map] at h1
      repeat (first | refine And.intro (fun _ => ?_) (fun h => Bool.noConfusion h) | refine And.intro (fun h => Bool.noConfusion h) (fun _ => ?_))
      rw [if_neg (fun h => h1 (by omega))]
      exact And.intro rfl rfl
  · have h0 : ¬ s.fw = 0 := of_decide_eq_false h0
    repeat (first | refine And.intro (fun _ => ?_) (fun h => Bool.noConfusion h) | refine And.intro (fun h => Bool.noConfusion h) (fun _ => ?_))
    rw [if_neg (fun h => h0 h.1)]
    exact And.intro rfl rfl
end Go.Lv

namespace Go.Lv
open Go.Proofs

structure Stp where
  ord : Int
  drop : Bool
  deriving DecidableEq
structure Rte where
  drv : Int
  srv : Int
  st : List Stp
  deriving DecidableEq
abbrev Pln := List Rte
noncomputable def rowS (s : Stp) : List D := [.int .i64 s.ord, .bool s.drop]
noncomputable def rowR (r : Rte) : List D := [.int .i64 r.drv, .int .i64 r.srv, .list .imm (r.st.map rowS)]
noncomputable def encP (p : Pln) : D := .list .imm (p.map rowR)
theorem nrBLL_S : ∀ l : List Stp, nrBLL 0 (l.map rowS) = true
  | [] => rfl
  | b :: r => by
    show (nrBL 0 (rowS b) && nrBLL 0 (r.map rowS)) = true
    rw [nrBLL_S r]
    rfl
theorem nrBLL_P : ∀ l : Pln, nrBLL 0 (l.map rowR) = true
  | [] => rfl
  | b :: r => by
    show ((true && (true && (nrBLL 0 (b.st.map rowS) && true))) && nrBLL 0 (r.map rowR)) = true
    rw [nrBLL_P r, nrBLL_S]
    rfl
theorem nrBL_S {l : List Stp} {ds : List D} (hd : nrBL 0 ds = true) : nrBL 0 (.list .imm (l.map rowS) :: ds) = true := by
  show (nrBLL 0 (l.map rowS) && nrBL 0 ds) = true
  rw [nrBLL_S, hd]
  rfl
theorem nrBL_P {l : Pln} {ds : List D} (hd : nrBL 0 ds = true) : nrBL 0 (encP l :: ds) = true := by
  show (nrBLL 0 (l.map rowR) && nrBL 0 ds) = true
  rw [nrBLL_P, hd]
  rfl
/-- The number of the first such stop, or -1. -/
noncomputable def idxA (s : Stp) : Nat → List Stp → Int
  | _, [] => -1
  | i, x :: r => if x = s then (i : Int) else idxA s (i + 1) r
noncomputable def idxS (l : List Stp) (s : Stp) : Int := idxA s 0 l
theorem idxA_at {s : Stp} {l : List Stp} {i : Nat} (h : i < l.length) : idxA s i (l.drop i) = if l[i] = s then (i : Int) else idxA s (i + 1) (l.drop (i + 1)) := by
  rw [List.drop_eq_getElem_cons h]
  rfl
theorem stp_eq {a b : Stp} (h : (decide (a.ord = b.ord) && (a.drop == b.drop && true)) = true) : a = b := by
  obtain ⟨x, y⟩ := a
  obtain ⟨z, w⟩ := b
  simp only [Bool.and_true, Bool.and_eq_true, decide_eq_true_eq, beq_iff_eq] at h
  obtain ⟨rfl, rfl⟩ := h
  rfl
theorem stp_ne {a b : Stp} (h : (decide (a.ord = b.ord) && (a.drop == b.drop && true)) = false) : a ≠ b := by
  rintro rfl
  simp at h
noncomputable def sIx (l : List Stp) (v : Stp) (i : Nat) : DS := ⟨[(0, .list .imm (l.map rowS)), (3, .lptr 3 0 0), (7, .int .i64 (l.length : Int)), (8, .int .i64 (i : Int)), (4, .int .i64 0)], [(3, rowS v)], [], mR 0⟩
set_option maxHeartbeats 4000000 in
theorem c_slices_Index_Stop_0 (l : List Stp) (hl : l.length ≤ 1000000000000000) (v : Stp) : Tri Try.prog 35 0 [.list .imm (l.map rowS), .agg (rowS v)] [] (fun d k => d = .int .i64 (idxS l v) ∧ k = []) := by
  refine Tri.walk2 (L := LT) (c := {n := 19, ko := [4]}) [] [0, 1, 3, 4, 5, 7, 8, 9, 16] hLT hmix Try.func35 rfl rfl ⟨rfl, rfl⟩ (by show 2 ≤ 19; decide) (by first | exact Nat.zero_le _ | exact Nat.le_refl _ | decide) ?_
  show Ok _ _ _ _ _
  refine Ok.loopN hLT hmix [] [0, 1, 3, 4, 5, 7, 8, 9, 16] [0,3,7,8,4] [3] (fun n s => ∃ i : Nat, n = l.length - i ∧ i ≤ l.length ∧ idxA v i (l.drop i) = idxS l v ∧ s = sIx l v i) (n := l.length) ⟨0, rfl, Nat.zero_le _, rfl, by unfold sIx; rw [← List.length_map (f := rowS)]; rfl⟩ ?_
  rintro n s ⟨i, rfl, hi, hix, rfl⟩
  refine And.intro (fun h1 => ?_) (fun h1 => ?_)
  · have h1 : ((i : Nat) : Int) < (l.length : Int) := of_decide_eq_true h1
    have hw := wrap_succ (i := i) (n := l.length) (by omega) hl
    rw [idxA_at (by omega)] at hix
    refine ⟨⟨63, [0, 0, 0, 6, 8, 17], [1, 2, 4, 14, 30, 63]⟩, by kernel_rfl, ?_⟩
    refine ⟨(l).map rowS, rowS ((l)[i]'(by omega)), rfl, by omega, row_at' rowS (l) (by omega) (by omega), rfl, of_decide_eq_true rfl, ?_⟩
    refine And.intro rfl ?_
    refine And.intro (fun h2 => ?_) (fun h2 => ?_)
    · have h2 := stp_eq h2
      rw [if_pos h2.symm] at hix
      rw [← hix]
      exact And.intro rfl rfl
    · have h2 := stp_ne h2
      rw [if_neg (fun e => h2 e.symm)] at hix
      refine ⟨l.length - (i + 1), by omega, i + 1, rfl, by omega, hix, ?_⟩
      unfold sIx
      rw [← hw]
      rfl
  · have h1 : ¬ ((i : Nat) : Int) < (l.length : Int) := of_decide_eq_false h1
    rw [List.drop_eq_nil_of_le (by omega)] at hix
    rw [← hix]
    exact And.intro rfl rfl
theorem c_slices_Index_Stop (l : List Stp) (hl : l.length ≤ 1000000000000000) (v : Stp) {r : Nat} {sto : List Ob} (hr : r ≤ sto.length) : Tri Try.prog 35 r [.list .imm (l.map rowS), .agg (rowS v)] sto (fun d k => d = .int .i64 (idxS l v) ∧ k = sto) :=
  (c_slices_Index_Stop_0 l hl v).pure rfl (nrBL_S rfl) rfl rfl hr
noncomputable def sIw (l : List Stp) (v : Stp) (i : Nat) : DS := ⟨[(0, .list .imm (l.map rowS)), (3, .lptr 3 0 0), (5, .int .i64 (i : Int)), (4, .int .i64 0)], [(3, rowS v)], [], mR 0⟩
set_option maxHeartbeats 4000000 in
theorem c_drayref9_where_0 (l : List Stp) (hl : l.length ≤ 1000000000000000) (v : Stp) : Tri Try.prog 46 0 [.list .imm (l.map rowS), .agg (rowS v)] [] (fun d k => d = .int .i64 (idxS l v) ∧ k = []) := by
  refine Tri.walk2 (L := LT) (c := {n := 19, ko := [4]}) [] [0, 1, 3, 4, 5, 9, 17] hLT hmix Try.func46 rfl rfl ⟨rfl, rfl⟩ (by show 2 ≤ 19; decide) (by first | exact Nat.zero_le _ | exact Nat.le_refl _ | decide) ?_
  show Ok _ _ _ _ _
  refine Ok.loopN hLT hmix [] [0, 1, 3, 4, 5, 9, 17] [0,3,5,4] [3] (fun n s => ∃ i : Nat, n = l.length - i ∧ i ≤ l.length ∧ idxA v i (l.drop i) = idxS l v ∧ s = sIw l v i) (n := l.length) ⟨0, rfl, Nat.zero_le _, rfl, rfl⟩ ?_
  rintro n s ⟨i, rfl, hi, hix, rfl⟩
  refine And.intro (fun h1 => ?_) (fun h1 => ?_)
  · have h1 : ((i : Nat) : Int) < ((l.map rowS).length : Int) := of_decide_eq_true h1
    rw [List.length_map] at h1
    have hw := wrap_succ (i := i) (n := l.length) (by omega) hl
    rw [idxA_at (by omega)] at hix
    refine ⟨⟨63, [0, 0, 3, 4, 0, 24], [1, 2, 7, 15, 16, 63]⟩, by kernel_rfl, ?_⟩
    refine ⟨(l).map rowS, rowS ((l)[i]'(by omega)), rfl, by omega, row_at' rowS (l) (by omega) (by omega), rfl, of_decide_eq_true rfl, ?_⟩
    refine And.intro rfl ?_
    refine And.intro (fun h2 => ?_) (fun h2 => ?_)
    · have h2 := stp_eq h2
      rw [if_pos h2] at hix
      rw [← hix]
      exact And.intro rfl rfl
    · have h2 := stp_ne h2
      rw [if_neg h2] at hix
      refine ⟨l.length - (i + 1), by omega, i + 1, rfl, by omega, hix, ?_⟩
      unfold sIw
      rw [← hw]
      rfl
  · have h1 : ¬ ((i : Nat) : Int) < ((l.map rowS).length : Int) := of_decide_eq_false h1
    rw [List.length_map] at h1
    rw [List.drop_eq_nil_of_le (by omega)] at hix
    rw [← hix]
    exact And.intro rfl rfl
theorem c_drayref9_where (l : List Stp) (hl : l.length ≤ 1000000000000000) (v : Stp) {r : Nat} {sto : List Ob} (hr : r ≤ sto.length) : Tri Try.prog 46 r [.list .imm (l.map rowS), .agg (rowS v)] sto (fun d k => d = .int .i64 (idxS l v) ∧ k = sto) :=
  (c_drayref9_where_0 l hl v).pure rfl (nrBL_S rfl) rfl rfl hr

/-! ### Where an order stands -/
structure Spt where
  drv : Int
  pick : Int
  drop : Int
  cost : Int
  deriving DecidableEq
noncomputable def encSpt (s : Spt) : D := .agg [.int .i64 s.drv, .int .i64 s.pick, .int .i64 s.drop, .int .i64 s.cost]
noncomputable def findP (o : Int) : Pln → Option Spt
  | [] => none
  | r :: p => if idxS r.st ⟨o, false⟩ ≥ 0 ∨ idxS r.st ⟨o, true⟩ ≥ 0 then some ⟨r.drv, idxS r.st ⟨o, false⟩, idxS r.st ⟨o, true⟩, 0⟩ else findP o p
noncomputable def findD (o : Int) (p : Pln) : D := match findP o p with
  | some s => .tup [encSpt s, .bool true]
  | none => .tup [encSpt ⟨0, 0, 0, 0⟩, .bool false]
theorem findP_at {o : Int} {p : Pln} {i : Nat} (h : i < p.length) : findP o (p.drop i) = if idxS p[i].st ⟨o, false⟩ ≥ 0 ∨ idxS p[i].st ⟨o, true⟩ ≥ 0 then some ⟨p[i].drv, idxS p[i].st ⟨o, false⟩, idxS p[i].st ⟨o, true⟩, 0⟩ else findP o (p.drop (i + 1)) := by
  rw [List.drop_eq_getElem_cons h]
  rfl
/-- Lists that Go can hold. -/
structure szP (p : Pln) : Prop where
  len : p.length ≤ 1000000000000000
  st : ∀ r, r ∈ p → r.st.length ≤ 1000000000000000
noncomputable def sFi (p : Pln) (o : Int) (i : Nat) : DS := ⟨[(1, .int .i64 o), (9, encP p), (10, .int .i64 (p.length : Int)), (11, .int .i64 (i : Int)), (4, .lptr 4 0 0), (5, .bool false)], [(4, [.int .i64 0, .int .i64 0, .int .i64 0, .int .i64 0])], [], mR 0⟩
set_option maxHeartbeats 4000000 in
theorem c_plan_Find_0 (p : Pln) (hp : szP p) (o : Int) : Tri Try.prog 11 0 [encP p, .int .i64 o] [] (fun d k => d = findD o p ∧ k = []) := by
  refine Tri.walk2 (L := LT) (c := {n := 39, ko := [5], kb := [4]}) [] [0, 1, 4, 5, 7, 8, 9, 10, 11, 12, 35] hLT hmix Try.func11 rfl rfl ⟨rfl, rfl⟩ (by show 2 ≤ 39; decide) (by first | exact Nat.zero_le _ | exact Nat.le_refl _ | decide) ?_
  show Ok _ _ _ _ _
  refine Ok.loopN hLT hmix [] [0, 1, 4, 5, 7, 8, 9, 10, 11, 12, 35] [1,9,10,11,4,5] [4] (fun n s => ∃ i : Nat, n = p.length - i ∧ i ≤ p.length ∧ findP o (p.drop i) = findP o p ∧ s = sFi p o i) (n := p.length) ⟨0, rfl, Nat.zero_le _, rfl, by unfold sFi; rw [← List.length_map (f := rowR)]; rfl⟩ ?_
  rintro n s ⟨i, rfl, hi, hix, rfl⟩
  unfold findD
  refine And.intro (fun h1 => ?_) (fun h1 => ?_)
  · have h1 : ((i : Nat) : Int) < (p.length : Int) := of_decide_eq_true h1
    have hw := wrap_succ (i := i) (n := p.length) (by omega) hp.len
    have hst := hp.st p[i] (List.getElem_mem _)
    rw [findP_at (by omega)] at hix
    refine ⟨(p).map rowR, rowR ((p)[i]'(by omega)), rfl, by omega, row_at' rowR (p) (by omega) (by omega), rfl, of_decide_eq_true rfl, ?_⟩
    refine ⟨⟨16383, [0, 1, 0, 4, 0, 16, 40, 0, 128, 0, 512, 1344, 2114, 0, 16383], [1, 3, 4, 12, 16, 48, 124, 128, 384, 512, 1536, 4092, 8191, 8192, 32767]⟩, by kernel_rfl, ?_⟩
    refine And.intro ?_ (And.intro ?_ trivial)
    rotate_left
    refine And.intro (by repeat (first | exact trivial | refine And.intro ⟨rfl, rfl⟩ ?_)) ?_
    refine And.intro ?_ trivial
    refine ⟨rfl, (by first | exact Nat.zero_le _ | decide), (c_slices_Index_Stop p[i].st hst ⟨o, false⟩ (r := 0) (sto := []) (Nat.le_refl 0)).mono ?_⟩
    rintro d l ⟨rfl, rfl⟩
    refine ⟨rfl, fun _ _ => rfl, rfl, ?_⟩
    refine And.intro (by repeat (first | exact trivial | refine And.intro ⟨rfl, rfl⟩ ?_)) ?_
    refine And.intro ?_ trivial
    refine ⟨rfl, (by first | exact Nat.zero_le _ | decide), (c_slices_Index_Stop p[i].st hst ⟨o, true⟩ (r := 0) (sto := []) (Nat.le_refl 0)).mono ?_⟩
    rintro d l ⟨rfl, rfl⟩
    refine ⟨rfl, fun _ _ => rfl, rfl, ?_⟩
    refine And.intro (by repeat (first | exact trivial | refine And.intro ⟨rfl, rfl⟩ ?_)) ?_
    refine And.intro ?_ trivial
    refine And.intro (by repeat (first | exact trivial | refine And.intro ⟨rfl, rfl⟩ ?_)) ?_
    rotate_left
    refine ⟨rfl, (by first | exact Nat.zero_le _ | decide), (c_slices_Index_Stop p[i].st hst ⟨o, false⟩ (r := 0) (sto := []) (Nat.le_refl 0)).mono ?_⟩
    rintro d l ⟨rfl, rfl⟩
    refine ⟨rfl, fun _ _ => rfl, rfl, ?_⟩
    refine And.intro (by repeat (first | exact trivial | refine And.intro ⟨rfl, rfl⟩ ?_)) ?_
    refine And.intro ?_ (And.intro ?_ trivial)
    rotate_left
    refine And.intro (by repeat (first | exact trivial | refine And.intro ⟨rfl, rfl⟩ ?_)) ?_
    refine And.intro ?_ trivial
    refine ⟨rfl, (by first | exact Nat.zero_le _ | decide), (c_slices_Index_Stop p[i].st hst ⟨o, true⟩ (r := 0) (sto := []) (Nat.le_refl 0)).mono ?_⟩
    rintro d l ⟨rfl, rfl⟩
    refine ⟨rfl, fun _ _ => rfl, rfl, ?_⟩
    refine And.intro (by repeat (first | exact trivial | refine And.intro ⟨rfl, rfl⟩ ?_)) ?_
    refine And.intro ?_ trivial
    refine And.intro (by repeat (first | exact trivial | refine And.intro ⟨rfl, rfl⟩ ?_)) ?_
    rotate_left
    rotate_left
    refine ⟨rfl, (by first | exact Nat.zero_le _ | decide), (c_slices_Index_Stop p[i].st hst ⟨o, true⟩ (r := 0) (sto := []) (Nat.le_refl 0)).mono ?_⟩
    rintro d l ⟨rfl, rfl⟩
    refine ⟨rfl, fun _ _ => rfl, rfl, ?_⟩
    refine And.intro (by repeat (first | exact trivial | refine And.intro ⟨rfl, rfl⟩ ?_)) ?_
    refine And.intro ?_ trivial
    refine And.intro (by repeat (first | exact trivial | refine And.intro ⟨rfl, rfl⟩ ?_)) ?_
    refine And.intro ?_ trivial
    refine And.intro (by repeat (first | exact trivial | refine And.intro ⟨rfl, rfl⟩ ?_)) ?_
    all_goals
      refine And.intro (fun h2 => ?_) (fun h2 => ?_)
      · repeat (first | refine And.intro (fun _ => ?_) (fun h => Bool.noConfusion h) | refine And.intro (fun h => Bool.noConfusion h) (fun _ => ?_))
        have h2 : idxS p[i].st ⟨o, false⟩ ≥ 0 := of_decide_eq_true h2
        rw [if_pos (.inl h2)] at hix
        rw [← hix]
        exact And.intro rfl rfl
      · repeat (first | refine And.intro (fun _ => ?_) (fun h => Bool.noConfusion h) | refine And.intro (fun h => Bool.noConfusion h) (fun _ => ?_))
        have h2 : ¬ idxS p[i].st ⟨o, false⟩ ≥ 0 := of_decide_eq_false h2
        refine And.intro (fun h3 => ?_) (fun h3 => ?_)
        · repeat (first | refine And.intro (fun _ => ?_) (fun h => Bool.noConfusion h) | refine And.intro (fun h => Bool.noConfusion h) (fun _ => ?_))
          have h3 : idxS p[i].st ⟨o, true⟩ ≥ 0 := of_decide_eq_true h3
          rw [if_pos (.inr h3)] at hix
          rw [← hix]
          exact And.intro rfl rfl
        · repeat (first | refine And.intro (fun _ => ?_) (fun h => Bool.noConfusion h) | refine And.intro (fun h => Bool.noConfusion h) (fun _ => ?_))
          have h3 : ¬ idxS p[i].st ⟨o, true⟩ ≥ 0 := of_decide_eq_false h3
          rw [if_neg (fun h => h.elim h2 h3)] at hix
          refine ⟨p.length - (i + 1), by omega, i + 1, rfl, by omega, hix, ?_⟩
          unfold sFi
          rw [← hw]
          rfl
  · have h1 : ¬ ((i : Nat) : Int) < (p.length : Int) := of_decide_eq_false h1
    rw [List.drop_eq_nil_of_le (by omega)] at hix
    rw [← hix]
    exact And.intro rfl rfl
theorem findD_ok (o : Int) (p : Pln) : partsOK (findD o p) = true ∧ nrB 0 (findD o p) = true := by
  unfold findD
  split <;> exact ⟨rfl, rfl⟩
theorem c_plan_Find (p : Pln) (hp : szP p) (o : Int) {r : Nat} {sto : List Ob} (hr : r ≤ sto.length) : Tri Try.prog 11 r [encP p, .int .i64 o] sto (fun d k => d = findD o p ∧ k = sto) :=
  (c_plan_Find_0 p hp o).pure rfl (nrBL_P rfl) (findD_ok o p).1 (findD_ok o p).2 hr
noncomputable def sFw (p : Pln) (o : Int) (i : Nat) : DS := ⟨[(0, encP p), (1, .int .i64 o), (6, .int .i64 (i : Int)), (4, .lptr 4 0 0), (5, .bool false)], [(4, [.int .i64 0, .int .i64 0, .int .i64 0, .int .i64 0])], [], mR 0⟩
set_option maxHeartbeats 4000000 in
theorem c_drayref9_Find_0 (p : Pln) (hp : szP p) (o : Int) : Tri Try.prog 22 0 [encP p, .int .i64 o] [] (fun d k => d = findD o p ∧ k = []) := by
  refine Tri.walk2 (L := LT) (c := {n := 46, ko := [5], kb := [4]}) [] [0, 1, 4, 5, 6, 7, 8, 12, 36] hLT hmix Try.func22 rfl rfl ⟨rfl, rfl⟩ (by show 2 ≤ 46; decide) (by first | exact Nat.zero_le _ | exact Nat.le_refl _ | decide) ?_
  show Ok _ _ _ _ _
  refine Ok.loopN hLT hmix [] [0, 1, 4, 5, 6, 7, 8, 12, 36] [0,1,6,4,5] [4] (fun n s => ∃ i : Nat, n = p.length - i ∧ i ≤ p.length ∧ findP o (p.drop i) = findP o p ∧ s = sFw p o i) (n := p.length) ⟨0, rfl, Nat.zero_le _, rfl, rfl⟩ ?_
  rintro n s ⟨i, rfl, hi, hix, rfl⟩
  unfold findD
  refine And.intro (fun h1 => ?_) (fun h1 => ?_)
  · have h1 : ((i : Nat) : Int) < ((p.map rowR).length : Int) := of_decide_eq_true h1
    rw [List.length_map] at h1
    have hw := wrap_succ (i := i) (n := p.length) (by omega) hp.len
    have hst := hp.st p[i] (List.getElem_mem _)
    rw [findP_at (by omega)] at hix
    refine ⟨(p).map rowR, rowR ((p)[i]'(by omega)), rfl, by omega, row_at' rowR (p) (by omega) (by omega), rfl, of_decide_eq_true rfl, ?_⟩
    refine ⟨rfl, (by first | exact Nat.zero_le _ | decide), (c_drayref9_where p[i].st hst ⟨o, false⟩ (r := 0) (sto := []) (Nat.le_refl 0)).mono ?_⟩
    rintro d l ⟨rfl, rfl⟩
    refine ⟨rfl, fun _ _ => rfl, rfl, ?_⟩
    refine ⟨(p).map rowR, rowR ((p)[i]'(by omega)), rfl, by omega, row_at' rowR (p) (by omega) (by omega), rfl, of_decide_eq_true rfl, ?_⟩
    refine ⟨rfl, (by first | exact Nat.zero_le _ | decide), (c_drayref9_where p[i].st hst ⟨o, true⟩ (r := 0) (sto := []) (Nat.le_refl 0)).mono ?_⟩
    rintro d l ⟨rfl, rfl⟩
    refine ⟨rfl, fun _ _ => rfl, rfl, ?_⟩
    refine And.intro (fun h2 => ?_) (fun h2 => ?_)
    · repeat (first | refine And.intro (fun _ => ?_) (fun h => Bool.noConfusion h) | refine And.intro (fun h => Bool.noConfusion h) (fun _ => ?_))
      have h2 : idxS p[i].st ⟨o, false⟩ ≥ 0 := of_decide_eq_true h2
      rw [if_pos (.inl h2)] at hix
      rw [← hix]
      refine ⟨(p).map rowR, rowR ((p)[i]'(by omega)), rfl, by omega, row_at' rowR (p) (by omega) (by omega), rfl, of_decide_eq_true rfl, ?_⟩
      exact And.intro rfl rfl
    · repeat (first | refine And.intro (fun _ => ?_) (fun h => Bool.noConfusion h) | refine And.intro (fun h => Bool.noConfusion h) (fun _ => ?_))
      have h2 : ¬ idxS p[i].st ⟨o, false⟩ ≥ 0 := of_decide_eq_false h2
      refine And.intro (fun h3 => ?_) (fun h3 => ?_)
      · repeat (first | refine And.intro (fun _ => ?_) (fun h => Bool.noConfusion h) | refine And.intro (fun h => Bool.noConfusion h) (fun _ => ?_))
        have h3 : idxS p[i].st ⟨o, true⟩ ≥ 0 := of_decide_eq_true h3
        rw [if_pos (.inr h3)] at hix
        rw [← hix]
        refine ⟨(p).map rowR, rowR ((p)[i]'(by omega)), rfl, by omega, row_at' rowR (p) (by omega) (by omega), rfl, of_decide_eq_true rfl, ?_⟩
        exact And.intro rfl rfl
      · repeat (first | refine And.intro (fun _ => ?_) (fun h => Bool.noConfusion h) | refine And.intro (fun h => Bool.noConfusion h) (fun _ => ?_))
        have h3 : ¬ idxS p[i].st ⟨o, true⟩ ≥ 0 := of_decide_eq_false h3
        rw [if_neg (fun h => h.elim h2 h3)] at hix
        refine ⟨p.length - (i + 1), by omega, i + 1, rfl, by omega, hix, ?_⟩
        unfold sFw
        rw [← hw]
        rfl
  · have h1 : ¬ ((i : Nat) : Int) < ((p.map rowR).length : Int) := of_decide_eq_false h1
    rw [List.length_map] at h1
    rw [List.drop_eq_nil_of_le (by omega)] at hix
    rw [← hix]
    exact And.intro rfl rfl
theorem c_drayref9_Find (p : Pln) (hp : szP p) (o : Int) {r : Nat} {sto : List Ob} (hr : r ≤ sto.length) : Tri Try.prog 22 r [encP p, .int .i64 o] sto (fun d k => d = findD o p ∧ k = sto) :=
  (c_drayref9_Find_0 p hp o).pure rfl (nrBL_P rfl) (findD_ok o p).1 (findD_ok o p).2 hr
end Go.Lv

namespace Go.Lv
open Go.Proofs

noncomputable def stOK (seen : List Stp) : List Stp → Bool
  | [] => true
  | s :: l => decide (1 ≤ s.ord ∧ s.ord ≤ 1000000 ∧ s ∉ seen) && stOK (seen ++ [s]) l
noncomputable def hdOK (last : Int) (r : Rte) : Prop := last < r.drv ∧ r.drv ≤ 1000000 ∧ r.st.length ≤ 80 ∧ 0 ≤ r.srv ∧ r.srv ≤ r.st.length
noncomputable instance (last : Int) (r : Rte) : Decidable (hdOK last r) := by unfold hdOK; infer_instance
noncomputable def rightG (last : Int) (seen : List Stp) : Pln → Bool
  | [] => true
  | r :: p => decide (hdOK last r) && (stOK seen r.st && rightG r.drv (seen ++ r.st) p)
/-- Is a plan right? -/
noncomputable def rightP (p : Pln) : Bool := decide (p.length ≤ 8) && rightG 0 [] p
noncomputable def encM (seen : List Stp) : List (D × D) := seen.map fun s => (.agg (rowS s), .int .i64 1)
theorem findM (s : Stp) : ∀ seen : List Stp, findE LT 23 (.agg (rowS s)) (encM seen) = some (if s ∈ seen then some (.int .i64 1) else none)
  | [] => rfl
  | x :: r => by
    have ih := findM s r
    have e : eqD LT 23 (.agg (rowS s)) (.agg (rowS x)) = some (decide (s.ord = x.ord) && (s.drop == x.drop && true)) := rfl
    show (match eqD LT 23 (.agg (rowS s)) (.agg (rowS x)) with | some true => some (some (D.int .i64 1)) | some false => findE LT 23 (.agg (rowS s)) (encM r) | none => none) = _
    rw [e]
    cases hb : (decide (s.ord = x.ord) && (s.drop == x.drop && true)) with
    | true => rw [if_pos (by rw [stp_eq hb]; simp)]
    | false =>
      have hn := stp_ne hb
      simp only [ih, List.mem_cons, hn, false_or]
theorem findM_new {s : Stp} {v : D} : ∀ {seen : List Stp}, s ∉ seen → findE LT 23 (.agg (rowS s)) (encM seen ++ [(D.agg (rowS s), v)]) = some (some v)
  | [], _ => by
    have e : eqD LT 23 (.agg (rowS s)) (.agg (rowS s)) = some (decide (s.ord = s.ord) && (s.drop == s.drop && true)) := rfl
    show (match eqD LT 23 (.agg (rowS s)) (.agg (rowS s)) with | some true => some (some v) | some false => some none | none => none) = _
    rw [e]
    simp
  | x :: r, h => by
    have ih := findM_new (v := v) (seen := r) (fun q => h (List.mem_cons_of_mem _ q))
    have e : eqD LT 23 (.agg (rowS s)) (.agg (rowS x)) = some (decide (s.ord = x.ord) && (s.drop == x.drop && true)) := rfl
    show (match eqD LT 23 (.agg (rowS s)) (.agg (rowS x)) with | some true => some (some (D.int .i64 1)) | some false => findE LT 23 (.agg (rowS s)) (encM r ++ [(D.agg (rowS s), v)]) | none => none) = _
    rw [e]
    cases hb : (decide (s.ord = x.ord) && (s.drop == x.drop && true)) with
    | true => exact absurd (by rw [stp_eq hb]; simp) h
    | false => exact ih
theorem findM_no {s : Stp} {seen : List Stp} (h : s ∉ seen) : findE LT 23 (.agg (rowS s)) (encM seen) = some none := by rw [findM, if_neg h]
theorem encM_snoc (seen : List Stp) (s : Stp) : (encM seen ++ [(D.agg (rowS s), D.int .i64 0)]).set (encM seen).length (D.agg (rowS s), D.int .i64 1) = encM (seen ++ [s]) := by
  rw [List.set_append_right _ _ (Nat.le_refl _), Nat.sub_self]
  simp [encM]
theorem stOK_at {seen l : List Stp} {i : Nat} (h : i < l.length) : stOK (seen ++ l.take i) (l.drop i) = (decide (1 ≤ l[i].ord ∧ l[i].ord ≤ 1000000 ∧ l[i] ∉ seen ++ l.take i) && stOK (seen ++ l.take (i + 1)) (l.drop (i + 1))) := by
  rw [List.drop_eq_getElem_cons h]
  show (_ && stOK (seen ++ l.take i ++ [l[i]]) (l.drop (i + 1))) = _
  rw [List.append_assoc, List.take_succ_eq_append_getElem h]
theorem rightG_at {last : Int} {seen : List Stp} {p : Pln} {i : Nat} (h : i < p.length) : rightG last seen (p.drop i) = (decide (hdOK last p[i]) && (stOK seen p[i].st && rightG p[i].drv (seen ++ p[i].st) (p.drop (i + 1)))) := by
  rw [List.drop_eq_getElem_cons h]
  rfl
noncomputable def sRi (p : Pln) (last : Int) (seen : List Stp) (i : Nat) : DS := ⟨[(3, .int .i64 last), (4, .map 0), (13, encP p), (14, .int .i64 (p.length : Int)), (15, .int .i64 (i : Int)), (2, .bool false)], [], [.map (encM seen)], mR 0⟩
noncomputable def sRj (p : Pln) (last : Int) (seen : List Stp) (l : List Stp) (i j : Nat) : DS := ⟨[(3, .int .i64 last), (4, .map 0), (13, encP p), (14, .int .i64 (p.length : Int)), (15, .int .i64 (i : Int)), (50, .list .imm (l.map rowS)), (51, .int .i64 (l.length : Int)), (52, .int .i64 (j : Int)), (2, .bool false)], [], [.map (encM seen)], mR 0⟩
set_option maxHeartbeats 8000000 in
theorem c_plan_Right_1 (p : Pln) : Tri Try.prog 19 0 [encP p] [] (fun d k => d = .bool (rightP p) ∧ (k = [] ∨ ∃ es, k = [.map es])) := by
  refine Tri.walk2 (L := LT) (c := {n := 78, ko := [2]}) [] [0, 2, 3, 4, 6, 8, 11, 13, 14, 15, 16, 46, 50, 51, 52, 53, 69] hLT hmix Try.func19 rfl rfl ⟨rfl, rfl⟩ (by show 1 ≤ 78; decide) (by first | exact Nat.zero_le _ | exact Nat.le_refl _ | decide) ?_
  unfold rightP
  refine And.intro (fun h0 => ?_) (fun h0 => ?_)
  · have h0 : ((p.map rowR).length : Int) > 8 := of_decide_eq_true h0
    rw [List.length_map] at h0
    rw [decide_eq_false (show ¬ p.length ≤ 8 by omega)]
    exact And.intro rfl (.inl rfl)
  · have h0 : ¬ ((p.map rowR).length : Int) > 8 := of_decide_eq_false h0
    rw [List.length_map] at h0
    have hp8 : p.length ≤ 8 := by omega
    rw [decide_eq_true hp8, Bool.true_and]
    show Ok _ _ _ _ _
    refine Ok.loopN hLT hmix [] [0, 2, 3, 4, 6, 8, 11, 13, 14, 15, 16, 46, 50, 51, 52, 53, 69] [3,4,13,14,15,2] [] (fun n s => ∃ (i : Nat) (last : Int) (seen : List Stp), n = p.length - i ∧ i ≤ p.length ∧ rightG last seen (p.drop i) = rightG 0 [] p ∧ s = sRi p last seen i) (n := p.length) ⟨0, 0, [], rfl, Nat.zero_le _, rfl, by unfold sRi; rw [← List.length_map (f := rowR)]; rfl⟩ ?_
    rintro n s ⟨i, last, seen, rfl, hi, hix, rfl⟩
    refine And.intro (fun h1 => ?_) (fun h1 => ?_)
    · have h1 : ((i : Nat) : Int) < (p.length : Int) := of_decide_eq_true h1
      have hw := wrap_succ (i := i) (n := p.length) (by omega) (by omega)
      rw [rightG_at (by omega)] at hix
      refine ⟨(p).map rowR, rowR ((p)[i]'(by omega)), rfl, by omega, row_at' rowR (p) (by omega) (by omega), rfl, of_decide_eq_true rfl, ?_⟩
      generalize p[i] = r at hix ⊢
      have bad : ¬ hdOK last r → false = rightG 0 [] p := fun h => by rw [← hix, decide_eq_false h]; rfl
      refine And.intro (fun q1 => ?_) (fun q1 => ?_)
      · repeat (first | refine And.intro (fun _ => ?_) (fun h => Bool.noConfusion h) | refine And.intro (fun h => Bool.noConfusion h) (fun _ => ?_))
        exact And.intro (congrArg D.bool (bad (fun h => absurd (of_decide_eq_true q1) (by exact Int.not_le.2 h.1)))) (.inr ⟨_, rfl⟩)
      repeat (first | refine And.intro (fun _ => ?_) (fun h => Bool.noConfusion h) | refine And.intro (fun h => Bool.noConfusion h) (fun _ => ?_))
      have q1 := of_decide_eq_false q1
      refine And.intro (fun q2 => ?_) (fun q2 => ?_)
      · repeat (first | refine And.intro (fun _ => ?_) (fun h => Bool.noConfusion h) | refine And.intro (fun h => Bool.noConfusion h) (fun _ => ?_))
        exact And.intro (congrArg D.bool (bad (fun h => absurd (of_decide_eq_true q2) (by exact Int.not_lt.2 h.2.1)))) (.inr ⟨_, rfl⟩)
      repeat (first | refine And.intro (fun _ => ?_) (fun h => Bool.noConfusion h) | refine And.intro (fun h => Bool.noConfusion h) (fun _ => ?_))
      have q2 := of_decide_eq_false q2
      refine And.intro (fun q3 => ?_) (fun q3 => ?_)
      · repeat (first | refine And.intro (fun _ => ?_) (fun h => Bool.noConfusion h) | refine And.intro (fun h => Bool.noConfusion h) (fun _ => ?_))
        exact And.intro (congrArg D.bool (bad (fun h => absurd (of_decide_eq_true q3) (by rw [List.length_map]; have := h.2.2.1; omega)))) (.inr ⟨_, rfl⟩)
      repeat (first | refine And.intro (fun _ => ?_) (fun h => Bool.noConfusion h) | refine And.intro (fun h => Bool.noConfusion h) (fun _ => ?_))
      have q3 := of_decide_eq_false q3
      refine And.intro (fun q4 => ?_) (fun q4 => ?_)
      · repeat (first | refine And.intro (fun _ => ?_) (fun h => Bool.noConfusion h) | refine And.intro (fun h => Bool.noConfusion h) (fun _ => ?_))
        exact And.intro (congrArg D.bool (bad (fun h => absurd (of_decide_eq_true q4) (by exact Int.not_lt.2 h.2.2.2.1)))) (.inr ⟨_, rfl⟩)
      repeat (first | refine And.intro (fun _ => ?_) (fun h => Bool.noConfusion h) | refine And.intro (fun h => Bool.noConfusion h) (fun _ => ?_))
      have q4 := of_decide_eq_false q4
      refine And.intro (fun q5 => ?_) (fun q5 => ?_)
      · repeat (first | refine And.intro (fun _ => ?_) (fun h => Bool.noConfusion h) | refine And.intro (fun h => Bool.noConfusion h) (fun _ => ?_))
        exact And.intro (congrArg D.bool (bad (fun h => absurd (of_decide_eq_true q5) (by rw [List.length_map]; exact Int.not_lt.2 h.2.2.2.2)))) (.inr ⟨_, rfl⟩)
      repeat (first | refine And.intro (fun _ => ?_) (fun h => Bool.noConfusion h) | refine And.intro (fun h => Bool.noConfusion h) (fun _ => ?_))
      have q5 := of_decide_eq_false q5
      rw [List.length_map] at q3 q5
      have hok : hdOK last r := ⟨by omega, by omega, by omega, by omega, by omega⟩
      rw [decide_eq_true hok, Bool.true_and] at hix
      show Ok _ _ _ _ _
      refine Ok.loopN hLT hmix [] [0, 2, 3, 4, 6, 8, 11, 13, 14, 15, 16, 46, 50, 51, 52, 53, 69] [3,4,13,14,15,50,51,52,2] [] (fun n s => ∃ (j : Nat), n = r.st.length - j ∧ j ≤ r.st.length ∧ (stOK (seen ++ r.st.take j) (r.st.drop j) && rightG r.drv (seen ++ r.st) (p.drop (i + 1))) = rightG 0 [] p ∧ s = sRj p r.drv (seen ++ r.st.take j) r.st i j) (n := r.st.length) ⟨0, rfl, Nat.zero_le _, by rw [List.take_zero, List.append_nil]; exact hix, by rw [List.take_zero, List.append_nil]; unfold sRj; rw [← List.length_map (f := rowS)]; rfl⟩ ?_
      rintro n s ⟨j, rfl, hj, hjx, rfl⟩
      refine And.intro (fun g1 => ?_) (fun g1 => ?_)
      · have g1 : ((j : Nat) : Int) < (r.st.length : Int) := of_decide_eq_true g1
        have hwj := wrap_succ (i := j) (n := r.st.length) (by omega) (by omega)
        rw [stOK_at (by omega)] at hjx
        have htk : seen ++ r.st.take (j + 1) = seen ++ r.st.take j ++ [r.st[j]] := by
          rw [List.append_assoc, List.take_succ_eq_append_getElem (by omega)]
        rw [htk] at hjx
        refine ⟨(r.st).map rowS, rowS ((r.st)[j]'(by omega)), rfl, by omega, row_at' rowS (r.st) (by omega) (by omega), rfl, of_decide_eq_true rfl, ?_⟩
        generalize r.st[j] = x at hjx htk ⊢
        generalize seen ++ r.st.take j = sn at hjx htk ⊢
        have badx : ¬ (1 ≤ x.ord ∧ x.ord ≤ 1000000 ∧ x ∉ sn) → false = rightG 0 [] p := fun h => by rw [← hjx, decide_eq_false h]; rfl
        refine And.intro (fun w1 => ?_) (fun w1 => ?_)
        · repeat (first | refine And.intro (fun _ => ?_) (fun h => Bool.noConfusion h) | refine And.intro (fun h => Bool.noConfusion h) (fun _ => ?_))
          exact And.intro (congrArg D.bool (badx (fun h => absurd (of_decide_eq_true w1) (by have := h.1; omega)))) (.inr ⟨_, rfl⟩)
        repeat (first | refine And.intro (fun _ => ?_) (fun h => Bool.noConfusion h) | refine And.intro (fun h => Bool.noConfusion h) (fun _ => ?_))
        have w1 := of_decide_eq_false w1
        refine And.intro (fun w2 => ?_) (fun w2 => ?_)
        · repeat (first | refine And.intro (fun _ => ?_) (fun h => Bool.noConfusion h) | refine And.intro (fun h => Bool.noConfusion h) (fun _ => ?_))
          exact And.intro (congrArg D.bool (badx (fun h => absurd (of_decide_eq_true w2) (by have := h.2.1; omega)))) (.inr ⟨_, rfl⟩)
        repeat (first | refine And.intro (fun _ => ?_) (fun h => Bool.noConfusion h) | refine And.intro (fun h => Bool.noConfusion h) (fun _ => ?_))
        have w2 := of_decide_eq_false w2
        refine And.intro rfl ⟨_, findM x sn, ?_⟩
        by_cases hm : x ∈ sn
        · rw [if_pos hm]
          repeat (first | refine And.intro (fun _ => ?_) (fun h => Bool.noConfusion h) | refine And.intro (fun h => Bool.noConfusion h) (fun _ => ?_))
          exact And.intro (congrArg D.bool (badx (fun h => h.2.2 hm))) (.inr ⟨_, rfl⟩)
        · rw [if_neg hm]
          repeat (first | refine And.intro (fun _ => ?_) (fun h => Bool.noConfusion h) | refine And.intro (fun h => Bool.noConfusion h) (fun _ => ?_))
          have hxok : 1 ≤ x.ord ∧ x.ord ≤ 1000000 ∧ x ∉ sn := ⟨by omega, by omega, hm⟩
          rw [decide_eq_true hxok, Bool.true_and] at hjx
          refine ⟨⟨63, [0, 0, 3, 4, 3, 16, 63], [1, 2, 7, 15, 19, 51, 127]⟩, by kernel_rfl, ?_⟩
          refine And.intro rfl ⟨_, findM x sn, ?_⟩
          rw [if_neg hm]
          refine And.intro rfl ?_
          refine And.intro ?_ trivial
          refine mapEntry_new rfl rfl rfl rfl rfl rfl rfl (findM_no hm) rfl ?_
          refine And.intro (And.intro ⟨rfl, rfl⟩ (And.intro ⟨rfl, _, findM_new hm, And.intro rfl (And.intro rfl rfl)⟩ trivial)) ?_
          refine And.intro ?_ trivial
          refine entryStore_any rfl rfl rfl rfl rfl rfl List.getElem?_concat_length ?_
          refine And.intro trivial ?_
          refine ⟨r.st.length - (j + 1), by omega, j + 1, rfl, by omega, by rw [htk]; exact hjx, ?_⟩
          unfold sRj
          rw [htk, ← encM_snoc, ← hwj]
          rfl
      · have g1 : ¬ ((j : Nat) : Int) < (r.st.length : Int) := of_decide_eq_false g1
        rw [List.drop_eq_nil_of_le (by omega)] at hjx
        have hjx : rightG r.drv (seen ++ r.st) (p.drop (i + 1)) = rightG 0 [] p := hjx
        rw [List.take_of_length_le (by omega)]
        refine ⟨p.length - (i + 1), by omega, i + 1, r.drv, seen ++ r.st, rfl, by omega, hjx, ?_⟩
        unfold sRi
        rw [← hw]
        rfl
    · have h1 : ¬ ((i : Nat) : Int) < (p.length : Int) := of_decide_eq_false h1
      rw [List.drop_eq_nil_of_le (by omega)] at hix
      rw [← hix]
      exact And.intro rfl (.inr ⟨_, rfl⟩)
theorem c_plan_Right_0 (p : Pln) : Tri Try.prog 19 0 [encP p] [] (fun d k => d = .bool (rightP p) ∧ k = []) :=
  Tri.forget (c_plan_Right_1 p) (fun d l h _ => ⟨0, Nat.zero_le _, Nat.zero_le _, by rw [h.1]; exact .bool _, fun o ho => absurd ho (by simp), h.1, rfl⟩)
theorem c_plan_Right (p : Pln) {r : Nat} {sto : List Ob} (hr : r ≤ sto.length) : Tri Try.prog 19 r [encP p] sto (fun d k => d = .bool (rightP p) ∧ k = sto) :=
  (c_plan_Right_0 p).pure rfl (nrBL_P rfl) rfl rfl hr
noncomputable def sTi (p : Pln) (seen : List Stp) (sz i : Nat) : DS := ⟨[(0, encP p), (3, .list (.own sz) (seen.map rowS)), (4, .int .i64 (i : Int)), (2, .bool false)], [], [], mR 0⟩
noncomputable def sTk (p : Pln) (r : Rte) (seen : List Stp) (sz i k : Nat) : DS := ⟨[(0, encP p), (3, .list (.own sz) (seen.map rowS)), (4, .int .i64 (i : Int)), (5, .lptr 5 0 0), (6, .int .i64 (k : Int)), (2, .bool false)], [(5, rowR r)], [], mR 0⟩
noncomputable def sTj (p : Pln) (r : Rte) (s : Stp) (seen : List Stp) (sz i k j : Nat) : DS := ⟨[(0, encP p), (3, .list (.own sz) (seen.map rowS)), (4, .int .i64 (i : Int)), (5, .lptr 5 0 0), (6, .int .i64 (k : Int)), (7, .lptr 7 0 0), (8, .int .i64 (j : Int)), (2, .bool false)], [(5, rowR r), (7, rowS s)], [], mR 0⟩
noncomputable def lastP (p : Pln) (i : Nat) : Int := if h : 0 < i ∧ i - 1 < p.length then p[i - 1].drv else 0
theorem lastP_succ {p : Pln} {i : Nat} (h : i < p.length) : lastP p (i + 1) = p[i].drv := by
  unfold lastP
  rw [dif_pos ⟨by omega, by omega⟩]
  rfl
set_option maxHeartbeats 8000000 in
theorem c_drayref9_Right_0 (p : Pln) : Tri Try.prog 23 0 [encP p] [] (fun d k => d = .bool (rightP p) ∧ k = []) := by
  refine Tri.walk2 (L := LT) (c := {n := 100, ko := [2, 3], xf := [96]}) [] [0, 2, 3, 4, 5, 6, 7, 8, 11, 15, 63, 68, 83, 87, 95] hLT hmix Try.func23 rfl rfl ⟨rfl, rfl⟩ (by show 1 ≤ 100; decide) (by first | exact Nat.zero_le _ | exact Nat.le_refl _ | decide) ?_
  unfold rightP
  refine And.intro (fun h0 => ?_) (fun h0 => ?_)
  · have h0 : ((p.map rowR).length : Int) > 8 := of_decide_eq_true h0
    rw [List.length_map] at h0
    rw [decide_eq_false (show ¬ p.length ≤ 8 by omega)]
    exact And.intro rfl rfl
  have h0 : ¬ ((p.map rowR).length : Int) > 8 := of_decide_eq_false h0
  rw [List.length_map] at h0
  have hp8 : p.length ≤ 8 := by omega
  rw [decide_eq_true hp8, Bool.true_and]
  show Ok _ _ _ _ _
  refine Ok.loopN hLT hmix [] [0, 2, 3, 4, 5, 6, 7, 8, 11, 15, 63, 68, 83, 87, 95] [0,3,4,2] [] (fun n s => ∃ (i sz : Nat) (seen : List Stp), n = p.length - i ∧ i ≤ p.length ∧ (sz = 0 ∨ sz = 2) ∧ seen.length ≤ 80 * i ∧ 0 ≤ lastP p i ∧ rightG (lastP p i) seen (p.drop i) = rightG 0 [] p ∧ s = sTi p seen sz i) (n := p.length) ⟨0, 0, [], rfl, Nat.zero_le _, .inl rfl, Nat.zero_le _, Int.le_refl 0, rfl, rfl⟩ ?_
  rintro n s ⟨i, sz, seen, rfl, hi, hsz, hsl, hla, hix, rfl⟩
  refine And.intro (fun h1 => ?_) (fun h1 => ?_)
  · have h1 : ((i : Nat) : Int) < ((p.map rowR).length : Int) := of_decide_eq_true h1
    rw [List.length_map] at h1
    have hw := wrap_succ (i := i) (n := p.length) (by omega) (by omega)
    rw [rightG_at (by omega)] at hix
    have hls := lastP_succ (p := p) (i := i) (by omega)
    refine ⟨(p).map rowR, rowR ((p)[i]'(by omega)), rfl, by omega, row_at' rowR (p) (by omega) (by omega), rfl, of_decide_eq_true rfl, ?_⟩
    generalize p[i] = r at hix hls ⊢
    have bad : ¬ hdOK (lastP p i) r → false = rightG 0 [] p := fun h => by rw [← hix, decide_eq_false h]; rfl
    refine ⟨⟨4398046511103, [0, 1, 2, 4, 8, 24, 40, 72, 136, 256, 768, 1280, 2048, 2048, 10240, 22528, 34816, 67584, 2048, 264192, 657408, 1050880, 2097408, 4196352, 8388608, 25165824, 41943040, 75497472, 142606336, 276824064, 536870912, 1610612736, 2684354560, 4831838208, 9126805504, 17179869184, 51539607552, 17179869184, 154618822656, 292057776128, 635655159808, 1116691496960], [1, 3, 7, 15, 31, 63, 127, 255, 511, 1023, 2047, 4095, 8191, 12287, 28671, 65535, 131071, 262143, 266239, 790527, 2097151, 4194303, 8388607, 16777215, 33554431, 67108863, 134217727, 268435455, 536870911, 1073741823, 2147483647, 4294967295, 8589934591, 17179869183, 34359738367, 68719476735, 137438953471, 171798691839, 446676598783, 996432412671, 2199023255551, 4398046511103]⟩, by kernel_rfl, ?_⟩
    refine And.intro (fun q1 => ?_) (fun q1 => ?_)
    · repeat (first | refine And.intro (fun _ => ?_) (fun h => Bool.noConfusion h) | refine And.intro (fun h => Bool.noConfusion h) (fun _ => ?_))
      exact And.intro (congrArg D.bool (bad (fun h => absurd (of_decide_eq_true q1) (by have := h.1; omega)))) rfl
    repeat (first | refine And.intro (fun _ => ?_) (fun h => Bool.noConfusion h) | refine And.intro (fun h => Bool.noConfusion h) (fun _ => ?_))
    have q1 := of_decide_eq_false q1
    refine And.intro (fun q2 => ?_) (fun q2 => ?_)
    · repeat (first | refine And.intro (fun _ => ?_) (fun h => Bool.noConfusion h) | refine And.intro (fun h => Bool.noConfusion h) (fun _ => ?_))
      exact And.intro (congrArg D.bool (bad (fun h => absurd (of_decide_eq_true q2) (by have := h.2.1; omega)))) rfl
    repeat (first | refine And.intro (fun _ => ?_) (fun h => Bool.noConfusion h) | refine And.intro (fun h => Bool.noConfusion h) (fun _ => ?_))
    have q2 := of_decide_eq_false q2
    refine And.intro (fun q3 => ?_) (fun q3 => ?_)
    · have q3 : ((i : Nat) : Int) > 0 := of_decide_eq_true q3
      repeat (first | refine And.intro (fun _ => ?_) (fun h => Bool.noConfusion h) | refine And.intro (fun h => Bool.noConfusion h) (fun _ => ?_))
      have hwm : IntKind.i64.wrap ((i : Int) - 1) = ((i - 1 : Nat) : Int) := by
        rw [wrap64 (by omega) (by omega)]
        omega
      have hlp : lastP p i = (p[i - 1]'(by omega)).drv := by
        unfold lastP
        rw [dif_pos ⟨by omega, by omega⟩]
      refine ⟨(p).map rowR, rowR ((p)[(i-1)]'(by omega)), rfl, by omega, row_at' rowR (p) (by omega) (by omega), rfl, of_decide_eq_true rfl, ?_⟩
      refine And.intro rfl ?_
      refine And.intro (fun q4 => ?_) (fun q4 => ?_)
      · have q4 : (p[i - 1]'(by omega)).drv ≥ r.drv := of_decide_eq_true q4
        repeat (first | refine And.intro (fun _ => ?_) (fun h => Bool.noConfusion h) | refine And.intro (fun h => Bool.noConfusion h) (fun _ => ?_))
        exact And.intro (congrArg D.bool (bad (fun h => by have := h.1; omega))) rfl
      have q4 : ¬ (p[i - 1]'(by omega)).drv ≥ r.drv := of_decide_eq_false q4
      have hlt : lastP p i < r.drv := by omega
      clear hlp
      repeat (first | refine And.intro (fun _ => ?_) (fun h => Bool.noConfusion h) | refine And.intro (fun h => Bool.noConfusion h) (fun _ => ?_))
      refine And.intro (fun q5 => ?_) (fun q5 => ?_)
      · repeat (first | refine And.intro (fun _ => ?_) (fun h => Bool.noConfusion h) | refine And.intro (fun h => Bool.noConfusion h) (fun _ => ?_))
        exact And.intro (congrArg D.bool (bad (fun h => absurd (of_decide_eq_true q5) (by rw [List.length_map]; have := h.2.2.1; omega)))) rfl
      repeat (first | refine And.intro (fun _ => ?_) (fun h => Bool.noConfusion h) | refine And.intro (fun h => Bool.noConfusion h) (fun _ => ?_))
      have q5 := of_decide_eq_false q5
      refine And.intro (fun q6 => ?_) (fun q6 => ?_)
      · repeat (first | refine And.intro (fun _ => ?_) (fun h => Bool.noConfusion h) | refine And.intro (fun h => Bool.noConfusion h) (fun _ => ?_))
        exact And.intro (congrArg D.bool (bad (fun h => absurd (of_decide_eq_true q6) (by have := h.2.2.2.1; omega)))) rfl
      repeat (first | refine And.intro (fun _ => ?_) (fun h => Bool.noConfusion h) | refine And.intro (fun h => Bool.noConfusion h) (fun _ => ?_))
      have q6 := of_decide_eq_false q6
      refine And.intro (fun q7 => ?_) (fun q7 => ?_)
      · repeat (first | refine And.intro (fun _ => ?_) (fun h => Bool.noConfusion h) | refine And.intro (fun h => Bool.noConfusion h) (fun _ => ?_))
        exact And.intro (congrArg D.bool (bad (fun h => absurd (of_decide_eq_true q7) (by rw [List.length_map]; have := h.2.2.2.2; omega)))) rfl
      repeat (first | refine And.intro (fun _ => ?_) (fun h => Bool.noConfusion h) | refine And.intro (fun h => Bool.noConfusion h) (fun _ => ?_))
      have q7 := of_decide_eq_false q7
      rw [List.length_map] at q5 q7
      have hok : hdOK (lastP p i) r := ⟨hlt, by omega, by omega, by omega, by omega⟩
      rw [decide_eq_true hok, Bool.true_and] at hix
      show Ok _ _ _ _ _
      refine Ok.loopN hLT hmix [] [0, 2, 3, 4, 5, 6, 7, 8, 11, 15, 63, 68, 83, 87, 95] [0,3,4,5,6,2] [5] (fun n s => ∃ (k sz : Nat), n = r.st.length - k ∧ k ≤ r.st.length ∧ (sz = 0 ∨ sz = 2) ∧ (stOK (seen ++ r.st.take k) (r.st.drop k) && rightG r.drv (seen ++ r.st) (p.drop (i + 1))) = rightG 0 [] p ∧ s = sTk p r (seen ++ r.st.take k) sz i k) (n := r.st.length) ⟨0, sz, rfl, Nat.zero_le _, hsz, by rw [List.take_zero, List.append_nil]; exact hix, by rw [List.take_zero, List.append_nil]; rfl⟩ ?_
      rintro n s ⟨k, sz, rfl, hk, hsz, hkx, rfl⟩
      refine And.intro (fun g1 => ?_) (fun g1 => ?_)
      · have g1 : ((k : Nat) : Int) < ((r.st.map rowS).length : Int) := of_decide_eq_true g1
        rw [List.length_map] at g1
        have hwk := wrap_succ (i := k) (n := r.st.length) (by omega) (by omega)
        rw [stOK_at (by omega)] at hkx
        have htk : seen ++ r.st.take (k + 1) = seen ++ r.st.take k ++ [r.st[k]] := by
          rw [List.append_assoc, List.take_succ_eq_append_getElem (by omega)]
        have hsn : (seen ++ r.st.take k).length ≤ 800 := by
          rw [List.length_append, List.length_take]
          omega
        rw [htk] at hkx
        refine ⟨(r.st).map rowS, rowS ((r.st)[k]'(by omega)), rfl, by omega, row_at' rowS (r.st) (by omega) (by omega), rfl, of_decide_eq_true rfl, ?_⟩
        generalize r.st[k] = x at hkx htk ⊢
        generalize seen ++ r.st.take k = sn at hkx htk hsn ⊢
        have badx : ¬ (1 ≤ x.ord ∧ x.ord ≤ 1000000 ∧ x ∉ sn) → false = rightG 0 [] p := fun h => by rw [← hkx, decide_eq_false h]; rfl
        refine And.intro (fun w1 => ?_) (fun w1 => ?_)
        · repeat (first | refine And.intro (fun _ => ?_) (fun h => Bool.noConfusion h) | refine And.intro (fun h => Bool.noConfusion h) (fun _ => ?_))
          exact And.intro (congrArg D.bool (badx (fun h => absurd (of_decide_eq_true w1) (by have := h.1; omega)))) rfl
        repeat (first | refine And.intro (fun _ => ?_) (fun h => Bool.noConfusion h) | refine And.intro (fun h => Bool.noConfusion h) (fun _ => ?_))
        have w1 := of_decide_eq_false w1
        refine And.intro (fun w2 => ?_) (fun w2 => ?_)
        · repeat (first | refine And.intro (fun _ => ?_) (fun h => Bool.noConfusion h) | refine And.intro (fun h => Bool.noConfusion h) (fun _ => ?_))
          exact And.intro (congrArg D.bool (badx (fun h => absurd (of_decide_eq_true w2) (by have := h.2.1; omega)))) rfl
        repeat (first | refine And.intro (fun _ => ?_) (fun h => Bool.noConfusion h) | refine And.intro (fun h => Bool.noConfusion h) (fun _ => ?_))
        have w2 := of_decide_eq_false w2
        show Ok _ _ _ _ _
        refine Ok.loopN hLT hmix [] [0, 2, 3, 4, 5, 6, 7, 8, 11, 15, 63, 68, 83, 87, 95] [0,3,4,5,6,7,8,2] [5,7] (fun n s => ∃ (j : Nat), n = sn.length - j ∧ j ≤ sn.length ∧ x ∉ sn.take j ∧ s = sTj p r x sn sz i k j) (n := sn.length) ⟨0, rfl, Nat.zero_le _, by simp, rfl⟩ ?_
        rintro n s ⟨j, rfl, hj, hjx, rfl⟩
        refine And.intro (fun v1 => ?_) (fun v1 => ?_)
        · have v1 : ((j : Nat) : Int) < ((sn.map rowS).length : Int) := of_decide_eq_true v1
          rw [List.length_map] at v1
          have hwj := wrap_succ (i := j) (n := sn.length) (by omega) (by omega)
          refine ⟨⟨63, [0, 0, 3, 4, 0, 24], [1, 2, 7, 15, 16, 63]⟩, by kernel_rfl, ?_⟩
          refine ⟨(sn).map rowS, rowS ((sn)[j]'(by omega)), rfl, by omega, row_at' rowS (sn) (by omega) (by omega), rfl, of_decide_eq_true rfl, ?_⟩
          refine And.intro rfl ?_
          refine ⟨_, _, rfl, rfl, rfl, ?_⟩
          refine And.intro rfl ?_
          refine And.intro (fun v2 => ?_) (fun v2 => ?_)
          · have v2 := stp_eq v2
            exact And.intro (congrArg D.bool (badx (fun h => h.2.2 (by rw [← v2]; exact List.getElem_mem _)))) rfl
          · have v2 := stp_ne v2
            refine ⟨sn.length - (j + 1), by omega, j + 1, rfl, by omega, ?_, ?_⟩
            · rw [List.take_succ_eq_append_getElem (by omega), List.mem_append]
              rintro (h | h)
              · exact hjx h
              · exact v2 (List.mem_singleton.1 h).symm
            · unfold sTj
              rw [← hwj]
              rfl
        · have v1 : ¬ ((j : Nat) : Int) < ((sn.map rowS).length : Int) := of_decide_eq_false v1
          rw [List.length_map] at v1
          rw [List.take_of_length_le (by omega)] at hjx
          have hxok : 1 ≤ x.ord ∧ x.ord ≤ 1000000 ∧ x ∉ sn := ⟨by omega, by omega, hjx⟩
          rw [decide_eq_true hxok, Bool.true_and] at hkx
          refine And.intro trivial (And.intro (by rcases hsz with rfl | rfl <;> rfl) (And.intro ?_ (And.intro rfl ?_)))
          · show ((sn.map rowS).length + 1) * 16 ≤ 140737488355328
            rw [List.length_map]
            omega
          refine ⟨r.st.length - (k + 1), by omega, k + 1, 2, rfl, by omega, .inr rfl, by rw [htk]; exact hkx, ?_⟩
          unfold sTk
          rw [htk, List.map_append, ← hwk]
          rfl
      · have g1 : ¬ ((k : Nat) : Int) < ((r.st.map rowS).length : Int) := of_decide_eq_false g1
        rw [List.length_map] at g1
        rw [List.drop_eq_nil_of_le (by omega)] at hkx
        have hkx : rightG r.drv (seen ++ r.st) (p.drop (i + 1)) = rightG 0 [] p := hkx
        rw [List.take_of_length_le (by omega)]
        refine ⟨p.length - (i + 1), by omega, i + 1, sz, seen ++ r.st, rfl, by omega, hsz, by rw [List.length_append]; omega, by rw [hls]; omega, by rw [hls]; exact hkx, ?_⟩
        unfold sTi
        rw [← hw]
        rfl
    · have q3 : ¬ ((i : Nat) : Int) > 0 := of_decide_eq_false q3
      have hlt : lastP p i < r.drv := by
        unfold lastP
        rw [dif_neg (by omega)]
        omega
      repeat (first | refine And.intro (fun _ => ?_) (fun h => Bool.noConfusion h) | refine And.intro (fun h => Bool.noConfusion h) (fun _ => ?_))
      refine And.intro (fun q5 => ?_) (fun q5 => ?_)
      · repeat (first | refine And.intro (fun _ => ?_) (fun h => Bool.noConfusion h) | refine And.intro (fun h => Bool.noConfusion h) (fun _ => ?_))
        exact And.intro (congrArg D.bool (bad (fun h => absurd (of_decide_eq_true q5) (by rw [List.length_map]; have := h.2.2.1; omega)))) rfl
      repeat (first | refine And.intro (fun _ => ?_) (fun h => Bool.noConfusion h) | refine And.intro (fun h => Bool.noConfusion h) (fun _ => ?_))
      have q5 := of_decide_eq_false q5
      refine And.intro (fun q6 => ?_) (fun q6 => ?_)
      · repeat (first | refine And.intro (fun _ => ?_) (fun h => Bool.noConfusion h) | refine And.intro (fun h => Bool.noConfusion h) (fun _ => ?_))
        exact And.intro (congrArg D.bool (bad (fun h => absurd (of_decide_eq_true q6) (by have := h.2.2.2.1; omega)))) rfl
      repeat (first | refine And.intro (fun _ => ?_) (fun h => Bool.noConfusion h) | refine And.intro (fun h => Bool.noConfusion h) (fun _ => ?_))
      have q6 := of_decide_eq_false q6
      refine And.intro (fun q7 => ?_) (fun q7 => ?_)
      · repeat (first | refine And.intro (fun _ => ?_) (fun h => Bool.noConfusion h) | refine And.intro (fun h => Bool.noConfusion h) (fun _ => ?_))
        exact And.intro (congrArg D.bool (bad (fun h => absurd (of_decide_eq_true q7) (by rw [List.length_map]; have := h.2.2.2.2; omega)))) rfl
      repeat (first | refine And.intro (fun _ => ?_) (fun h => Bool.noConfusion h) | refine And.intro (fun h => Bool.noConfusion h) (fun _ => ?_))
      have q7 := of_decide_eq_false q7
      rw [List.length_map] at q5 q7
      have hok : hdOK (lastP p i) r := ⟨hlt, by omega, by omega, by omega, by omega⟩
      rw [decide_eq_true hok, Bool.true_and] at hix
      show Ok _ _ _ _ _
      refine Ok.loopN hLT hmix [] [0, 2, 3, 4, 5, 6, 7, 8, 11, 15, 63, 68, 83, 87, 95] [0,3,4,5,6,2] [5] (fun n s => ∃ (k sz : Nat), n = r.st.length - k ∧ k ≤ r.st.length ∧ (sz = 0 ∨ sz = 2) ∧ (stOK (seen ++ r.st.take k) (r.st.drop k) && rightG r.drv (seen ++ r.st) (p.drop (i + 1))) = rightG 0 [] p ∧ s = sTk p r (seen ++ r.st.take k) sz i k) (n := r.st.length) ⟨0, sz, rfl, Nat.zero_le _, hsz, by rw [List.take_zero, List.append_nil]; exact hix, by rw [List.take_zero, List.append_nil]; rfl⟩ ?_
      rintro n s ⟨k, sz, rfl, hk, hsz, hkx, rfl⟩
      refine And.intro (fun g1 => ?_) (fun g1 => ?_)
      · have g1 : ((k : Nat) : Int) < ((r.st.map rowS).length : Int) := of_decide_eq_true g1
        rw [List.length_map] at g1
        have hwk := wrap_succ (i := k) (n := r.st.length) (by omega) (by omega)
        rw [stOK_at (by omega)] at hkx
        have htk : seen ++ r.st.take (k + 1) = seen ++ r.st.take k ++ [r.st[k]] := by
          rw [List.append_assoc, List.take_succ_eq_append_getElem (by omega)]
        have hsn : (seen ++ r.st.take k).length ≤ 800 := by
          rw [List.length_append, List.length_take]
          omega
        rw [htk] at hkx
        refine ⟨(r.st).map rowS, rowS ((r.st)[k]'(by omega)), rfl, by omega, row_at' rowS (r.st) (by omega) (by omega), rfl, of_decide_eq_true rfl, ?_⟩
        generalize r.st[k] = x at hkx htk ⊢
        generalize seen ++ r.st.take k = sn at hkx htk hsn ⊢
        have badx : ¬ (1 ≤ x.ord ∧ x.ord ≤ 1000000 ∧ x ∉ sn) → false = rightG 0 [] p := fun h => by rw [← hkx, decide_eq_false h]; rfl
        refine And.intro (fun w1 => ?_) (fun w1 => ?_)
        · repeat (first | refine And.intro (fun _ => ?_) (fun h => Bool.noConfusion h) | refine And.intro (fun h => Bool.noConfusion h) (fun _ => ?_))
          exact And.intro (congrArg D.bool (badx (fun h => absurd (of_decide_eq_true w1) (by have := h.1; omega)))) rfl
        repeat (first | refine And.intro (fun _ => ?_) (fun h => Bool.noConfusion h) | refine And.intro (fun h => Bool.noConfusion h) (fun _ => ?_))
        have w1 := of_decide_eq_false w1
        refine And.intro (fun w2 => ?_) (fun w2 => ?_)
        · repeat (first | refine And.intro (fun _ => ?_) (fun h => Bool.noConfusion h) | refine And.intro (fun h => Bool.noConfusion h) (fun _ => ?_))
          exact And.intro (congrArg D.bool (badx (fun h => absurd (of_decide_eq_true w2) (by have := h.2.1; omega)))) rfl
        repeat (first | refine And.intro (fun _ => ?_) (fun h => Bool.noConfusion h) | refine And.intro (fun h => Bool.noConfusion h) (fun _ => ?_))
        have w2 := of_decide_eq_false w2
        show Ok _ _ _ _ _
        refine Ok.loopN hLT hmix [] [0, 2, 3, 4, 5, 6, 7, 8, 11, 15, 63, 68, 83, 87, 95] [0,3,4,5,6,7,8,2] [5,7] (fun n s => ∃ (j : Nat), n = sn.length - j ∧ j ≤ sn.length ∧ x ∉ sn.take j ∧ s = sTj p r x sn sz i k j) (n := sn.length) ⟨0, rfl, Nat.zero_le _, by simp, rfl⟩ ?_
        rintro n s ⟨j, rfl, hj, hjx, rfl⟩
        refine And.intro (fun v1 => ?_) (fun v1 => ?_)
        · have v1 : ((j : Nat) : Int) < ((sn.map rowS).length : Int) := of_decide_eq_true v1
          rw [List.length_map] at v1
          have hwj := wrap_succ (i := j) (n := sn.length) (by omega) (by omega)
          refine ⟨⟨63, [0, 0, 3, 4, 0, 24], [1, 2, 7, 15, 16, 63]⟩, by kernel_rfl, ?_⟩
          refine ⟨(sn).map rowS, rowS ((sn)[j]'(by omega)), rfl, by omega, row_at' rowS (sn) (by omega) (by omega), rfl, of_decide_eq_true rfl, ?_⟩
          refine And.intro rfl ?_
          refine ⟨_, _, rfl, rfl, rfl, ?_⟩
          refine And.intro rfl ?_
          refine And.intro (fun v2 => ?_) (fun v2 => ?_)
          · have v2 := stp_eq v2
            exact And.intro (congrArg D.bool (badx (fun h => h.2.2 (by rw [← v2]; exact List.getElem_mem _)))) rfl
          · have v2 := stp_ne v2
            refine ⟨sn.length - (j + 1), by omega, j + 1, rfl, by omega, ?_, ?_⟩
            · rw [List.take_succ_eq_append_getElem (by omega), List.mem_append]
              rintro (h | h)
              · exact hjx h
              · exact v2 (List.mem_singleton.1 h).symm
            · unfold sTj
              rw [← hwj]
              rfl
        · have v1 : ¬ ((j : Nat) : Int) < ((sn.map rowS).length : Int) := of_decide_eq_false v1
          rw [List.length_map] at v1
          rw [List.take_of_length_le (by omega)] at hjx
          have hxok : 1 ≤ x.ord ∧ x.ord ≤ 1000000 ∧ x ∉ sn := ⟨by omega, by omega, hjx⟩
          rw [decide_eq_true hxok, Bool.true_and] at hkx
          refine And.intro trivial (And.intro (by rcases hsz with rfl | rfl <;> rfl) (And.intro ?_ (And.intro rfl ?_)))
          · show ((sn.map rowS).length + 1) * 16 ≤ 140737488355328
            rw [List.length_map]
            omega
          refine ⟨r.st.length - (k + 1), by omega, k + 1, 2, rfl, by omega, .inr rfl, by rw [htk]; exact hkx, ?_⟩
          unfold sTk
          rw [htk, List.map_append, ← hwk]
          rfl
      · have g1 : ¬ ((k : Nat) : Int) < ((r.st.map rowS).length : Int) := of_decide_eq_false g1
        rw [List.length_map] at g1
        rw [List.drop_eq_nil_of_le (by omega)] at hkx
        have hkx : rightG r.drv (seen ++ r.st) (p.drop (i + 1)) = rightG 0 [] p := hkx
        rw [List.take_of_length_le (by omega)]
        refine ⟨p.length - (i + 1), by omega, i + 1, sz, seen ++ r.st, rfl, by omega, hsz, by rw [List.length_append]; omega, by rw [hls]; omega, by rw [hls]; exact hkx, ?_⟩
        unfold sTi
        rw [← hw]
        rfl
  · have h1 : ¬ ((i : Nat) : Int) < ((p.map rowR).length : Int) := of_decide_eq_false h1
    rw [List.length_map] at h1
    rw [List.drop_eq_nil_of_le (by omega)] at hix
    rw [← hix]
    exact And.intro rfl rfl
theorem c_drayref9_Right (p : Pln) {r : Nat} {sto : List Ob} (hr : r ≤ sto.length) : Tri Try.prog 23 r [encP p] sto (fun d k => d = .bool (rightP p) ∧ k = sto) :=
  (c_drayref9_Right_0 p).pure rfl (nrBL_P rfl) rfl rfl hr
end Go.Lv

namespace Go.Lv
open Go.Proofs

noncomputable def flgB (b : Bool) : List Int := [if b = true then 1 else 0]
noncomputable def stpB (s : Stp) : List Int := numB s.ord ++ flgB s.drop
noncomputable def stsB (l : List Stp) : List Int := (l.map stpB).flatten
noncomputable def hdB (r : Rte) : List Int := numB r.drv ++ (numB (r.st.length : Int) ++ numB r.srv)
noncomputable def rteB (r : Rte) : List Int := hdB r ++ stsB r.st
noncomputable def rtsB (p : Pln) : List Int := (p.map rteB).flatten
noncomputable def plnB (p : Pln) : List Int := numB (p.length : Int) ++ rtsB p
noncomputable def encD (p : Pln) : D := if rightP p = true then .list .imm ((plnB p).map rowB) else .list (.own 0) []
/-- What is known of a right plan's rows. -/
structure okRow (r : Rte) : Prop where
  drv : 1 ≤ r.drv ∧ r.drv ≤ 1000000
  srv : 0 ≤ r.srv ∧ r.srv ≤ 80
  srl : r.srv ≤ (r.st.length : Int)
  len : r.st.length ≤ 80
  st : ∀ s, s ∈ r.st → 1 ≤ s.ord ∧ s.ord ≤ 1000000
theorem stOK_ok : ∀ {l seen : List Stp}, stOK seen l = true → ∀ s, s ∈ l → 1 ≤ s.ord ∧ s.ord ≤ 1000000
  | [], _, _, s, hs => by cases hs
  | x :: l, seen, h, s, hs => by
    unfold stOK at h
    simp only [Bool.and_eq_true, decide_eq_true_eq] at h
    rcases List.mem_cons.1 hs with e | hs
    · subst e; exact ⟨h.1.1, h.1.2.1⟩
    · exact stOK_ok h.2 s hs
theorem rightG_ok : ∀ {p : Pln} {last : Int} {seen : List Stp}, 0 ≤ last → rightG last seen p = true → ∀ r, r ∈ p → okRow r
  | [], _, _, _, _, r, hr => by cases hr
  | x :: p, last, seen, h0, h, r, hr => by
    unfold rightG at h
    simp only [Bool.and_eq_true, decide_eq_true_eq] at h
    obtain ⟨h1, h2, h3⟩ := h
    rcases List.mem_cons.1 hr with e | hr
    · subst e
      exact ⟨⟨by have := h1.1; omega, h1.2.1⟩, ⟨h1.2.2.2.1, by have := h1.2.2.1; have := h1.2.2.2.2; omega⟩, h1.2.2.2.2, h1.2.2.1, stOK_ok h2⟩
    · exact rightG_ok (by have := h1.1; omega) h3 r hr
theorem rightP_ok {p : Pln} (h : rightP p = true) : p.length ≤ 8 ∧ ∀ r, r ∈ p → okRow r := by
  unfold rightP at h
  simp only [Bool.and_eq_true, decide_eq_true_eq] at h
  exact ⟨h.1, rightG_ok (Int.le_refl 0) h.2⟩
theorem stpB_len (s : Stp) : (stpB s).length ≤ 11 := by
  have := numB_len s.ord
  simp only [stpB, flgB, List.length_append, List.length_cons, List.length_nil]
  omega
theorem stsB_len : ∀ l : List Stp, (stsB l).length ≤ 11 * l.length
  | [] => by simp [stsB]
  | s :: l => by
    have h1 := stpB_len s
    have h2 := stsB_len l
    simp only [stsB, List.map_cons, List.flatten_cons, List.length_append, List.length_cons] at h2 ⊢
    omega
theorem hdB_len (r : Rte) : (hdB r).length ≤ 30 := by
  have h1 := numB_len r.drv
  have h2 := numB_len (r.st.length : Int)
  have h3 := numB_len r.srv
  simp only [hdB, List.length_append]
  omega
theorem rtsB_len : ∀ p : Pln, (∀ r, r ∈ p → okRow r) → (rtsB p).length ≤ 910 * p.length
  | [], _ => by simp [rtsB]
  | r :: p, h => by
    have h1 := hdB_len r
    have h2 := stsB_len r.st
    have h3 := (h r (by simp)).len
    have h4 := rtsB_len p (fun x hx => h x (by simp [hx]))
    simp only [rtsB, rteB, List.map_cons, List.flatten_cons, List.length_append, List.length_cons] at h4 ⊢
    omega
theorem stsB_take (l : List Stp) {i : Nat} (hi : i < l.length) : stsB (l.take (i + 1)) = stsB (l.take i) ++ stpB l[i] := by
  unfold stsB
  rw [List.take_succ_eq_append_getElem hi, List.map_append, List.flatten_append]
  simp
theorem rtsB_take (p : Pln) {i : Nat} (hi : i < p.length) : rtsB (p.take (i + 1)) = rtsB (p.take i) ++ rteB p[i] := by
  unfold rtsB
  rw [List.take_succ_eq_append_getElem hi, List.map_append, List.flatten_append]
  simp
set_option maxHeartbeats 2000000 in
theorem c_wire_Flag_0 (bs : List Int) (hb : bs.length ≤ 140737488354000) (b : Bool) :
    Tri Try.prog 45 0 [.list .imm (bs.map rowB), .bool b] [] (fun d l => d = .list (.own 1) ((bs ++ flgB b).map rowB) ∧ l = []) := by
  refine Tri.walk2 (L := LT) (c := {n := 12, ko := [4]}) [] [0, 1, 4, 5, 6] hLT hmix Try.func45 rfl rfl ⟨rfl, rfl⟩ (by show 2 ≤ 12; decide) (by first | exact Nat.zero_le _ | exact Nat.le_refl _ | decide) ?_
  have hroom : ((bs.map rowB).length + 1) * 1 ≤ 140737488355328 := by
    rw [List.length_map]
    omega
  cases b with
  | true =>
    repeat (first | refine And.intro (fun _ => ?_) (fun h => Bool.noConfusion h) | refine And.intro (fun h => Bool.noConfusion h) (fun _ => ?_))
    refine ⟨rfl, (by first | exact Nat.zero_le _ | decide), (c_wire_again_0 bs (by omega) 1 (by omega) (by omega)).mono ?_⟩
    rintro d l ⟨rfl, rfl⟩
    refine ⟨rfl, fun _ _ => rfl, rfl, ?_⟩
    refine And.intro trivial (And.intro rfl (And.intro hroom (And.intro rfl ?_)))
    exact And.intro (by rw [List.map_append]; rfl) rfl
  | false =>
    repeat (first | refine And.intro (fun _ => ?_) (fun h => Bool.noConfusion h) | refine And.intro (fun h => Bool.noConfusion h) (fun _ => ?_))
    refine ⟨rfl, (by first | exact Nat.zero_le _ | decide), (c_wire_again_0 bs (by omega) 1 (by omega) (by omega)).mono ?_⟩
    rintro d l ⟨rfl, rfl⟩
    refine ⟨rfl, fun _ _ => rfl, rfl, ?_⟩
    refine And.intro trivial (And.intro rfl (And.intro hroom (And.intro rfl ?_)))
    exact And.intro (by rw [List.map_append]; rfl) rfl
set_option maxHeartbeats 2000000 in
theorem c_drayref3_Flag_0 (bs : List Int) (hb : bs.length ≤ 140737488354000) (b : Bool) :
    Tri Try.prog 53 0 [.list .imm (bs.map rowB), .bool b] [] (fun d l => d = .list (.own 1) ((bs ++ flgB b).map rowB) ∧ l = []) := by
  refine Tri.walk2 (L := LT) (c := {n := 16, ko := [4]}) [] [0, 1, 4, 5] hLT hmix Try.func53 rfl rfl ⟨rfl, rfl⟩ (by show 2 ≤ 16; decide) (by first | exact Nat.zero_le _ | exact Nat.le_refl _ | decide) ?_
  have hroom : ((bs.map rowB).length + 1) * 1 ≤ 140737488355328 := by
    rw [List.length_map]
    omega
  have hroom0 : (0 + (bs.map rowB).length) * 1 ≤ 140737488355328 := by omega
  cases b with
  | true =>
    repeat (first | refine And.intro (fun _ => ?_) (fun h => Bool.noConfusion h) | refine And.intro (fun h => Bool.noConfusion h) (fun _ => ?_))
    refine And.intro trivial (And.intro rfl (And.intro hroom0 (And.intro (allLenB bs) ?_)))
    refine And.intro trivial (And.intro rfl (And.intro hroom (And.intro rfl ?_)))
    exact And.intro (by rw [List.map_append]; rfl) rfl
  | false =>
    repeat (first | refine And.intro (fun _ => ?_) (fun h => Bool.noConfusion h) | refine And.intro (fun h => Bool.noConfusion h) (fun _ => ?_))
    refine And.intro trivial (And.intro rfl (And.intro hroom0 (And.intro (allLenB bs) ?_)))
    refine And.intro trivial (And.intro rfl (And.intro hroom (And.intro rfl ?_)))
    exact And.intro (by rw [List.map_append]; rfl) rfl
noncomputable def sEi (p : Pln) (bs : List Int) (i : Nat) : DS := ⟨[(3, .list .imm (bs.map rowB)), (14, encP p), (15, .int .i64 (p.length : Int)), (16, .int .i64 (i : Int)), (2, .list (.own 0) [])], [], [], mR 0⟩
noncomputable def sEj (p : Pln) (l : List Stp) (bs : List Int) (i j : Nat) : DS := ⟨[(3, .list .imm (bs.map rowB)), (14, encP p), (15, .int .i64 (p.length : Int)), (16, .int .i64 (i : Int)), (32, .list .imm (l.map rowS)), (33, .int .i64 (l.length : Int)), (34, .int .i64 (j : Int)), (2, .list (.own 0) [])], [], [], mR 0⟩
set_option maxHeartbeats 8000000 in
theorem c_plan_Encode_0 (p : Pln) : Tri Try.prog 21 0 [encP p] [] (fun d k => d = encD p ∧ k = []) := by
  refine Tri.walk2 (L := LT) (c := {n := 48, ko := [2]}) [] [0, 2, 3, 5, 7, 10, 14, 15, 16, 17, 32, 33, 34, 35] hLT hmix Try.func21 rfl rfl ⟨rfl, rfl⟩ (by show 1 ≤ 48; decide) (by first | exact Nat.zero_le _ | exact Nat.le_refl _ | decide) ?_
  unfold encD
  refine ⟨rfl, Nat.zero_le _, (c_plan_Right_0 p).mono ?_⟩
  rintro d l ⟨hd, rfl⟩
  by_cases hr : rightP p = true
  rotate_left
  · rw [Bool.not_eq_true] at hr
    rw [hr] at hd ⊢
    subst hd
    refine ⟨rfl, fun _ _ => rfl, rfl, ?_⟩
    exact And.intro rfl rfl
  obtain ⟨hp8, hrow⟩ := rightP_ok hr
  rw [hr] at hd ⊢
  subst hd
  refine ⟨rfl, fun _ _ => rfl, rfl, ?_⟩
  repeat (first | refine And.intro (fun _ => ?_) (fun h => Bool.noConfusion h) | refine And.intro (fun h => Bool.noConfusion h) (fun _ => ?_))
  have hlen : ((p.map rowR).length : Int) = (p.length : Int) := by rw [List.length_map]
  refine ⟨rfl, (by first | exact Nat.zero_le _ | decide), (c_wire_Num_0 [] (by simp) ((p.map rowR).length : Int) (by omega) (by rw [List.length_map]; omega)).mono ?_⟩
  rintro d l ⟨rfl, rfl⟩
  refine ⟨rfl, fun _ _ => rfl, rfl, ?_⟩
  show Ok _ _ _ _ _
  refine Ok.loopN hLT hmix [] [0, 2, 3, 5, 7, 10, 14, 15, 16, 17, 32, 33, 34, 35] [3,14,15,16,2] [] (fun n s => ∃ (i : Nat), n = p.length - i ∧ i ≤ p.length ∧ s = sEi p (numB (p.length : Int) ++ rtsB (p.take i)) i) (n := p.length) ⟨0, rfl, Nat.zero_le _, by unfold sEi; rw [show rtsB (p.take 0) = [] from rfl, List.append_nil, ← hlen]; rfl⟩ ?_
  rintro n s ⟨i, rfl, hi, rfl⟩
  refine And.intro (fun h1 => ?_) (fun h1 => ?_)
  · have h1 : ((i : Nat) : Int) < (p.length : Int) := of_decide_eq_true h1
    have hw := wrap_succ (i := i) (n := p.length) (by omega) (by omega)
    have hr := hrow p[i] (List.getElem_mem _)
    have htk := rtsB_take p (i := i) (by omega)
    have hb0 : (numB (p.length : Int) ++ rtsB (p.take i)).length ≤ 10000 := by
      have h2 := numB_len (p.length : Int)
      have h3 := rtsB_len (p.take i) (fun x hx => hrow x (List.mem_of_mem_take hx))
      rw [List.length_take] at h3
      rw [List.length_append]
      omega
    have htk : numB (p.length : Int) ++ rtsB (p.take (i + 1)) = numB (p.length : Int) ++ rtsB (p.take i) ++ rteB p[i] := by
      rw [htk, List.append_assoc]
    refine ⟨(p).map rowR, rowR ((p)[i]'(by omega)), rfl, by omega, row_at' rowR (p) (by omega) (by omega), rfl, of_decide_eq_true rfl, ?_⟩
    generalize p[i] = r at hr htk ⊢
    generalize numB (p.length : Int) ++ rtsB (p.take i) = bs at hb0 htk ⊢
    have hd1 := numB_len r.drv
    have hd2 := numB_len ((r.st.map rowS).length : Int)
    have hd3 := numB_len r.srv
    have hl80 := hr.len
    refine ⟨⟨2047, [0, 0, 2, 5, 0, 16, 32, 72, 0, 256, 640, 2047], [1, 2, 6, 15, 16, 48, 112, 255, 256, 768, 2047, 4095]⟩, by kernel_rfl, ?_⟩
    refine And.intro ?_ trivial
    refine ⟨rfl, (by first | exact Nat.zero_le _ | decide), (c_wire_Num_0 bs (by omega) r.drv (by have := hr.drv; omega) (by have := hr.drv; omega)).mono ?_⟩
    rintro d l ⟨rfl, rfl⟩
    refine ⟨rfl, fun _ _ => rfl, rfl, ?_⟩
    refine And.intro (by repeat (first | exact trivial | refine And.intro ⟨rfl, rfl⟩ ?_)) ?_
    refine And.intro ?_ trivial
    refine ⟨rfl, (by first | exact Nat.zero_le _ | decide), (c_wire_Num_0 (bs ++ numB r.drv) (by rw [List.length_append]; omega) ((r.st.map rowS).length : Int) (by omega) (by rw [List.length_map]; omega)).mono ?_⟩
    rintro d l ⟨rfl, rfl⟩
    refine ⟨rfl, fun _ _ => rfl, rfl, ?_⟩
    refine And.intro (by repeat (first | exact trivial | refine And.intro ⟨rfl, rfl⟩ ?_)) ?_
    refine And.intro ?_ trivial
    refine ⟨rfl, (by first | exact Nat.zero_le _ | decide), (c_wire_Num_0 (bs ++ numB r.drv ++ numB ((r.st.map rowS).length : Int)) (by rw [List.length_append, List.length_append]; omega) r.srv (by have := hr.srv; omega) (by have := hr.srv; omega)).mono ?_⟩
    rintro d l ⟨rfl, rfl⟩
    refine ⟨rfl, fun _ _ => rfl, rfl, ?_⟩
    refine And.intro (by repeat (first | exact trivial | refine And.intro ⟨rfl, rfl⟩ ?_)) ?_
    refine And.intro ?_ trivial
    refine And.intro (by repeat (first | exact trivial | refine And.intro ⟨rfl, rfl⟩ ?_)) ?_
    have hhd : bs ++ numB r.drv ++ numB ((r.st.map rowS).length : Int) ++ numB r.srv = bs ++ hdB r := by
      rw [List.length_map]
      simp only [hdB, List.append_assoc]
    have hhl : (bs ++ hdB r).length ≤ 10030 := by
      have := hdB_len r
      rw [List.length_append]
      omega
    rw [hhd]
    have htk : numB (p.length : Int) ++ rtsB (p.take (i + 1)) = bs ++ hdB r ++ stsB r.st := by
      rw [htk]
      simp only [rteB, List.append_assoc]
    generalize bs ++ hdB r = cs at hhl htk ⊢
    show Ok _ _ _ _ _
    refine Ok.loopN hLT hmix [] [0, 2, 3, 5, 7, 10, 14, 15, 16, 17, 32, 33, 34, 35] [3,14,15,16,32,33,34,2] [] (fun n s => ∃ (j : Nat), n = r.st.length - j ∧ j ≤ r.st.length ∧ s = sEj p r.st (cs ++ stsB (r.st.take j)) i j) (n := r.st.length) ⟨0, rfl, Nat.zero_le _, by rw [List.take_zero, show cs ++ stsB [] = cs by simp [stsB]]; unfold sEj; rw [← List.length_map (f := rowS)]; rfl⟩ ?_
    rintro n s ⟨j, rfl, hj, rfl⟩
    refine And.intro (fun g1 => ?_) (fun g1 => ?_)
    · have g1 : ((j : Nat) : Int) < (r.st.length : Int) := of_decide_eq_true g1
      have hwj := wrap_succ (i := j) (n := r.st.length) (by omega) (by omega)
      have hs := hr.st r.st[j] (List.getElem_mem _)
      have hcl : (cs ++ stsB (r.st.take j)).length ≤ 11000 := by
        have h3 := stsB_len (r.st.take j)
        rw [List.length_take] at h3
        rw [List.length_append]
        omega
      have hsk : cs ++ stsB (r.st.take (j + 1)) = cs ++ stsB (r.st.take j) ++ stpB r.st[j] := by
        rw [stsB_take r.st (by omega), List.append_assoc]
      refine ⟨(r.st).map rowS, rowS ((r.st)[j]'(by omega)), rfl, by omega, row_at' rowS (r.st) (by omega) (by omega), rfl, of_decide_eq_true rfl, ?_⟩
      generalize r.st[j] = x at hs hsk ⊢
      generalize cs ++ stsB (r.st.take j) = ds at hcl hsk ⊢
      obtain ⟨xo, xd⟩ := x
      have hs : 1 ≤ xo ∧ xo ≤ 1000000 := hs
      have hdx := numB_len xo
      have hsk : cs ++ stsB (r.st.take (j + 1)) = ds ++ numB xo ++ flgB xd := by
        rw [hsk, List.append_assoc]
        rfl
      cases xd
      all_goals
        refine ⟨⟨127, [0, 0, 2, 5, 0, 16, 40, 127], [1, 2, 6, 15, 16, 48, 127, 255]⟩, by kernel_rfl, ?_⟩
        repeat (first | refine And.intro (fun _ => ?_) (fun h => Bool.noConfusion h) | refine And.intro (fun h => Bool.noConfusion h) (fun _ => ?_))
        refine And.intro ?_ trivial
        refine ⟨rfl, (by first | exact Nat.zero_le _ | decide), (c_wire_Num_0 ds (by omega) xo (by omega) (by omega)).mono ?_⟩
        rintro d l ⟨rfl, rfl⟩
        refine ⟨rfl, fun _ _ => rfl, rfl, ?_⟩
        refine And.intro (by repeat (first | exact trivial | refine And.intro ⟨rfl, rfl⟩ ?_)) ?_
        refine And.intro ?_ trivial
        refine ⟨rfl, (by first | exact Nat.zero_le _ | decide), (c_wire_Flag_0 (ds ++ numB xo) (by rw [List.length_append]; omega) _).mono ?_⟩
        rintro d l ⟨rfl, rfl⟩
        refine ⟨rfl, fun _ _ => rfl, rfl, ?_⟩
        refine And.intro (by repeat (first | exact trivial | refine And.intro ⟨rfl, rfl⟩ ?_)) ?_
        refine And.intro ?_ trivial
        refine And.intro (by repeat (first | exact trivial | refine And.intro ⟨rfl, rfl⟩ ?_)) ?_
        refine ⟨r.st.length - (j + 1), by omega, j + 1, rfl, by omega, ?_⟩
        unfold sEj
        rw [hsk, ← hwj]
        rfl
    · have g1 : ¬ ((j : Nat) : Int) < (r.st.length : Int) := of_decide_eq_false g1
      rw [List.take_of_length_le (by omega), ← htk]
      refine ⟨p.length - (i + 1), by omega, i + 1, rfl, by omega, ?_⟩
      unfold sEi
      rw [← hw]
      rfl
  · have h1 : ¬ ((i : Nat) : Int) < (p.length : Int) := of_decide_eq_false h1
    rw [List.take_of_length_le (by omega)]
    exact And.intro rfl rfl
theorem encD_ok (p : Pln) : partsOK (encD p) = true ∧ nrB 0 (encD p) = true := by
  unfold encD
  split
  · exact ⟨rfl, nrBLL_B _⟩
  · exact ⟨rfl, rfl⟩
theorem c_plan_Encode (p : Pln) {r : Nat} {sto : List Ob} (hr : r ≤ sto.length) : Tri Try.prog 21 r [encP p] sto (fun d k => d = encD p ∧ k = sto) :=
  (c_plan_Encode_0 p).pure rfl (nrBL_P rfl) (encD_ok p).1 (encD_ok p).2 hr
noncomputable def sDi (p : Pln) (bs : List Int) (i : Nat) : DS := ⟨[(0, encP p), (3, .list .imm (bs.map rowB)), (4, .int .i64 (i : Int)), (2, .list (.own 0) [])], [], [], mR 0⟩
noncomputable def sDj (p : Pln) (bs : List Int) (i j : Nat) : DS := ⟨[(0, encP p), (3, .list .imm (bs.map rowB)), (4, .int .i64 (i : Int)), (5, .int .i64 (j : Int)), (2, .list (.own 0) [])], [], [], mR 0⟩
set_option maxHeartbeats 8000000 in
theorem c_drayref9_Encode_0 (p : Pln) : Tri Try.prog 31 0 [encP p] [] (fun d k => d = encD p ∧ k = []) := by
  refine Tri.walk2 (L := LT) (c := {n := 70, ko := [2]}) [] [0, 2, 3, 4, 5, 8, 15, 45] hLT hmix Try.func31 rfl rfl ⟨rfl, rfl⟩ (by show 1 ≤ 70; decide) (by first | exact Nat.zero_le _ | exact Nat.le_refl _ | decide) ?_
  unfold encD
  refine ⟨rfl, Nat.zero_le _, (c_drayref9_Right_0 p).mono ?_⟩
  rintro d l ⟨hd, rfl⟩
  by_cases hr : rightP p = true
  rotate_left
  · rw [Bool.not_eq_true] at hr
    rw [hr] at hd ⊢
    subst hd
    refine ⟨rfl, fun _ _ => rfl, rfl, ?_⟩
    exact And.intro rfl rfl
  obtain ⟨hp8, hrow⟩ := rightP_ok hr
  rw [hr] at hd ⊢
  subst hd
  refine ⟨rfl, fun _ _ => rfl, rfl, ?_⟩
  repeat (first | refine And.intro (fun _ => ?_) (fun h => Bool.noConfusion h) | refine And.intro (fun h => Bool.noConfusion h) (fun _ => ?_))
  have hlen : ((p.map rowR).length : Int) = (p.length : Int) := by rw [List.length_map]
  refine ⟨rfl, (by first | exact Nat.zero_le _ | decide), (c_drayref3_Num_0 [] (by simp) ((p.map rowR).length : Int)).mono ?_⟩
  rintro d l ⟨rfl, rfl⟩
  refine ⟨rfl, fun _ _ => rfl, rfl, ?_⟩
  show Ok _ _ _ _ _
  refine Ok.loopN hLT hmix [] [0, 2, 3, 4, 5, 8, 15, 45] [0,3,4,2] [] (fun n s => ∃ (i : Nat), n = p.length - i ∧ i ≤ p.length ∧ s = sDi p (numB (p.length : Int) ++ rtsB (p.take i)) i) (n := p.length) ⟨0, rfl, Nat.zero_le _, by unfold sDi; rw [show rtsB (p.take 0) = [] from rfl, List.append_nil, ← hlen]; rfl⟩ ?_
  rintro n s ⟨i, rfl, hi, rfl⟩
  refine And.intro (fun h1 => ?_) (fun h1 => ?_)
  · have h1 : ((i : Nat) : Int) < ((p.map rowR).length : Int) := of_decide_eq_true h1
    rw [List.length_map] at h1
    have hi1 : i < p.length := by omega
    have hw := wrap_succ (i := i) (n := p.length) (by omega) (by omega)
    have hr := hrow p[i] (List.getElem_mem _)
    have htk := rtsB_take p (i := i) (by omega)
    have hb0 : (numB (p.length : Int) ++ rtsB (p.take i)).length ≤ 10000 := by
      have h2 := numB_len (p.length : Int)
      have h3 := rtsB_len (p.take i) (fun x hx => hrow x (List.mem_of_mem_take hx))
      rw [List.length_take] at h3
      rw [List.length_append]
      omega
    have htk : numB (p.length : Int) ++ rtsB (p.take (i + 1)) = numB (p.length : Int) ++ rtsB (p.take i) ++ rteB p[i] := by
      rw [htk, List.append_assoc]
    generalize numB (p.length : Int) ++ rtsB (p.take i) = bs at hb0 htk ⊢
    have hd1 := numB_len p[i].drv
    have hd2 := numB_len ((p[i].st.map rowS).length : Int)
    have hd3 := numB_len p[i].srv
    have hl80 := hr.len
    refine ⟨⟨1048575, [0, 0, 0, 6, 8, 16, 33, 0, 0, 384, 512, 1024, 2048, 4160, 0, 0, 49152, 65536, 131072, 270336, 1048575], [1, 2, 4, 14, 30, 62, 127, 128, 256, 896, 1920, 3968, 8064, 16383, 16384, 32768, 114688, 245760, 507904, 1048575, 2097151]⟩, by kernel_rfl, ?_⟩
    refine ⟨(p).map rowR, rowR ((p)[i]'(by omega)), rfl, by omega, row_at' rowR (p) (by omega) (by omega), rfl, of_decide_eq_true rfl, ?_⟩
    refine And.intro rfl ?_
    refine ⟨(p).map rowR, rowR ((p)[i]'(by omega)), rfl, by omega, row_at' rowR (p) (by omega) (by omega), rfl, of_decide_eq_true rfl, ?_⟩
    refine And.intro rfl ?_
    refine ⟨(p).map rowR, rowR ((p)[i]'(by omega)), rfl, by omega, row_at' rowR (p) (by omega) (by omega), rfl, of_decide_eq_true rfl, ?_⟩
    refine And.intro rfl ?_
    refine And.intro ?_ trivial
    refine ⟨rfl, (by first | exact Nat.zero_le _ | decide), (c_drayref3_Num_0 bs (by omega) p[i].drv).mono ?_⟩
    rintro d l ⟨rfl, rfl⟩
    refine ⟨rfl, fun _ _ => rfl, rfl, ?_⟩
    refine And.intro (by repeat (first | exact trivial | refine And.intro ⟨rfl, rfl⟩ ?_ | refine And.intro ⟨_, _, rfl, by omega, row_at' _ _ rfl (by omega), rfl, of_decide_eq_true rfl, And.intro rfl (And.intro rfl rfl)⟩ ?_)) ?_
    refine And.intro ?_ trivial
    refine ⟨rfl, (by first | exact Nat.zero_le _ | decide), (c_drayref3_Num_0 (bs ++ numB p[i].drv) (by rw [List.length_append]; omega) ((p[i].st.map rowS).length : Int)).mono ?_⟩
    rintro d l ⟨rfl, rfl⟩
    refine ⟨rfl, fun _ _ => rfl, rfl, ?_⟩
    refine And.intro (by repeat (first | exact trivial | refine And.intro ⟨rfl, rfl⟩ ?_ | refine And.intro ⟨_, _, rfl, by omega, row_at' _ _ rfl (by omega), rfl, of_decide_eq_true rfl, And.intro rfl (And.intro rfl rfl)⟩ ?_)) ?_
    refine And.intro ?_ trivial
    refine ⟨rfl, (by first | exact Nat.zero_le _ | decide), (c_drayref3_Num_0 (bs ++ numB p[i].drv ++ numB ((p[i].st.map rowS).length : Int)) (by rw [List.length_append, List.length_append]; omega) p[i].srv).mono ?_⟩
    rintro d l ⟨rfl, rfl⟩
    refine ⟨rfl, fun _ _ => rfl, rfl, ?_⟩
    refine And.intro (by repeat (first | exact trivial | refine And.intro ⟨rfl, rfl⟩ ?_ | refine And.intro ⟨_, _, rfl, by omega, row_at' _ _ rfl (by omega), rfl, of_decide_eq_true rfl, And.intro rfl (And.intro rfl rfl)⟩ ?_)) ?_
    refine And.intro ?_ trivial
    refine And.intro (by repeat (first | exact trivial | refine And.intro ⟨rfl, rfl⟩ ?_ | refine And.intro ⟨_, _, rfl, by omega, row_at' _ _ rfl (by omega), rfl, of_decide_eq_true rfl, And.intro rfl (And.intro rfl rfl)⟩ ?_)) ?_
    have hhd : bs ++ numB p[i].drv ++ numB ((p[i].st.map rowS).length : Int) ++ numB p[i].srv = bs ++ hdB p[i] := by
      rw [List.length_map]
      simp only [hdB, List.append_assoc]
    have hhl : (bs ++ hdB p[i]).length ≤ 10030 := by
      have := hdB_len p[i]
      rw [List.length_append]
      omega
    rw [hhd]
    have htk : numB (p.length : Int) ++ rtsB (p.take (i + 1)) = bs ++ hdB p[i] ++ stsB p[i].st := by
      rw [htk]
      simp only [rteB, List.append_assoc]
    generalize bs ++ hdB p[i] = cs at hhl htk ⊢
    show Ok _ _ _ _ _
    refine Ok.loopN hLT hmix [] [0, 2, 3, 4, 5, 8, 15, 45] [0,3,4,5,2] [] (fun n s => ∃ (j : Nat), n = p[i].st.length - j ∧ j ≤ p[i].st.length ∧ s = sDj p (cs ++ stsB (p[i].st.take j)) i j) (n := p[i].st.length) ⟨0, rfl, Nat.zero_le _, by rw [show stsB (p[i].st.take 0) = [] from rfl, List.append_nil]; rfl⟩ ?_
    rintro n s ⟨j, rfl, hj, rfl⟩
    refine ⟨(p).map rowR, rowR ((p)[i]'(by omega)), rfl, by omega, row_at' rowR (p) (by omega) (by omega), rfl, of_decide_eq_true rfl, ?_⟩
    refine And.intro (fun g1 => ?_) (fun g1 => ?_)
    · have g1 : ((j : Nat) : Int) < ((p[i].st.map rowS).length : Int) := of_decide_eq_true g1
      rw [List.length_map] at g1
      have hwj := wrap_succ (i := j) (n := p[i].st.length) (by omega) (by omega)
      have hcl : (cs ++ stsB (p[i].st.take j)).length ≤ 11000 := by
        have h3 := stsB_len (p[i].st.take j)
        rw [List.length_take] at h3
        rw [List.length_append]
        omega
      have hsk : cs ++ stsB (p[i].st.take (j + 1)) = cs ++ stsB (p[i].st.take j) ++ stpB p[i].st[j] := by
        rw [stsB_take p[i].st (by omega), List.append_assoc]
      generalize cs ++ stsB (p[i].st.take j) = ds at hcl hsk ⊢
      have hdx := numB_len p[i].st[j].ord
      refine ⟨⟨2097151, [0, 0, 0, 6, 8, 16, 0, 96, 128, 256, 513, 0, 0, 6144, 8192, 16384, 0, 98304, 131072, 262144, 525312, 2097151], [1, 2, 4, 14, 30, 62, 64, 254, 510, 1022, 2047, 2048, 4096, 14336, 30720, 63488, 65536, 260096, 522240, 1046528, 2097151, 4194303]⟩, by kernel_rfl, ?_⟩
      refine ⟨(p).map rowR, rowR ((p)[i]'(by omega)), rfl, by omega, row_at' rowR (p) (by omega) (by omega), rfl, of_decide_eq_true rfl, ?_⟩
      refine And.intro rfl ?_
      refine ⟨(p[i].st).map rowS, rowS ((p[i].st)[j]'(by omega)), rfl, by omega, row_at' rowS (p[i].st) (by omega) (by omega), rfl, of_decide_eq_true rfl, ?_⟩
      refine And.intro rfl ?_
      refine ⟨(p).map rowR, rowR ((p)[i]'(by omega)), rfl, by omega, row_at' rowR (p) (by omega) (by omega), rfl, of_decide_eq_true rfl, ?_⟩
      refine And.intro rfl ?_
      refine ⟨(p[i].st).map rowS, rowS ((p[i].st)[j]'(by omega)), rfl, by omega, row_at' rowS (p[i].st) (by omega) (by omega), rfl, of_decide_eq_true rfl, ?_⟩
      refine And.intro rfl ?_
      have hsk : ∀ b, p[i].st[j].drop = b → cs ++ stsB (p[i].st.take (j + 1)) = ds ++ numB p[i].st[j].ord ++ flgB b := fun b hb => by
        rw [hsk, List.append_assoc, ← hb]
        rfl
      refine And.intro (fun hxd => ?_) (fun hxd => ?_)
      all_goals
        refine And.intro ?_ trivial
        refine ⟨rfl, (by first | exact Nat.zero_le _ | decide), (c_drayref3_Num_0 ds (by omega) p[i].st[j].ord).mono ?_⟩
        rintro d l ⟨rfl, rfl⟩
        refine ⟨rfl, fun _ _ => rfl, rfl, ?_⟩
        refine And.intro (by repeat (first | exact trivial | refine And.intro ⟨rfl, rfl⟩ ?_ | refine And.intro ⟨_, _, rfl, by omega, row_at' _ _ rfl (by omega), rfl, of_decide_eq_true rfl, And.intro rfl (And.intro rfl rfl)⟩ ?_)) ?_
        refine And.intro ?_ trivial
        refine ⟨rfl, (by first | exact Nat.zero_le _ | decide), (c_drayref3_Flag_0 (ds ++ numB p[i].st[j].ord) (by rw [List.length_append]; omega) _).mono ?_⟩
        rintro d l ⟨rfl, rfl⟩
        refine ⟨rfl, fun _ _ => rfl, rfl, ?_⟩
        refine And.intro (by repeat (first | exact trivial | refine And.intro ⟨rfl, rfl⟩ ?_ | refine And.intro ⟨_, _, rfl, by omega, row_at' _ _ rfl (by omega), rfl, of_decide_eq_true rfl, And.intro rfl (And.intro rfl rfl)⟩ ?_)) ?_
        refine And.intro ?_ trivial
        refine And.intro (by repeat (first | exact trivial | refine And.intro ⟨rfl, rfl⟩ ?_ | refine And.intro ⟨_, _, rfl, by omega, row_at' _ _ rfl (by omega), rfl, of_decide_eq_true rfl, And.intro rfl (And.intro rfl rfl)⟩ ?_)) ?_
        refine ⟨p[i].st.length - (j + 1), by omega, j + 1, rfl, by omega, ?_⟩
        unfold sDj
        rw [hsk _ hxd, ← hwj]
        rfl
    · have g1 : ¬ ((j : Nat) : Int) < ((p[i].st.map rowS).length : Int) := of_decide_eq_false g1
      rw [List.length_map] at g1
      rw [List.take_of_length_le (by omega), ← htk]
      refine ⟨p.length - (i + 1), by omega, i + 1, rfl, by omega, ?_⟩
      unfold sDi
      rw [← hw]
      rfl
  · have h1 : ¬ ((i : Nat) : Int) < ((p.map rowR).length : Int) := of_decide_eq_false h1
    rw [List.length_map] at h1
    rw [List.take_of_length_le (by omega)]
    exact And.intro rfl rfl
theorem c_drayref9_Encode (p : Pln) {r : Nat} {sto : List Ob} (hr : r ≤ sto.length) : Tri Try.prog 31 r [encP p] sto (fun d k => d = encD p ∧ k = sto) :=
  (c_drayref9_Encode_0 p).pure rfl (nrBL_P rfl) (encD_ok p).1 (encD_ok p).2 hr
end Go.Lv

namespace Go.Lv
open Go.Proofs

noncomputable def stpR (bs : List Int) (s : Rd) : Stp × Rd := (⟨(numRd bs s).1, (flgRd bs (numRd bs s).2).1⟩, (flgRd bs (numRd bs s).2).2)
noncomputable def stsR (bs : List Int) : Nat → Rd × List Stp → Rd × List Stp
  | 0, g => g
  | k + 1, g => if g.1.fw = 0 then stsR bs k ((stpR bs g.1).2, g.2 ++ [(stpR bs g.1).1]) else g
noncomputable def rteR (bs : List Int) (s : Rd) : Rte × Rd :=
  (⟨(numRd bs s).1, (numRd bs (cntRd bs 80 (numRd bs s).2).2).1, (stsR bs (cntRd bs 80 (numRd bs s).2).1.toNat ((numRd bs (cntRd bs 80 (numRd bs s).2).2).2, [])).2⟩,
    (stsR bs (cntRd bs 80 (numRd bs s).2).1.toNat ((numRd bs (cntRd bs 80 (numRd bs s).2).2).2, [])).1)
noncomputable def rtsR (bs : List Int) : Nat → Rd × Pln → Rd × Pln
  | 0, g => g
  | k + 1, g => if g.1.fw = 0 then rtsR bs k ((rteR bs g.1).2, g.2 ++ [(rteR bs g.1).1]) else g
structure szQ' (p : Pln) : Prop where
  len : p.length ≤ 8
  st : ∀ r, r ∈ p → r.st.length ≤ 80
/-- A plan that is read; whether it is right is not asked. -/
noncomputable def plnR (bs : List Int) (s : Rd) : Rd × Pln := rtsR bs (cntRd bs 8 s).1.toNat ((cntRd bs 8 s).2, [])
theorem stpR_pos {bs : List Int} {s : Rd} (h : s.p ≤ bs.length) : (stpR bs s).2.p ≤ bs.length := flgRd_pos (numRd_pos h)
theorem stsR_pos {bs : List Int} : ∀ (k : Nat) {g : Rd × List Stp}, g.1.p ≤ bs.length → (stsR bs k g).1.p ≤ bs.length
  | 0, g, h => h
  | k + 1, g, h => by
    unfold stsR
    split
    · exact stsR_pos k (stpR_pos h)
    · exact h
theorem stsR_len {bs : List Int} : ∀ (k : Nat) {g : Rd × List Stp}, (stsR bs k g).2.length ≤ g.2.length + k
  | 0, g => Nat.le_refl _
  | k + 1, g => by
    unfold stsR
    split
    · have := stsR_len (bs := bs) k (g := ((stpR bs g.1).2, g.2 ++ [(stpR bs g.1).1]))
      simp only [List.length_append, List.length_cons, List.length_nil] at this
      omega
    · omega
theorem rteR_pos {bs : List Int} {s : Rd} (h : s.p ≤ bs.length) : (rteR bs s).2.p ≤ bs.length := stsR_pos _ (numRd_pos (cntRd_pos (numRd_pos h)))
theorem rteR_len {bs : List Int} {s : Rd} : (rteR bs s).1.st.length ≤ 80 := by
  have h1 := stsR_len (bs := bs) (cntRd bs 80 (numRd bs s).2).1.toNat (g := ((numRd bs (cntRd bs 80 (numRd bs s).2).2).2, []))
  have h2 : (cntRd bs 80 (numRd bs s).2).1 ≤ 80 := cntRd_le (by omega)
  unfold rteR
  simp only [List.length_nil] at h1 ⊢
  omega
theorem rtsR_pos {bs : List Int} : ∀ (k : Nat) {g : Rd × Pln}, g.1.p ≤ bs.length → (rtsR bs k g).1.p ≤ bs.length
  | 0, g, h => h
  | k + 1, g, h => by
    unfold rtsR
    split
    · exact rtsR_pos k (rteR_pos h)
    · exact h
theorem rtsR_len {bs : List Int} : ∀ (k : Nat) {g : Rd × Pln}, (rtsR bs k g).2.length ≤ g.2.length + k
  | 0, g => Nat.le_refl _
  | k + 1, g => by
    unfold rtsR
    split
    · have := rtsR_len (bs := bs) k (g := ((rteR bs g.1).2, g.2 ++ [(rteR bs g.1).1]))
      simp only [List.length_append, List.length_cons, List.length_nil] at this
      omega
    · omega
theorem rtsR_sz {bs : List Int} : ∀ (k : Nat) {g : Rd × Pln}, (∀ r, r ∈ g.2 → r.st.length ≤ 80) → ∀ r, r ∈ (rtsR bs k g).2 → r.st.length ≤ 80
  | 0, g, h => h
  | k + 1, g, h => by
    unfold rtsR
    split
    · refine rtsR_sz k (fun r hr => ?_)
      rcases List.mem_append.1 hr with hr | hr
      · exact h r hr
      · rw [List.mem_singleton.1 hr]
        exact rteR_len
    · exact h
theorem plnR_pos {bs : List Int} {s : Rd} (h : s.p ≤ bs.length) : (plnR bs s).1.p ≤ bs.length := rtsR_pos _ (cntRd_pos h)
theorem plnR_szQ (bs : List Int) (s : Rd) : szQ' (plnR bs s).2 := by
  have h1 := rtsR_len (bs := bs) (cntRd bs 8 s).1.toNat (g := ((cntRd bs 8 s).2, []))
  have h2 : (cntRd bs 8 s).1 ≤ 8 := cntRd_le (by omega)
  have h3 := rtsR_sz (bs := bs) (cntRd bs 8 s).1.toNat (g := ((cntRd bs 8 s).2, [])) (fun r hr => by cases hr)
  refine ⟨?_, h3⟩
  unfold plnR
  simp only [List.length_nil] at h1
  omega
noncomputable def sQo (bs : List Int) (n : Int) (sz i : Nat) (g : Rd × Pln) : DS := ⟨[(0, .gptr 0 0), (3, .list (.own sz) (g.2.map rowR)), (4, .int .i64 n), (5, .int .i64 (i : Int)), (2, .list (.own 0) [])], [], stRd bs g.1, mR 0⟩
noncomputable def sQi (bs : List Int) (n k : Int) (p : Pln) (drv srv : Int) (sz z2 i j : Nat) (g : Rd × List Stp) : DS := ⟨[(0, .gptr 0 0), (3, .list (.own sz) (p.map rowR)), (4, .int .i64 n), (5, .int .i64 (i : Int)), (6, .lptr 6 0 0), (7, .int .i64 k), (8, .int .i64 (j : Int)), (2, .list (.own 0) [])], [(6, [.int .i64 drv, .int .i64 srv, .list (.own z2) (g.2.map rowS)])], stRd bs g.1, mR 0⟩
set_option maxHeartbeats 16000000 in
theorem c_plan_Read (bs : List Int) (hb : bs.length ≤ 140737488351232) (s : Rd) (hp : s.p ≤ bs.length) :
    Tri Try.prog 42 0 [.gptr 0 0] (stRd bs s) (fun d l => (∃ sz, d = .list (.own sz) ((plnR bs s).2.map rowR) ∧ (sz = 0 ∨ sz = 3)) ∧ l = stRd bs (plnR bs s).1) := by
  refine Tri.walk2 (L := LT) (c := {n := 60, ko := [2, 3], kb := [6], xf := [47, 55, 56, 59]}) [(60,1,[]),(62,1,[]),(63,1,[])] [0, 2, 3, 4, 5, 6, 7, 8, 9, 21, 41] hLT hmix Try.func42 rfl rfl ⟨rfl, rfl⟩ (by show 1 ≤ 60; decide) (by first | exact Nat.zero_le _ | exact Nat.le_refl _ | decide) ?_
  have hc := cntRd_pos (n := 8) hp
  have hn8 : (cntRd bs 8 s).1 ≤ 8 := cntRd_le (by omega)
  unfold plnR
  have ct := c_wire_Reader_Count bs hb s hp 8
  generalize cntRd bs 8 s = x at hc ct hn8
  obtain ⟨n, s1⟩ := x
  have hn8 : n ≤ 8 := hn8
  refine ⟨rfl, Nat.le_refl 0, (ct).mono ?_⟩
  rintro d l ⟨rfl, rfl⟩
  refine ⟨rfl, fun k hk => absurd hk (Nat.not_lt_zero k), rfl, ?_⟩
  show Ok _ _ _ _ _
  refine Ok.loopN hLT hmix [(60,1,[]),(62,1,[]),(63,1,[])] [0, 2, 3, 4, 5, 6, 7, 8, 9, 21, 41] [0,3,4,5,2] [] (fun f t => ∃ (i sz : Nat) (g : Rd × Pln), f = n.toNat - i ∧ i ≤ n.toNat ∧ (sz = 0 ∨ sz = 3) ∧ g.2.length = i ∧ g.1.p ≤ bs.length ∧ rtsR bs (n.toNat - i) g = rtsR bs n.toNat (s1, []) ∧ t = sQo bs n sz i g) (n := n.toNat) ⟨0, 0, (s1, []), rfl, Nat.zero_le _, .inl rfl, rfl, hc, rfl, rfl⟩ ?_
  rintro f t ⟨i, sz, g, rfl, hi, hsz, hgl, hg, hall, rfl⟩
  rw [← hall]
  obtain ⟨rd, p⟩ := g
  have hg : rd.p ≤ bs.length := hg
  have hgl : p.length = i := hgl
  refine And.intro (fun h1 => ?_) (fun h1 => ?_)
  rotate_left
  · have h1 : ¬ ((i : Nat) : Int) < n := of_decide_eq_false h1
    repeat (first | refine And.intro (fun _ => ?_) (fun h => Bool.noConfusion h) | refine And.intro (fun h => Bool.noConfusion h) (fun _ => ?_))
    have hfin : rtsR bs (n.toNat - i) (rd, p) = (rd, p) := by
      rw [show n.toNat - i = 0 by omega]
      rfl
    rw [hfin]
    exact And.intro ⟨sz, rfl, hsz⟩ rfl
  have h1 : ((i : Nat) : Int) < n := of_decide_eq_true h1
  have hi1 : i < n.toNat := by omega
  have hw : IntKind.i64.wrap ((i : Int) + 1) = ((i + 1 : Nat) : Int) := by
    rw [wrap64 (by omega) (by omega)]
    omega
  have hstep : n.toNat - i = (n.toNat - (i + 1)) + 1 := by omega
  refine ⟨rfl, Nat.zero_le 1, ((c_api_Fault_Good_0 rd.fa rd.fw).pure rfl rfl rfl rfl (r := 1) (sto := stRd bs rd) (Nat.le_refl 1)).mono ?_⟩
  rintro d l ⟨hd, rfl⟩
  by_cases hf : rd.fw = 0
  rotate_left
  · rw [decide_eq_false hf] at hd
    subst hd
    refine ⟨rfl, fun _ _ => rfl, rfl, ?_⟩
    repeat (first | refine And.intro (fun _ => ?_) (fun h => Bool.noConfusion h) | refine And.intro (fun h => Bool.noConfusion h) (fun _ => ?_))
    have hfin : rtsR bs (n.toNat - i) (rd, p) = (rd, p) := by
      rw [hstep]
      show (if rd.fw = 0 then _ else _) = _
      rw [if_neg hf]
    rw [hfin]
    exact And.intro ⟨sz, rfl, hsz⟩ rfl
  rw [decide_eq_true hf] at hd
  subst hd
  refine ⟨rfl, fun _ _ => rfl, rfl, ?_⟩
  repeat (first | refine And.intro (fun _ => ?_) (fun h => Bool.noConfusion h) | refine And.intro (fun h => Bool.noConfusion h) (fun _ => ?_))
  have hrnd : rtsR bs (n.toNat - i) (rd, p) = rtsR bs (n.toNat - (i + 1)) ((rteR bs rd).2, p ++ [(rteR bs rd).1]) := by
    rw [hstep]
    show (if rd.fw = 0 then _ else _) = _
    rw [if_pos hf]
  have hrl := rteR_len (bs := bs) (s := rd)
  rw [hrnd]
  unfold rteR at hrl ⊢
  have c0 := c_wire_Reader_Num bs hb rd hg
  have hp1 := numRd_pos hg
  generalize numRd bs rd = x0 at c0 hp1 hrl ⊢
  obtain ⟨drv, s2⟩ := x0
  have hp1 : s2.p ≤ bs.length := hp1
  refine ⟨rfl, Nat.le_refl 0, (c0).mono ?_⟩
  rintro d l ⟨rfl, rfl⟩
  refine ⟨rfl, fun k hk => absurd hk (Nat.not_lt_zero k), rfl, ?_⟩
  have c1 := c_wire_Reader_Count bs hb s2 hp1 80
  have hk80 : (cntRd bs 80 s2).1 ≤ 80 := cntRd_le (by omega)
  have hp2 := cntRd_pos (n := 80) hp1
  simp only at hrl ⊢
  generalize cntRd bs 80 s2 = x1 at c1 hp2 hk80 hrl ⊢
  obtain ⟨k, s3⟩ := x1
  have hp2 : s3.p ≤ bs.length := hp2
  have hk80 : k ≤ 80 := hk80
  refine ⟨rfl, Nat.le_refl 0, (c1).mono ?_⟩
  rintro d l ⟨rfl, rfl⟩
  refine ⟨rfl, fun k hk => absurd hk (Nat.not_lt_zero k), rfl, ?_⟩
  have c2 := c_wire_Reader_Num bs hb s3 hp2
  have hp3 := numRd_pos hp2
  simp only at hrl ⊢
  generalize numRd bs s3 = x2 at c2 hp3 hrl ⊢
  obtain ⟨srv, s4⟩ := x2
  have hp3 : s4.p ≤ bs.length := hp3
  refine ⟨rfl, Nat.le_refl 0, (c2).mono ?_⟩
  rintro d l ⟨rfl, rfl⟩
  refine ⟨rfl, fun k hk => absurd hk (Nat.not_lt_zero k), rfl, ?_⟩
  show Ok _ _ _ _ _
  refine Ok.loopN hLT hmix [(60,1,[]),(62,1,[]),(63,1,[])] [0, 2, 3, 4, 5, 6, 7, 8, 9, 21, 41] [0,3,4,5,6,7,8,2] [6] (fun f t => ∃ (j z2 : Nat) (g : Rd × List Stp), f = k.toNat - j ∧ j ≤ k.toNat ∧ (z2 = 0 ∨ z2 = 2) ∧ g.2.length = j ∧ g.1.p ≤ bs.length ∧ stsR bs (k.toNat - j) g = stsR bs k.toNat (s4, []) ∧ t = sQi bs n k p drv srv sz z2 i j g) (n := k.toNat) ⟨0, 0, (s4, []), rfl, Nat.zero_le _, .inl rfl, rfl, hp3, rfl, rfl⟩ ?_
  rintro f t ⟨j, z2, g, rfl, hj, hz2, hjl, hjp, hjall, rfl⟩
  obtain ⟨re, l⟩ := g
  have hjp : re.p ≤ bs.length := hjp
  have hjl : l.length = j := hjl
  simp only at hrl ⊢
  rw [← hjall] at hrl ⊢
  refine And.intro (fun g1 => ?_) (fun g1 => ?_)
  rotate_left
  · have g1 : ¬ ((j : Nat) : Int) < k := of_decide_eq_false g1
    repeat (first | refine And.intro (fun _ => ?_) (fun h => Bool.noConfusion h) | refine And.intro (fun h => Bool.noConfusion h) (fun _ => ?_))
    have hfin : stsR bs (k.toNat - j) (re, l) = (re, l) := by
      rw [show k.toNat - j = 0 by omega]
      rfl
    rw [hfin] at hrl ⊢
    refine And.intro trivial (And.intro (show ((sz == 0 || sz == LT.size 26) && decide (0 < LT.size 26) && decide (0 < LT.bytes 26) && (LT.zero 26).isSome) = true by rcases hsz with rfl | rfl <;> rfl) (And.intro (show ((p.map rowR).length + 1) * 40 ≤ 140737488355328 by rw [List.length_map]; omega) (And.intro rfl ?_)))
    refine ⟨n.toNat - (i + 1), by omega, i + 1, 3, (re, p ++ [⟨drv, srv, l⟩]), rfl, by omega, .inr rfl, by simp [hgl], hjp, rfl, ?_⟩
    unfold sQo
    rw [← hw, List.map_append]
    rfl
  have g1 : ((j : Nat) : Int) < k := of_decide_eq_true g1
  have hwj : IntKind.i64.wrap ((j : Int) + 1) = ((j + 1 : Nat) : Int) := by
    rw [wrap64 (by omega) (by omega)]
    omega
  have hstj : k.toNat - j = (k.toNat - (j + 1)) + 1 := by omega
  refine ⟨rfl, Nat.zero_le 1, ((c_api_Fault_Good_0 re.fa re.fw).pure rfl rfl rfl rfl (r := 1) (sto := stRd bs re) (Nat.le_refl 1)).mono ?_⟩
  rintro d l ⟨hd, rfl⟩
  by_cases hf : re.fw = 0
  rotate_left
  · rw [decide_eq_false hf] at hd
    subst hd
    refine ⟨rfl, fun _ _ => rfl, rfl, ?_⟩
    repeat (first | refine And.intro (fun _ => ?_) (fun h => Bool.noConfusion h) | refine And.intro (fun h => Bool.noConfusion h) (fun _ => ?_))
    have hfin : stsR bs (k.toNat - j) (re, l) = (re, l) := by
      rw [hstj]
      show (if re.fw = 0 then _ else _) = _
      rw [if_neg hf]
    rw [hfin] at hrl ⊢
    refine And.intro trivial (And.intro (show ((sz == 0 || sz == LT.size 26) && decide (0 < LT.size 26) && decide (0 < LT.bytes 26) && (LT.zero 26).isSome) = true by rcases hsz with rfl | rfl <;> rfl) (And.intro (show ((p.map rowR).length + 1) * 40 ≤ 140737488355328 by rw [List.length_map]; omega) (And.intro rfl ?_)))
    refine ⟨n.toNat - (i + 1), by omega, i + 1, 3, (re, p ++ [⟨drv, srv, l⟩]), rfl, by omega, .inr rfl, by simp [hgl], hjp, rfl, ?_⟩
    unfold sQo
    rw [← hw, List.map_append]
    rfl
  rw [decide_eq_true hf] at hd
  subst hd
  refine ⟨rfl, fun _ _ => rfl, rfl, ?_⟩
  repeat (first | refine And.intro (fun _ => ?_) (fun h => Bool.noConfusion h) | refine And.intro (fun h => Bool.noConfusion h) (fun _ => ?_))
  have hrj : stsR bs (k.toNat - j) (re, l) = stsR bs (k.toNat - (j + 1)) ((stpR bs re).2, l ++ [(stpR bs re).1]) := by
    rw [hstj]
    show (if re.fw = 0 then _ else _) = _
    rw [if_pos hf]
  unfold stpR at hrj
  have d0 := c_wire_Reader_Num bs hb re hjp
  have hp4 := numRd_pos hjp
  generalize numRd bs re = y0 at d0 hp4 hrj
  obtain ⟨id, s5⟩ := y0
  have hp4 : s5.p ≤ bs.length := hp4
  refine ⟨rfl, Nat.le_refl 0, (d0).mono ?_⟩
  rintro d l ⟨rfl, rfl⟩
  refine ⟨rfl, fun k hk => absurd hk (Nat.not_lt_zero k), rfl, ?_⟩
  have d1 := c_wire_Reader_Flag bs hb s5 hp4
  have hp5 := flgRd_pos hp4
  simp only at hrj
  generalize flgRd bs s5 = y1 at d1 hp5 hrj
  obtain ⟨fl, s6⟩ := y1
  have hp5 : s6.p ≤ bs.length := hp5
  have hrm : ((l.map rowS).length + 1) * 16 ≤ 140737488355328 := by
    rw [List.length_map]
    omega
  have hszk : ((z2 == 0 || z2 == LT.size 23) && decide (0 < LT.size 23) && decide (0 < LT.bytes 23) && (LT.zero 23).isSome) = true := by rcases hz2 with rfl | rfl <;> rfl
  cases fl
  · refine ⟨⟨511, [0, 1, 0, 0, 8, 20, 32, 82, 255, 511], [1, 3, 4, 8, 24, 60, 124, 255, 511, 1023]⟩, by kernel_rfl, ?_⟩
    refine And.intro ?_ (And.intro ?_ trivial)
    · refine And.intro (by repeat (first | exact trivial | refine And.intro ⟨rfl, rfl⟩ ?_)) ?_
      refine And.intro ?_ trivial
      refine ⟨rfl, Nat.le_refl 0, (d1).mono ?_⟩
      rintro d l ⟨rfl, rfl⟩
      refine ⟨rfl, fun k hk => absurd hk (Nat.not_lt_zero k), rfl, ?_⟩
      refine And.intro (by repeat (first | exact trivial | refine And.intro ⟨rfl, rfl⟩ ?_)) ?_
      refine And.intro ?_ trivial
      refine And.intro (by repeat (first | exact trivial | refine And.intro ⟨rfl, rfl⟩ ?_)) ?_
      refine And.intro ?_ trivial
      refine And.intro trivial (And.intro hszk (And.intro hrm (And.intro rfl ?_)))
      refine And.intro (by repeat (first | exact trivial | refine And.intro ⟨rfl, rfl⟩ ?_)) ?_
      refine And.intro ?_ trivial
      refine And.intro (by repeat (first | exact trivial | refine And.intro ⟨rfl, rfl⟩ ?_)) ?_
      refine ⟨k.toNat - (j + 1), by omega, j + 1, 2, (s6, l ++ [⟨id, false⟩]), rfl, by omega, .inr rfl, by simp [hjl], hp5, hrj.symm, ?_⟩
      unfold sQi
      rw [← hwj, List.map_append]
      rfl
    refine ⟨rfl, Nat.le_refl 0, (d1).mono ?_⟩
    rintro d l ⟨rfl, rfl⟩
    refine ⟨rfl, fun k hk => absurd hk (Nat.not_lt_zero k), rfl, ?_⟩
    refine And.intro (by repeat (first | exact trivial | refine And.intro ⟨rfl, rfl⟩ ?_)) ?_
    refine And.intro ?_ (And.intro ?_ trivial)
    · refine And.intro (by repeat (first | exact trivial | refine And.intro ⟨rfl, rfl⟩ ?_)) ?_
      refine And.intro ?_ trivial
      refine And.intro (by repeat (first | exact trivial | refine And.intro ⟨rfl, rfl⟩ ?_)) ?_
      refine And.intro ?_ trivial
      refine And.intro trivial (And.intro hszk (And.intro hrm (And.intro rfl ?_)))
      refine And.intro (by repeat (first | exact trivial | refine And.intro ⟨rfl, rfl⟩ ?_)) ?_
      refine And.intro ?_ trivial
      refine And.intro (by repeat (first | exact trivial | refine And.intro ⟨rfl, rfl⟩ ?_)) ?_
      refine ⟨k.toNat - (j + 1), by omega, j + 1, 2, (s6, l ++ [⟨id, false⟩]), rfl, by omega, .inr rfl, by simp [hjl], hp5, hrj.symm, ?_⟩
      unfold sQi
      rw [← hwj, List.map_append]
      rfl
    refine And.intro (by repeat (first | exact trivial | refine And.intro ⟨rfl, rfl⟩ ?_)) ?_
    refine And.intro ?_ trivial
    refine And.intro (by repeat (first | exact trivial | refine And.intro ⟨rfl, rfl⟩ ?_)) ?_
    refine And.intro ?_ trivial
    refine And.intro trivial (And.intro hszk (And.intro hrm (And.intro rfl ?_)))
    refine And.intro (by repeat (first | exact trivial | refine And.intro ⟨rfl, rfl⟩ ?_)) ?_
    refine And.intro ?_ trivial
    refine And.intro (by repeat (first | exact trivial | refine And.intro ⟨rfl, rfl⟩ ?_)) ?_
    refine ⟨k.toNat - (j + 1), by omega, j + 1, 2, (s6, l ++ [⟨id, false⟩]), rfl, by omega, .inr rfl, by simp [hjl], hp5, hrj.symm, ?_⟩
    unfold sQi
    rw [← hwj, List.map_append]
    rfl
  · refine ⟨⟨511, [0, 1, 0, 0, 8, 20, 32, 82, 255, 511], [1, 3, 4, 8, 24, 60, 124, 255, 511, 1023]⟩, by kernel_rfl, ?_⟩
    refine And.intro ?_ (And.intro ?_ trivial)
    · refine And.intro (by repeat (first | exact trivial | refine And.intro ⟨rfl, rfl⟩ ?_)) ?_
      refine And.intro ?_ trivial
      refine ⟨rfl, Nat.le_refl 0, (d1).mono ?_⟩
      rintro d l ⟨rfl, rfl⟩
      refine ⟨rfl, fun k hk => absurd hk (Nat.not_lt_zero k), rfl, ?_⟩
      refine And.intro (by repeat (first | exact trivial | refine And.intro ⟨rfl, rfl⟩ ?_)) ?_
      refine And.intro ?_ trivial
      refine And.intro (by repeat (first | exact trivial | refine And.intro ⟨rfl, rfl⟩ ?_)) ?_
      refine And.intro ?_ trivial
      refine And.intro trivial (And.intro hszk (And.intro hrm (And.intro rfl ?_)))
      refine And.intro (by repeat (first | exact trivial | refine And.intro ⟨rfl, rfl⟩ ?_)) ?_
      refine And.intro ?_ trivial
      refine And.intro (by repeat (first | exact trivial | refine And.intro ⟨rfl, rfl⟩ ?_)) ?_
      refine ⟨k.toNat - (j + 1), by omega, j + 1, 2, (s6, l ++ [⟨id, true⟩]), rfl, by omega, .inr rfl, by simp [hjl], hp5, hrj.symm, ?_⟩
      unfold sQi
      rw [← hwj, List.map_append]
      rfl
    refine ⟨rfl, Nat.le_refl 0, (d1).mono ?_⟩
    rintro d l ⟨rfl, rfl⟩
    refine ⟨rfl, fun k hk => absurd hk (Nat.not_lt_zero k), rfl, ?_⟩
    refine And.intro (by repeat (first | exact trivial | refine And.intro ⟨rfl, rfl⟩ ?_)) ?_
    refine And.intro ?_ (And.intro ?_ trivial)
    · refine And.intro (by repeat (first | exact trivial | refine And.intro ⟨rfl, rfl⟩ ?_)) ?_
      refine And.intro ?_ trivial
      refine And.intro (by repeat (first | exact trivial | refine And.intro ⟨rfl, rfl⟩ ?_)) ?_
      refine And.intro ?_ trivial
      refine And.intro trivial (And.intro hszk (And.intro hrm (And.intro rfl ?_)))
      refine And.intro (by repeat (first | exact trivial | refine And.intro ⟨rfl, rfl⟩ ?_)) ?_
      refine And.intro ?_ trivial
      refine And.intro (by repeat (first | exact trivial | refine And.intro ⟨rfl, rfl⟩ ?_)) ?_
      refine ⟨k.toNat - (j + 1), by omega, j + 1, 2, (s6, l ++ [⟨id, true⟩]), rfl, by omega, .inr rfl, by simp [hjl], hp5, hrj.symm, ?_⟩
      unfold sQi
      rw [← hwj, List.map_append]
      rfl
    refine And.intro (by repeat (first | exact trivial | refine And.intro ⟨rfl, rfl⟩ ?_)) ?_
    refine And.intro ?_ trivial
    refine And.intro (by repeat (first | exact trivial | refine And.intro ⟨rfl, rfl⟩ ?_)) ?_
    refine And.intro ?_ trivial
    refine And.intro trivial (And.intro hszk (And.intro hrm (And.intro rfl ?_)))
    refine And.intro (by repeat (first | exact trivial | refine And.intro ⟨rfl, rfl⟩ ?_)) ?_
    refine And.intro ?_ trivial
    refine And.intro (by repeat (first | exact trivial | refine And.intro ⟨rfl, rfl⟩ ?_)) ?_
    refine ⟨k.toNat - (j + 1), by omega, j + 1, 2, (s6, l ++ [⟨id, true⟩]), rfl, by omega, .inr rfl, by simp [hjl], hp5, hrj.symm, ?_⟩
    unfold sQi
    rw [← hwj, List.map_append]
    rfl
noncomputable def sUo (bs : List Int) (n : Int) (sz i : Nat) (g : Rd × Pln) : DS := ⟨[(0, .gptr 0 0), (3, .list (.own sz) (g.2.map rowR)), (4, .int .i64 n), (5, .int .i64 (i : Int)), (2, .list (.own 0) [])], [], stX bs g.1, mR 0⟩
noncomputable def sUi (bs : List Int) (n k : Int) (p : Pln) (drv srv : Int) (sz z2 i j : Nat) (g : Rd × List Stp) : DS := ⟨[(0, .gptr 0 0), (3, .list (.own sz) (p.map rowR)), (4, .int .i64 n), (5, .int .i64 (i : Int)), (6, .lptr 6 0 0), (7, .int .i64 k), (8, .int .i64 (j : Int)), (2, .list (.own 0) [])], [(6, [.int .i64 drv, .int .i64 srv, .list (.own z2) (g.2.map rowS)])], stX bs g.1, mR 0⟩
set_option maxHeartbeats 16000000 in
theorem c_drayref9_Take (bs : List Int) (hb : bs.length ≤ 140737488351232) (s : Rd) (hp : s.p ≤ bs.length) :
    Tri Try.prog 55 0 [.gptr 0 0] (stX bs s) (fun d l => (∃ sz, d = .list (.own sz) ((plnR bs s).2.map rowR) ∧ (sz = 0 ∨ sz = 3)) ∧ l = stX bs (plnR bs s).1) := by
  refine Tri.walk2 (L := LT) (c := {n := 61, ko := [2, 3], kb := [6], xf := [51, 56, 57, 60]}) [(66,1,[]),(67,1,[]),(68,1,[])] [0, 2, 3, 4, 5, 6, 7, 8, 9, 21, 41] hLT hmix Try.func55 rfl rfl ⟨rfl, rfl⟩ (by show 1 ≤ 61; decide) (by first | exact Nat.zero_le _ | exact Nat.le_refl _ | decide) ?_
  have hc := cntRd_pos (n := 8) hp
  have hn8 : (cntRd bs 8 s).1 ≤ 8 := cntRd_le (by omega)
  unfold plnR
  have ct := c_drayref3_Reader_Count bs hb s hp 8
  generalize cntRd bs 8 s = x at hc ct hn8
  obtain ⟨n, s1⟩ := x
  have hn8 : n ≤ 8 := hn8
  refine ⟨rfl, Nat.le_refl 0, (ct).mono ?_⟩
  rintro d l ⟨rfl, rfl⟩
  refine ⟨rfl, fun k hk => absurd hk (Nat.not_lt_zero k), rfl, ?_⟩
  show Ok _ _ _ _ _
  refine Ok.loopN hLT hmix [(66,1,[]),(67,1,[]),(68,1,[])] [0, 2, 3, 4, 5, 6, 7, 8, 9, 21, 41] [0,3,4,5,2] [] (fun f t => ∃ (i sz : Nat) (g : Rd × Pln), f = n.toNat - i ∧ i ≤ n.toNat ∧ (sz = 0 ∨ sz = 3) ∧ g.2.length = i ∧ g.1.p ≤ bs.length ∧ rtsR bs (n.toNat - i) g = rtsR bs n.toNat (s1, []) ∧ t = sUo bs n sz i g) (n := n.toNat) ⟨0, 0, (s1, []), rfl, Nat.zero_le _, .inl rfl, rfl, hc, rfl, rfl⟩ ?_
  rintro f t ⟨i, sz, g, rfl, hi, hsz, hgl, hg, hall, rfl⟩
  rw [← hall]
  obtain ⟨rd, p⟩ := g
  have hg : rd.p ≤ bs.length := hg
  have hgl : p.length = i := hgl
  refine And.intro (fun h1 => ?_) (fun h1 => ?_)
  rotate_left
  · have h1 : ¬ ((i : Nat) : Int) < n := of_decide_eq_false h1
    repeat (first | refine And.intro (fun _ => ?_) (fun h => Bool.noConfusion h) | refine And.intro (fun h => Bool.noConfusion h) (fun _ => ?_))
    have hfin : rtsR bs (n.toNat - i) (rd, p) = (rd, p) := by
      rw [show n.toNat - i = 0 by omega]
      rfl
    rw [hfin]
    exact And.intro ⟨sz, rfl, hsz⟩ rfl
  have h1 : ((i : Nat) : Int) < n := of_decide_eq_true h1
  have hi1 : i < n.toNat := by omega
  have hw : IntKind.i64.wrap ((i : Int) + 1) = ((i + 1 : Nat) : Int) := by
    rw [wrap64 (by omega) (by omega)]
    omega
  have hstep : n.toNat - i = (n.toNat - (i + 1)) + 1 := by omega

  by_cases hf : rd.fw = 0
  rotate_left
  · refine And.intro (fun h => absurd (of_decide_eq_true h) hf) (fun _ => ?_)
    repeat (first | refine And.intro (fun _ => ?_) (fun h => Bool.noConfusion h) | refine And.intro (fun h => Bool.noConfusion h) (fun _ => ?_))
    have hfin : rtsR bs (n.toNat - i) (rd, p) = (rd, p) := by
      rw [hstep]
      show (if rd.fw = 0 then _ else _) = _
      rw [if_neg hf]
    rw [hfin]
    exact And.intro ⟨sz, rfl, hsz⟩ rfl
  refine And.intro (fun _ => ?_) (fun h => absurd hf (of_decide_eq_false h))
  repeat (first | refine And.intro (fun _ => ?_) (fun h => Bool.noConfusion h) | refine And.intro (fun h => Bool.noConfusion h) (fun _ => ?_))
  have hrnd : rtsR bs (n.toNat - i) (rd, p) = rtsR bs (n.toNat - (i + 1)) ((rteR bs rd).2, p ++ [(rteR bs rd).1]) := by
    rw [hstep]
    show (if rd.fw = 0 then _ else _) = _
    rw [if_pos hf]
  have hrl := rteR_len (bs := bs) (s := rd)
  rw [hrnd]
  unfold rteR at hrl ⊢
  have c0 := c_drayref3_Reader_Num bs hb rd hg
  have hp1 := numRd_pos hg
  generalize numRd bs rd = x0 at c0 hp1 hrl ⊢
  obtain ⟨drv, s2⟩ := x0
  have hp1 : s2.p ≤ bs.length := hp1
  refine ⟨rfl, Nat.le_refl 0, (c0).mono ?_⟩
  rintro d l ⟨rfl, rfl⟩
  refine ⟨rfl, fun k hk => absurd hk (Nat.not_lt_zero k), rfl, ?_⟩
  have c1 := c_drayref3_Reader_Count bs hb s2 hp1 80
  have hk80 : (cntRd bs 80 s2).1 ≤ 80 := cntRd_le (by omega)
  have hp2 := cntRd_pos (n := 80) hp1
  simp only at hrl ⊢
  generalize cntRd bs 80 s2 = x1 at c1 hp2 hk80 hrl ⊢
  obtain ⟨k, s3⟩ := x1
  have hp2 : s3.p ≤ bs.length := hp2
  have hk80 : k ≤ 80 := hk80
  refine ⟨rfl, Nat.le_refl 0, (c1).mono ?_⟩
  rintro d l ⟨rfl, rfl⟩
  refine ⟨rfl, fun k hk => absurd hk (Nat.not_lt_zero k), rfl, ?_⟩
  have c2 := c_drayref3_Reader_Num bs hb s3 hp2
  have hp3 := numRd_pos hp2
  simp only at hrl ⊢
  generalize numRd bs s3 = x2 at c2 hp3 hrl ⊢
  obtain ⟨srv, s4⟩ := x2
  have hp3 : s4.p ≤ bs.length := hp3
  refine ⟨rfl, Nat.le_refl 0, (c2).mono ?_⟩
  rintro d l ⟨rfl, rfl⟩
  refine ⟨rfl, fun k hk => absurd hk (Nat.not_lt_zero k), rfl, ?_⟩
  show Ok _ _ _ _ _
  refine Ok.loopN hLT hmix [(66,1,[]),(67,1,[]),(68,1,[])] [0, 2, 3, 4, 5, 6, 7, 8, 9, 21, 41] [0,3,4,5,6,7,8,2] [6] (fun f t => ∃ (j z2 : Nat) (g : Rd × List Stp), f = k.toNat - j ∧ j ≤ k.toNat ∧ (z2 = 0 ∨ z2 = 2) ∧ g.2.length = j ∧ g.1.p ≤ bs.length ∧ stsR bs (k.toNat - j) g = stsR bs k.toNat (s4, []) ∧ t = sUi bs n k p drv srv sz z2 i j g) (n := k.toNat) ⟨0, 0, (s4, []), rfl, Nat.zero_le _, .inl rfl, rfl, hp3, rfl, rfl⟩ ?_
  rintro f t ⟨j, z2, g, rfl, hj, hz2, hjl, hjp, hjall, rfl⟩
  obtain ⟨re, l⟩ := g
  have hjp : re.p ≤ bs.length := hjp
  have hjl : l.length = j := hjl
  simp only at hrl ⊢
  rw [← hjall] at hrl ⊢
  refine And.intro (fun g1 => ?_) (fun g1 => ?_)
  rotate_left
  · have g1 : ¬ ((j : Nat) : Int) < k := of_decide_eq_false g1
    repeat (first | refine And.intro (fun _ => ?_) (fun h => Bool.noConfusion h) | refine And.intro (fun h => Bool.noConfusion h) (fun _ => ?_))
    have hfin : stsR bs (k.toNat - j) (re, l) = (re, l) := by
      rw [show k.toNat - j = 0 by omega]
      rfl
    rw [hfin] at hrl ⊢
    refine And.intro trivial (And.intro (show ((sz == 0 || sz == LT.size 26) && decide (0 < LT.size 26) && decide (0 < LT.bytes 26) && (LT.zero 26).isSome) = true by rcases hsz with rfl | rfl <;> rfl) (And.intro (show ((p.map rowR).length + 1) * 40 ≤ 140737488355328 by rw [List.length_map]; omega) (And.intro rfl ?_)))
    refine ⟨n.toNat - (i + 1), by omega, i + 1, 3, (re, p ++ [⟨drv, srv, l⟩]), rfl, by omega, .inr rfl, by simp [hgl], hjp, rfl, ?_⟩
    unfold sUo
    rw [← hw, List.map_append]
    rfl
  have g1 : ((j : Nat) : Int) < k := of_decide_eq_true g1
  have hwj : IntKind.i64.wrap ((j : Int) + 1) = ((j + 1 : Nat) : Int) := by
    rw [wrap64 (by omega) (by omega)]
    omega
  have hstj : k.toNat - j = (k.toNat - (j + 1)) + 1 := by omega

  by_cases hf : re.fw = 0
  rotate_left
  · refine And.intro (fun h => absurd (of_decide_eq_true h) hf) (fun _ => ?_)
    repeat (first | refine And.intro (fun _ => ?_) (fun h => Bool.noConfusion h) | refine And.intro (fun h => Bool.noConfusion h) (fun _ => ?_))
    have hfin : stsR bs (k.toNat - j) (re, l) = (re, l) := by
      rw [hstj]
      show (if re.fw = 0 then _ else _) = _
      rw [if_neg hf]
    rw [hfin] at hrl ⊢
    refine And.intro trivial (And.intro (show ((sz == 0 || sz == LT.size 26) && decide (0 < LT.size 26) && decide (0 < LT.bytes 26) && (LT.zero 26).isSome) = true by rcases hsz with rfl | rfl <;> rfl) (And.intro (show ((p.map rowR).length + 1) * 40 ≤ 140737488355328 by rw [List.length_map]; omega) (And.intro rfl ?_)))
    refine ⟨n.toNat - (i + 1), by omega, i + 1, 3, (re, p ++ [⟨drv, srv, l⟩]), rfl, by omega, .inr rfl, by simp [hgl], hjp, rfl, ?_⟩
    unfold sUo
    rw [← hw, List.map_append]
    rfl
  refine And.intro (fun _ => ?_) (fun h => absurd hf (of_decide_eq_false h))
  repeat (first | refine And.intro (fun _ => ?_) (fun h => Bool.noConfusion h) | refine And.intro (fun h => Bool.noConfusion h) (fun _ => ?_))
  have hrj : stsR bs (k.toNat - j) (re, l) = stsR bs (k.toNat - (j + 1)) ((stpR bs re).2, l ++ [(stpR bs re).1]) := by
    rw [hstj]
    show (if re.fw = 0 then _ else _) = _
    rw [if_pos hf]
  unfold stpR at hrj
  have d0 := c_drayref3_Reader_Num bs hb re hjp
  have hp4 := numRd_pos hjp
  generalize numRd bs re = y0 at d0 hp4 hrj
  obtain ⟨id, s5⟩ := y0
  have hp4 : s5.p ≤ bs.length := hp4
  refine ⟨rfl, Nat.le_refl 0, (d0).mono ?_⟩
  rintro d l ⟨rfl, rfl⟩
  refine ⟨rfl, fun k hk => absurd hk (Nat.not_lt_zero k), rfl, ?_⟩
  have d1 := c_drayref3_Reader_Flag bs hb s5 hp4
  have hp5 := flgRd_pos hp4
  simp only at hrj
  generalize flgRd bs s5 = y1 at d1 hp5 hrj
  obtain ⟨fl, s6⟩ := y1
  have hp5 : s6.p ≤ bs.length := hp5
  have hrm : ((l.map rowS).length + 1) * 16 ≤ 140737488355328 := by
    rw [List.length_map]
    omega
  have hszk : ((z2 == 0 || z2 == LT.size 23) && decide (0 < LT.size 23) && decide (0 < LT.bytes 23) && (LT.zero 23).isSome) = true := by rcases hz2 with rfl | rfl <;> rfl
  cases fl
  · refine ⟨rfl, Nat.le_refl 0, (d1).mono ?_⟩
    rintro d l ⟨rfl, rfl⟩
    refine ⟨rfl, fun k hk => absurd hk (Nat.not_lt_zero k), rfl, ?_⟩
    refine And.intro trivial (And.intro hszk (And.intro hrm (And.intro rfl ?_)))
    refine ⟨k.toNat - (j + 1), by omega, j + 1, 2, (s6, l ++ [⟨id, false⟩]), rfl, by omega, .inr rfl, by simp [hjl], hp5, hrj.symm, ?_⟩
    unfold sUi
    rw [← hwj, List.map_append]
    rfl
  · refine ⟨rfl, Nat.le_refl 0, (d1).mono ?_⟩
    rintro d l ⟨rfl, rfl⟩
    refine ⟨rfl, fun k hk => absurd hk (Nat.not_lt_zero k), rfl, ?_⟩
    refine And.intro trivial (And.intro hszk (And.intro hrm (And.intro rfl ?_)))
    refine ⟨k.toNat - (j + 1), by omega, j + 1, 2, (s6, l ++ [⟨id, true⟩]), rfl, by omega, .inr rfl, by simp [hjl], hp5, hrj.symm, ?_⟩
    unfold sUi
    rw [← hwj, List.map_append]
    rfl
end Go.Lv

namespace Go.Lv
open Go.Proofs

noncomputable def decE (bs : List Int) : Int := if (endRd bs (plnR bs ⟨0, 0, 0⟩).1).1 = 0 then (if rightP (plnR bs ⟨0, 0, 0⟩).2 = true then 0 else 4) else (endRd bs (plnR bs ⟨0, 0, 0⟩).1).1
noncomputable def decD (bs : List Int) : D := if decE bs = 0 then .tup [encP (plnR bs ⟨0, 0, 0⟩).2, .int .i64 0] else .tup [.list (.own 0) [], .int .i64 (decE bs)]
theorem decD_ok (bs : List Int) : partsOK (decD bs) = true ∧ nrB 0 (decD bs) = true := by
  unfold decD
  split
  · refine ⟨rfl, ?_⟩
    show (nrBLL 0 ((plnR bs ⟨0, 0, 0⟩).2.map rowR) && true) = true
    rw [nrBLL_P]
    rfl
  · exact ⟨rfl, rfl⟩
set_option maxHeartbeats 4000000 in
theorem c_plan_Decode_1 (bs : List Int) (hb : bs.length ≤ 140737488351232) : Tri Try.prog 18 0 [.list .imm (bs.map rowB)] [] (fun d k => d = decD bs) := by
  refine Tri.walk2 (L := LT) (c := {n := 24, ko := [2, 3]}) [(42,1,[]),(43,1,[])] [0, 2, 3, 4, 5, 6, 19, 21] hLT hmix Try.func18 rfl rfl ⟨rfl, rfl⟩ (by show 1 ≤ 24; decide) (by first | exact Nat.zero_le _ | exact Nat.le_refl _ | decide) ?_
  refine ⟨rfl, Nat.zero_le _, (c_wire_Read_0 bs hb).mono ?_⟩
  rintro d l ⟨rfl, rfl⟩
  refine ⟨rfl, fun k hk => absurd hk (Nat.not_lt_zero k), rfl, ?_⟩
  have cr := c_plan_Read bs hb ⟨0, 0, 0⟩ (Nat.zero_le _)
  unfold decD decE
  generalize plnR bs ⟨0, 0, 0⟩ = x at cr ⊢
  obtain ⟨rd, p⟩ := x
  refine ⟨rfl, Nat.le_refl 0, cr.mono ?_⟩
  rintro d l ⟨⟨sz, rfl, hsz⟩, rfl⟩
  refine ⟨rfl, fun k hk => absurd hk (Nat.not_lt_zero k), rfl, ?_⟩
  have ce := c_wire_Reader_End bs rd
  simp only at ce ⊢
  generalize endRd bs rd = y at ce ⊢
  obtain ⟨e, re⟩ := y
  simp only at ce ⊢
  refine ⟨rfl, Nat.le_refl 0, (ce).mono ?_⟩
  rintro d l ⟨rfl, rfl⟩
  refine ⟨rfl, fun k hk => absurd hk (Nat.not_lt_zero k), rfl, ?_⟩
  refine And.intro (fun h0 => ?_) (fun h0 => ?_)
  · have h0 : e = 0 := of_decide_eq_true h0
    subst h0
    simp only [if_true]
    repeat (first | refine And.intro (fun _ => ?_) (fun h => Bool.noConfusion h) | refine And.intro (fun h => Bool.noConfusion h) (fun _ => ?_))
    refine ⟨rfl, Nat.zero_le _, (c_plan_Right p (r := 1) (sto := stRd bs re) (Nat.le_refl 1)).mono ?_⟩
    rintro d l ⟨hd, rfl⟩
    cases hr : rightP p with
    | true =>
      rw [hr] at hd
      subst hd
      refine ⟨rfl, fun _ _ => rfl, rfl, ?_⟩
      repeat (first | refine And.intro (fun _ => ?_) (fun h => Bool.noConfusion h) | refine And.intro (fun h => Bool.noConfusion h) (fun _ => ?_))
      simp only [if_true]
      exact rfl
    | false =>
      rw [hr] at hd
      subst hd
      refine ⟨rfl, fun _ _ => rfl, rfl, ?_⟩
      repeat (first | refine And.intro (fun _ => ?_) (fun h => Bool.noConfusion h) | refine And.intro (fun h => Bool.noConfusion h) (fun _ => ?_))
      simp
      exact rfl
  · have h0 : ¬ e = 0 := of_decide_eq_false h0
    rw [if_neg h0, if_neg h0]
    repeat (first | refine And.intro (fun _ => ?_) (fun h => Bool.noConfusion h) | refine And.intro (fun h => Bool.noConfusion h) (fun _ => ?_))
    refine And.intro (fun _ => ?_) (fun h => absurd (nd_false h) h0)
    exact rfl
theorem c_plan_Decode_0 (bs : List Int) (hb : bs.length ≤ 140737488351232) : Tri Try.prog 18 0 [.list .imm (bs.map rowB)] [] (fun d k => d = decD bs ∧ k = []) :=
  Tri.forget (c_plan_Decode_1 bs hb) (fun d l h _ => ⟨0, Nat.zero_le _, Nat.zero_le _, by rw [h]; exact nrB_nr (decD_ok bs).2, fun o ho => absurd ho (by simp), h, rfl⟩)
set_option maxHeartbeats 4000000 in
theorem c_drayref9_Decode_1 (bs : List Int) (hb : bs.length ≤ 140737488351232) : Tri Try.prog 33 0 [.list .imm (bs.map rowB)] [] (fun d k => d = decD bs) := by
  refine Tri.walk2 (L := LT) (c := {n := 24, ko := [2, 3]}) [(55,1,[]),(56,1,[])] [0, 2, 3, 4, 5, 6, 19, 21] hLT hmix Try.func33 rfl rfl ⟨rfl, rfl⟩ (by show 1 ≤ 24; decide) (by first | exact Nat.zero_le _ | exact Nat.le_refl _ | decide) ?_
  refine ⟨rfl, Nat.zero_le _, (c_drayref3_Read_0 bs hb).mono ?_⟩
  rintro d l ⟨rfl, rfl⟩
  refine ⟨rfl, fun k hk => absurd hk (Nat.not_lt_zero k), rfl, ?_⟩
  have cr := c_drayref9_Take bs hb ⟨0, 0, 0⟩ (Nat.zero_le _)
  unfold decD decE
  generalize plnR bs ⟨0, 0, 0⟩ = x at cr ⊢
  obtain ⟨rd, p⟩ := x
  refine ⟨rfl, Nat.le_refl 0, cr.mono ?_⟩
  rintro d l ⟨⟨sz, rfl, hsz⟩, rfl⟩
  refine ⟨rfl, fun k hk => absurd hk (Nat.not_lt_zero k), rfl, ?_⟩
  have ce := c_drayref3_Reader_End bs rd
  simp only at ce ⊢
  generalize endRd bs rd = y at ce ⊢
  obtain ⟨e, re⟩ := y
  simp only at ce ⊢
  refine ⟨rfl, Nat.le_refl 0, (ce).mono ?_⟩
  rintro d l ⟨rfl, rfl⟩
  refine ⟨rfl, fun k hk => absurd hk (Nat.not_lt_zero k), rfl, ?_⟩
  refine And.intro (fun h0 => ?_) (fun h0 => ?_)
  · have h0 : e = 0 := of_decide_eq_true h0
    subst h0
    simp only [if_true]
    repeat (first | refine And.intro (fun _ => ?_) (fun h => Bool.noConfusion h) | refine And.intro (fun h => Bool.noConfusion h) (fun _ => ?_))
    refine ⟨rfl, Nat.zero_le _, (c_drayref9_Right p (r := 1) (sto := stX bs re) (Nat.le_refl 1)).mono ?_⟩
    rintro d l ⟨hd, rfl⟩
    cases hr : rightP p with
    | true =>
      rw [hr] at hd
      subst hd
      refine ⟨rfl, fun _ _ => rfl, rfl, ?_⟩
      repeat (first | refine And.intro (fun _ => ?_) (fun h => Bool.noConfusion h) | refine And.intro (fun h => Bool.noConfusion h) (fun _ => ?_))
      simp only [if_true]
      exact rfl
    | false =>
      rw [hr] at hd
      subst hd
      refine ⟨rfl, fun _ _ => rfl, rfl, ?_⟩
      repeat (first | refine And.intro (fun _ => ?_) (fun h => Bool.noConfusion h) | refine And.intro (fun h => Bool.noConfusion h) (fun _ => ?_))
      simp
      exact rfl
  · have h0 : ¬ e = 0 := of_decide_eq_false h0
    rw [if_neg h0, if_neg h0]
    repeat (first | refine And.intro (fun _ => ?_) (fun h => Bool.noConfusion h) | refine And.intro (fun h => Bool.noConfusion h) (fun _ => ?_))
    refine And.intro (fun _ => ?_) (fun h => absurd (nd_false h) h0)
    exact rfl
theorem c_drayref9_Decode_0 (bs : List Int) (hb : bs.length ≤ 140737488351232) : Tri Try.prog 33 0 [.list .imm (bs.map rowB)] [] (fun d k => d = decD bs ∧ k = []) :=
  Tri.forget (c_drayref9_Decode_1 bs hb) (fun d l h _ => ⟨0, Nat.zero_le _, Nat.zero_le _, by rw [h]; exact nrB_nr (decD_ok bs).2, fun o ho => absurd ho (by simp), h, rfl⟩)
end Go.Lv

namespace Go.Lv
open Go.Proofs

structure szQ (p : Pln) : Prop where
  len : p.length * 40 ≤ 140737488351232
  st : ∀ r, r ∈ p → r.st.length * 16 ≤ 140737488351232
theorem szQ.P {p : Pln} (h : szQ p) : szP p := ⟨by have := h.len; omega, fun r hr => by have := h.st r hr; omega⟩
theorem take_ext {α : Type} {a b : List α} {i : Nat} (h : a.length = b.length) (hi : i < a.length) (ht : a.take i = b.take i) (he : a[i] = b[i]'(by omega)) : a.take (i + 1) = b.take (i + 1) := by
  rw [List.take_succ_eq_append_getElem hi, List.take_succ_eq_append_getElem (by omega), ht, he]
noncomputable def sSs (al bl : List Stp) (i : Nat) : DS := ⟨[(0, .list .imm (al.map rowS)), (1, .list .imm (bl.map rowS)), (5, .int .i64 (i : Int)), (4, .bool false)], [], [], mR 0⟩
set_option maxHeartbeats 4000000 in
theorem c_draybook_Same_Stop_0 (al bl : List Stp) (ha : al.length ≤ 1000000000000000) (hb : bl.length ≤ 1000000000000000) :
    Tri Try.prog 16 0 [.list .imm (al.map rowS), .list .imm (bl.map rowS)] [] (fun d l => d = .bool (decide (al = bl)) ∧ l = []) := by
  refine Tri.walk2 (L := LT) (c := {n := 26, ko := [4]}) [] [0, 1, 4, 5, 10, 14, 25] hLT hmix Try.func16 rfl rfl ⟨rfl, rfl⟩ (by show 2 ≤ 26; decide) (by first | exact Nat.zero_le _ | exact Nat.le_refl _ | decide) ?_
  refine And.intro (fun h0 => ?_) (fun h0 => ?_)
  · have h0 := nd_true h0
    rw [List.length_map, List.length_map] at h0
    rw [decide_eq_false (fun e => h0 (by rw [e]))]
    exact And.intro rfl rfl
  have h0 := nd_false h0
  rw [List.length_map, List.length_map] at h0
  have h0 : al.length = bl.length := by omega
  show Ok _ _ _ _ _
  refine Ok.loopN hLT hmix [] [0, 1, 4, 5, 10, 14, 25] [0,1,5,4] [] (fun n s => ∃ i : Nat, n = al.length - i ∧ i ≤ al.length ∧ al.take i = bl.take i ∧ s = sSs al bl i) (n := al.length) ⟨0, rfl, Nat.zero_le _, by simp, rfl⟩ ?_
  rintro n s ⟨i, rfl, hi, ht, rfl⟩
  refine And.intro (fun h1 => ?_) (fun h1 => ?_)
  · have h1 : ((i : Nat) : Int) < ((al.map rowS).length : Int) := of_decide_eq_true h1
    rw [List.length_map] at h1
    have hw := wrap_succ (i := i) (n := al.length) (by omega) ha
    refine ⟨⟨511, [0, 0, 3, 4, 0, 0, 48, 64, 136], [1, 2, 7, 15, 16, 32, 112, 240, 511]⟩, by kernel_rfl, ?_⟩
    refine ⟨(al).map rowS, rowS ((al)[i]'(by omega)), rfl, by omega, row_at' rowS (al) (by omega) (by omega), rfl, of_decide_eq_true rfl, ?_⟩
    refine And.intro rfl ?_
    refine ⟨(bl).map rowS, rowS ((bl)[i]'(by omega)), rfl, by omega, row_at' rowS (bl) (by omega) (by omega), rfl, of_decide_eq_true rfl, ?_⟩
    refine And.intro rfl ?_
    refine And.intro (fun h2 => ?_) (fun h2 => ?_)
    · have h2 := stp_ne (a := al[i]) (b := bl[i]) (by rw [Bool.not_eq_true'] at h2; exact h2)
      rw [decide_eq_false (fun e => h2 (by subst e; rfl))]
      exact And.intro rfl rfl
    · have h2 := stp_eq (a := al[i]) (b := bl[i]) (by rw [Bool.not_eq_false'] at h2; exact h2)
      refine ⟨al.length - (i + 1), by omega, i + 1, rfl, by omega, take_ext h0 (by omega) ht h2, ?_⟩
      unfold sSs
      rw [← hw]
      rfl
  · have h1 : ¬ ((i : Nat) : Int) < ((al.map rowS).length : Int) := of_decide_eq_false h1
    rw [List.length_map] at h1
    rw [List.take_of_length_le (by omega), List.take_of_length_le (by omega)] at ht
    rw [decide_eq_true ht]
    exact And.intro rfl rfl
theorem c_draybook_Same_Stop (al bl : List Stp) (ha : al.length ≤ 1000000000000000) (hb : bl.length ≤ 1000000000000000) {r : Nat} {sto : List Ob} (hr : r ≤ sto.length) :
    Tri Try.prog 16 r [.list .imm (al.map rowS), .list .imm (bl.map rowS)] sto (fun d l => d = .bool (decide (al = bl)) ∧ l = sto) :=
  (c_draybook_Same_Stop_0 al bl ha hb).pure rfl (nrBL_S (nrBL_S rfl)) rfl rfl hr
noncomputable def sRs (p q : Pln) (i : Nat) : DS := ⟨[(0, encP p), (1, encP q), (5, .int .i64 (i : Int)), (4, .bool false)], [], [], mR 0⟩
set_option maxHeartbeats 8000000 in
theorem c_draykeep_Routes_0 (p q : Pln) (hp : szP p) (hq : szP q) : Tri Try.prog 17 0 [encP p, encP q] [] (fun d l => d = .bool (decide (p = q)) ∧ l = []) := by
  refine Tri.walk2 (L := LT) (c := {n := 55, ko := [4]}) [] [0, 1, 4, 5, 10, 14, 54] hLT hmix Try.func17 rfl rfl ⟨rfl, rfl⟩ (by show 2 ≤ 55; decide) (by first | exact Nat.zero_le _ | exact Nat.le_refl _ | decide) ?_
  refine And.intro (fun h0 => ?_) (fun h0 => ?_)
  · have h0 := nd_true h0
    rw [List.length_map, List.length_map] at h0
    rw [decide_eq_false (fun e => h0 (by rw [e]))]
    exact And.intro rfl rfl
  have h0 := nd_false h0
  rw [List.length_map, List.length_map] at h0
  have h0 : p.length = q.length := by omega
  show Ok _ _ _ _ _
  refine Ok.loopN hLT hmix [] [0, 1, 4, 5, 10, 14, 54] [0,1,5,4] [] (fun n s => ∃ i : Nat, n = p.length - i ∧ i ≤ p.length ∧ p.take i = q.take i ∧ s = sRs p q i) (n := p.length) ⟨0, rfl, Nat.zero_le _, by simp, rfl⟩ ?_
  rintro n s ⟨i, rfl, hi, ht, rfl⟩
  refine And.intro (fun h1 => ?_) (fun h1 => ?_)
  · have h1 : ((i : Nat) : Int) < ((p.map rowR).length : Int) := of_decide_eq_true h1
    rw [List.length_map] at h1
    have hip : i < p.length := by omega
    have hiq : i < q.length := by omega
    have hw := wrap_succ (i := i) (n := p.length) (by omega) hp.len
    have hps := hp.st p[i] (List.getElem_mem _)
    have hqs := hq.st q[i] (List.getElem_mem _)
    have hne : p[i] ≠ q[i] → .bool false = D.bool (decide (p = q)) := fun h => by rw [decide_eq_false (fun e => h (by subst e; rfl))]
    refine ⟨⟨274877906943, [0, 0, 3, 4, 8, 0, 0, 96, 128, 256, 528, 1024, 2048, 2048, 14336, 18432, 34816, 2048, 2048, 395264, 526336, 1050624, 2164736, 4196352, 8390656, 16777216, 16777216, 117440512, 150994944, 285212672, 16777216, 16777216, 3238002688, 4311744512, 8606711808, 17733517312, 34376515584, 68736253952], [1, 2, 7, 15, 31, 32, 64, 224, 480, 992, 2047, 4095, 8191, 12287, 32767, 65535, 131071, 135167, 266239, 921599, 1970175, 4067327, 8388607, 16777215, 33554431, 67108863, 100663295, 268435455, 536870911, 1073741823, 1107296255, 2181038079, 7549747199, 16139681791, 33319550975, 68719476735, 137438953471, 274877906943]⟩, by kernel_rfl, ?_⟩
    refine ⟨(p).map rowR, rowR ((p)[i]'(by omega)), rfl, by omega, row_at' rowR (p) (by omega) (by omega), rfl, of_decide_eq_true rfl, ?_⟩
    refine And.intro rfl ?_
    refine ⟨(q).map rowR, rowR ((q)[i]'(by omega)), rfl, by omega, row_at' rowR (q) (by omega) (by omega), rfl, of_decide_eq_true rfl, ?_⟩
    refine And.intro rfl ?_
    refine And.intro (fun h2 => ?_) (fun h2 => ?_)
    · repeat (first | refine And.intro (fun _ => ?_) (fun h => Bool.noConfusion h) | refine And.intro (fun h => Bool.noConfusion h) (fun _ => ?_))
      exact And.intro (hne (fun e => nd_true h2 (by rw [e]))) rfl
    have h2 : p[i].drv = q[i].drv := nd_false h2
    repeat (first | refine And.intro (fun _ => ?_) (fun h => Bool.noConfusion h) | refine And.intro (fun h => Bool.noConfusion h) (fun _ => ?_))
    refine ⟨(p).map rowR, rowR ((p)[i]'(by omega)), rfl, by omega, row_at' rowR (p) (by omega) (by omega), rfl, of_decide_eq_true rfl, ?_⟩
    refine And.intro rfl ?_
    refine ⟨(q).map rowR, rowR ((q)[i]'(by omega)), rfl, by omega, row_at' rowR (q) (by omega) (by omega), rfl, of_decide_eq_true rfl, ?_⟩
    refine And.intro rfl ?_
    refine And.intro (fun h3 => ?_) (fun h3 => ?_)
    · repeat (first | refine And.intro (fun _ => ?_) (fun h => Bool.noConfusion h) | refine And.intro (fun h => Bool.noConfusion h) (fun _ => ?_))
      exact And.intro (hne (fun e => nd_true h3 (by rw [e]))) rfl
    have h3 : p[i].srv = q[i].srv := nd_false h3
    repeat (first | refine And.intro (fun _ => ?_) (fun h => Bool.noConfusion h) | refine And.intro (fun h => Bool.noConfusion h) (fun _ => ?_))
    refine ⟨(p).map rowR, rowR ((p)[i]'(by omega)), rfl, by omega, row_at' rowR (p) (by omega) (by omega), rfl, of_decide_eq_true rfl, ?_⟩
    refine And.intro rfl ?_
    refine ⟨(q).map rowR, rowR ((q)[i]'(by omega)), rfl, by omega, row_at' rowR (q) (by omega) (by omega), rfl, of_decide_eq_true rfl, ?_⟩
    refine And.intro rfl ?_
    refine And.intro ?_ trivial
    refine ⟨rfl, (by first | exact Nat.zero_le _ | decide), (c_draybook_Same_Stop_0 p[i].st q[i].st hps hqs).mono ?_⟩
    rintro d l ⟨rfl, rfl⟩
    refine ⟨rfl, fun _ _ => rfl, rfl, ?_⟩
    by_cases h4 : p[i].st = q[i].st
    · rw [decide_eq_true h4]
      refine And.intro (by repeat (first | exact trivial | refine And.intro ⟨rfl, rfl⟩ ?_ | refine And.intro ⟨_, _, rfl, by omega, row_at' _ _ rfl (by omega), rfl, of_decide_eq_true rfl, And.intro rfl (And.intro rfl rfl)⟩ ?_)) ?_
      repeat (first | refine And.intro (fun _ => ?_) (fun h => Bool.noConfusion h) | refine And.intro (fun h => Bool.noConfusion h) (fun _ => ?_))
      have he : p[i] = q[i] := by
        have e1 : p[i] = ⟨p[i].drv, p[i].srv, p[i].st⟩ := rfl
        rw [e1, h2, h3, h4]
      refine ⟨p.length - (i + 1), by omega, i + 1, rfl, by omega, take_ext h0 hip ht he, ?_⟩
      unfold sRs
      rw [← hw]
      rfl
    · rw [decide_eq_false h4]
      refine And.intro (by repeat (first | exact trivial | refine And.intro ⟨rfl, rfl⟩ ?_ | refine And.intro ⟨_, _, rfl, by omega, row_at' _ _ rfl (by omega), rfl, of_decide_eq_true rfl, And.intro rfl (And.intro rfl rfl)⟩ ?_)) ?_
      repeat (first | refine And.intro (fun _ => ?_) (fun h => Bool.noConfusion h) | refine And.intro (fun h => Bool.noConfusion h) (fun _ => ?_))
      exact And.intro (hne (fun e => h4 (by rw [e]))) rfl
  · have h1 : ¬ ((i : Nat) : Int) < ((p.map rowR).length : Int) := of_decide_eq_false h1
    rw [List.length_map] at h1
    rw [List.take_of_length_le (by omega), List.take_of_length_le (by omega)] at ht
    rw [decide_eq_true ht]
    exact And.intro rfl rfl
theorem c_draykeep_Routes (p q : Pln) (hp : szP p) (hq : szP q) {r : Nat} {sto : List Ob} (hr : r ≤ sto.length) : Tri Try.prog 17 r [encP p, encP q] sto (fun d l => d = .bool (decide (p = q)) ∧ l = sto) :=
  (c_draykeep_Routes_0 p q hp hq).pure rfl (nrBL_P (nrBL_P rfl)) rfl rfl hr
theorem allLenS (l : List Stp) : allLen 2 (l.map rowS) = true := by simp [allLen, rowS]
noncomputable def sCp (p : Pln) (sz i : Nat) : DS := ⟨[(0, encP p), (3, .list (.own sz) ((p.take i).map rowR)), (4, .int .i64 (i : Int)), (2, .list (.own 0) [])], [], [], mR 0⟩
noncomputable def copD (p : Pln) (d : D) : Prop := ∃ sz, d = .list (.own sz) (p.map rowR) ∧ (sz = 0 ∨ sz = 3)
set_option maxHeartbeats 8000000 in
theorem c_draykeep_Copy_0 (p : Pln) (hp : szQ p) : Tri Try.prog 25 0 [encP p] [] (fun d l => copD p d ∧ l = []) := by
  refine Tri.walk2 (L := LT) (c := {n := 33, ko := [2, 3], xf := [11, 32]}) [] [0, 2, 3, 4, 8] hLT hmix Try.func25 rfl rfl ⟨rfl, rfl⟩ (by show 1 ≤ 33; decide) (by first | exact Nat.zero_le _ | exact Nat.le_refl _ | decide) ?_
  show Ok _ _ _ _ _
  refine Ok.loopN hLT hmix [] [0, 2, 3, 4, 8] [0,3,4,2] [] (fun n s => ∃ i sz : Nat, n = p.length - i ∧ i ≤ p.length ∧ (sz = 0 ∨ sz = 3) ∧ s = sCp p sz i) (n := p.length) ⟨0, 0, rfl, Nat.zero_le _, .inl rfl, rfl⟩ ?_
  rintro n s ⟨i, sz, rfl, hi, hsz, rfl⟩
  have hpl := hp.len
  refine And.intro (fun h1 => ?_) (fun h1 => ?_)
  · have h1 : ((i : Nat) : Int) < ((p.map rowR).length : Int) := of_decide_eq_true h1
    rw [List.length_map] at h1
    have hip : i < p.length := by omega
    have hw := wrap_succ (i := i) (n := p.length) (by omega) (by omega)
    have hps := hp.st p[i] (List.getElem_mem _)
    refine ⟨⟨2097151, [0, 0, 0, 6, 8, 16, 0, 0, 192, 256, 512, 0, 0, 0, 12288, 16384, 32768, 67584, 132128, 262144, 655361, 2097151], [1, 2, 4, 14, 30, 62, 64, 128, 448, 960, 1984, 2048, 4096, 8192, 28672, 61440, 126976, 260096, 524286, 1048574, 2097151, 4194303]⟩, by kernel_rfl, ?_⟩
    refine ⟨(p).map rowR, rowR ((p)[i]'(by omega)), rfl, by omega, row_at' rowR (p) (by omega) (by omega), rfl, of_decide_eq_true rfl, ?_⟩
    refine And.intro rfl ?_
    refine ⟨(p).map rowR, rowR ((p)[i]'(by omega)), rfl, by omega, row_at' rowR (p) (by omega) (by omega), rfl, of_decide_eq_true rfl, ?_⟩
    refine And.intro rfl ?_
    refine ⟨(p).map rowR, rowR ((p)[i]'(by omega)), rfl, by omega, row_at' rowR (p) (by omega) (by omega), rfl, of_decide_eq_true rfl, ?_⟩
    refine And.intro rfl ?_
    have hrm1 : (0 + (p[i].st.map rowS).length) * 16 ≤ 140737488355328 := by
      rw [List.length_map]
      omega
    have hrm2 : (((p.take i).map rowR).length + 1) * 40 ≤ 140737488355328 := by
      rw [List.length_map, List.length_take]
      omega
    have hszk : ((sz == 0 || sz == LT.size 26) && decide (0 < LT.size 26) && decide (0 < LT.bytes 26) && (LT.zero 26).isSome) = true := by rcases hsz with rfl | rfl <;> rfl
    refine And.intro ?_ (And.intro ?_ trivial)
    · refine And.intro (by repeat (first | exact trivial | refine And.intro ⟨rfl, rfl⟩ ?_ | refine And.intro ⟨_, _, rfl, by omega, row_at' _ _ rfl (by omega), rfl, of_decide_eq_true rfl, And.intro rfl (And.intro rfl rfl)⟩ ?_)) ?_
      refine And.intro ?_ trivial
      refine And.intro (by repeat (first | exact trivial | refine And.intro ⟨rfl, rfl⟩ ?_ | refine And.intro ⟨_, _, rfl, by omega, row_at' _ _ rfl (by omega), rfl, of_decide_eq_true rfl, And.intro rfl (And.intro rfl rfl)⟩ ?_)) ?_
      refine And.intro ?_ trivial
      refine And.intro trivial (And.intro rfl (And.intro hrm1 (And.intro (allLenS _) ?_)))
      refine And.intro (by repeat (first | exact trivial | refine And.intro ⟨rfl, rfl⟩ ?_ | refine And.intro ⟨_, _, rfl, by omega, row_at' _ _ rfl (by omega), rfl, of_decide_eq_true rfl, And.intro rfl (And.intro rfl rfl)⟩ ?_)) ?_
      refine And.intro ?_ trivial
      refine And.intro (by repeat (first | exact trivial | refine And.intro ⟨rfl, rfl⟩ ?_ | refine And.intro ⟨_, _, rfl, by omega, row_at' _ _ rfl (by omega), rfl, of_decide_eq_true rfl, And.intro rfl (And.intro rfl rfl)⟩ ?_)) ?_
      refine And.intro ?_ trivial
      refine And.intro (by repeat (first | exact trivial | refine And.intro ⟨rfl, rfl⟩ ?_ | refine And.intro ⟨_, _, rfl, by omega, row_at' _ _ rfl (by omega), rfl, of_decide_eq_true rfl, And.intro rfl (And.intro rfl rfl)⟩ ?_)) ?_
      refine And.intro ?_ trivial
      refine And.intro trivial (And.intro hszk (And.intro hrm2 (And.intro rfl ?_)))
      refine And.intro (by repeat (first | exact trivial | refine And.intro ⟨rfl, rfl⟩ ?_ | refine And.intro ⟨_, _, rfl, by omega, row_at' _ _ rfl (by omega), rfl, of_decide_eq_true rfl, And.intro rfl (And.intro rfl rfl)⟩ ?_)) ?_
      refine And.intro ?_ trivial
      refine And.intro (by repeat (first | exact trivial | refine And.intro ⟨rfl, rfl⟩ ?_ | refine And.intro ⟨_, _, rfl, by omega, row_at' _ _ rfl (by omega), rfl, of_decide_eq_true rfl, And.intro rfl (And.intro rfl rfl)⟩ ?_)) ?_
      refine ⟨p.length - (i + 1), by omega, i + 1, 3, rfl, by omega, .inr rfl, ?_⟩
      unfold sCp
      rw [← hw, List.take_succ_eq_append_getElem hip, List.map_append]
      rfl
    refine And.intro (by repeat (first | exact trivial | refine And.intro ⟨rfl, rfl⟩ ?_ | refine And.intro ⟨_, _, rfl, by omega, row_at' _ _ rfl (by omega), rfl, of_decide_eq_true rfl, And.intro rfl (And.intro rfl rfl)⟩ ?_)) ?_
    refine And.intro ?_ (And.intro ?_ trivial)
    · refine And.intro (by repeat (first | exact trivial | refine And.intro ⟨rfl, rfl⟩ ?_ | refine And.intro ⟨_, _, rfl, by omega, row_at' _ _ rfl (by omega), rfl, of_decide_eq_true rfl, And.intro rfl (And.intro rfl rfl)⟩ ?_)) ?_
      refine And.intro ?_ trivial
      refine And.intro trivial (And.intro rfl (And.intro hrm1 (And.intro (allLenS _) ?_)))
      refine And.intro (by repeat (first | exact trivial | refine And.intro ⟨rfl, rfl⟩ ?_ | refine And.intro ⟨_, _, rfl, by omega, row_at' _ _ rfl (by omega), rfl, of_decide_eq_true rfl, And.intro rfl (And.intro rfl rfl)⟩ ?_)) ?_
      refine And.intro ?_ trivial
      refine And.intro (by repeat (first | exact trivial | refine And.intro ⟨rfl, rfl⟩ ?_ | refine And.intro ⟨_, _, rfl, by omega, row_at' _ _ rfl (by omega), rfl, of_decide_eq_true rfl, And.intro rfl (And.intro rfl rfl)⟩ ?_)) ?_
      refine And.intro ?_ trivial
      refine And.intro (by repeat (first | exact trivial | refine And.intro ⟨rfl, rfl⟩ ?_ | refine And.intro ⟨_, _, rfl, by omega, row_at' _ _ rfl (by omega), rfl, of_decide_eq_true rfl, And.intro rfl (And.intro rfl rfl)⟩ ?_)) ?_
      refine And.intro ?_ trivial
      refine And.intro trivial (And.intro hszk (And.intro hrm2 (And.intro rfl ?_)))
      refine And.intro (by repeat (first | exact trivial | refine And.intro ⟨rfl, rfl⟩ ?_ | refine And.intro ⟨_, _, rfl, by omega, row_at' _ _ rfl (by omega), rfl, of_decide_eq_true rfl, And.intro rfl (And.intro rfl rfl)⟩ ?_)) ?_
      refine And.intro ?_ trivial
      refine And.intro (by repeat (first | exact trivial | refine And.intro ⟨rfl, rfl⟩ ?_ | refine And.intro ⟨_, _, rfl, by omega, row_at' _ _ rfl (by omega), rfl, of_decide_eq_true rfl, And.intro rfl (And.intro rfl rfl)⟩ ?_)) ?_
      refine ⟨p.length - (i + 1), by omega, i + 1, 3, rfl, by omega, .inr rfl, ?_⟩
      unfold sCp
      rw [← hw, List.take_succ_eq_append_getElem hip, List.map_append]
      rfl
    refine And.intro trivial (And.intro rfl (And.intro hrm1 (And.intro (allLenS _) ?_)))
    refine And.intro (by repeat (first | exact trivial | refine And.intro ⟨rfl, rfl⟩ ?_ | refine And.intro ⟨_, _, rfl, by omega, row_at' _ _ rfl (by omega), rfl, of_decide_eq_true rfl, And.intro rfl (And.intro rfl rfl)⟩ ?_)) ?_
    refine And.intro ?_ (And.intro ?_ trivial)
    · refine And.intro (by repeat (first | exact trivial | refine And.intro ⟨rfl, rfl⟩ ?_ | refine And.intro ⟨_, _, rfl, by omega, row_at' _ _ rfl (by omega), rfl, of_decide_eq_true rfl, And.intro rfl (And.intro rfl rfl)⟩ ?_)) ?_
      refine And.intro ?_ trivial
      refine And.intro (by repeat (first | exact trivial | refine And.intro ⟨rfl, rfl⟩ ?_ | refine And.intro ⟨_, _, rfl, by omega, row_at' _ _ rfl (by omega), rfl, of_decide_eq_true rfl, And.intro rfl (And.intro rfl rfl)⟩ ?_)) ?_
      refine And.intro ?_ trivial
      refine And.intro (by repeat (first | exact trivial | refine And.intro ⟨rfl, rfl⟩ ?_ | refine And.intro ⟨_, _, rfl, by omega, row_at' _ _ rfl (by omega), rfl, of_decide_eq_true rfl, And.intro rfl (And.intro rfl rfl)⟩ ?_)) ?_
      refine And.intro ?_ trivial
      refine And.intro trivial (And.intro hszk (And.intro hrm2 (And.intro rfl ?_)))
      refine And.intro (by repeat (first | exact trivial | refine And.intro ⟨rfl, rfl⟩ ?_ | refine And.intro ⟨_, _, rfl, by omega, row_at' _ _ rfl (by omega), rfl, of_decide_eq_true rfl, And.intro rfl (And.intro rfl rfl)⟩ ?_)) ?_
      refine And.intro ?_ trivial
      refine And.intro (by repeat (first | exact trivial | refine And.intro ⟨rfl, rfl⟩ ?_ | refine And.intro ⟨_, _, rfl, by omega, row_at' _ _ rfl (by omega), rfl, of_decide_eq_true rfl, And.intro rfl (And.intro rfl rfl)⟩ ?_)) ?_
      refine ⟨p.length - (i + 1), by omega, i + 1, 3, rfl, by omega, .inr rfl, ?_⟩
      unfold sCp
      rw [← hw, List.take_succ_eq_append_getElem hip, List.map_append]
      rfl
    refine And.intro (by repeat (first | exact trivial | refine And.intro ⟨rfl, rfl⟩ ?_ | refine And.intro ⟨_, _, rfl, by omega, row_at' _ _ rfl (by omega), rfl, of_decide_eq_true rfl, And.intro rfl (And.intro rfl rfl)⟩ ?_)) ?_
    refine And.intro ?_ (And.intro ?_ trivial)
    · refine And.intro (by repeat (first | exact trivial | refine And.intro ⟨rfl, rfl⟩ ?_ | refine And.intro ⟨_, _, rfl, by omega, row_at' _ _ rfl (by omega), rfl, of_decide_eq_true rfl, And.intro rfl (And.intro rfl rfl)⟩ ?_)) ?_
      refine And.intro ?_ trivial
      refine And.intro (by repeat (first | exact trivial | refine And.intro ⟨rfl, rfl⟩ ?_ | refine And.intro ⟨_, _, rfl, by omega, row_at' _ _ rfl (by omega), rfl, of_decide_eq_true rfl, And.intro rfl (And.intro rfl rfl)⟩ ?_)) ?_
      refine And.intro ?_ trivial
      refine And.intro trivial (And.intro hszk (And.intro hrm2 (And.intro rfl ?_)))
      refine And.intro (by repeat (first | exact trivial | refine And.intro ⟨rfl, rfl⟩ ?_ | refine And.intro ⟨_, _, rfl, by omega, row_at' _ _ rfl (by omega), rfl, of_decide_eq_true rfl, And.intro rfl (And.intro rfl rfl)⟩ ?_)) ?_
      refine And.intro ?_ trivial
      refine And.intro (by repeat (first | exact trivial | refine And.intro ⟨rfl, rfl⟩ ?_ | refine And.intro ⟨_, _, rfl, by omega, row_at' _ _ rfl (by omega), rfl, of_decide_eq_true rfl, And.intro rfl (And.intro rfl rfl)⟩ ?_)) ?_
      refine ⟨p.length - (i + 1), by omega, i + 1, 3, rfl, by omega, .inr rfl, ?_⟩
      unfold sCp
      rw [← hw, List.take_succ_eq_append_getElem hip, List.map_append]
      rfl
    refine And.intro (by repeat (first | exact trivial | refine And.intro ⟨rfl, rfl⟩ ?_ | refine And.intro ⟨_, _, rfl, by omega, row_at' _ _ rfl (by omega), rfl, of_decide_eq_true rfl, And.intro rfl (And.intro rfl rfl)⟩ ?_)) ?_
    refine And.intro ?_ trivial
    refine And.intro (by repeat (first | exact trivial | refine And.intro ⟨rfl, rfl⟩ ?_ | refine And.intro ⟨_, _, rfl, by omega, row_at' _ _ rfl (by omega), rfl, of_decide_eq_true rfl, And.intro rfl (And.intro rfl rfl)⟩ ?_)) ?_
    refine And.intro ?_ trivial
    refine And.intro trivial (And.intro hszk (And.intro hrm2 (And.intro rfl ?_)))
    refine And.intro (by repeat (first | exact trivial | refine And.intro ⟨rfl, rfl⟩ ?_ | refine And.intro ⟨_, _, rfl, by omega, row_at' _ _ rfl (by omega), rfl, of_decide_eq_true rfl, And.intro rfl (And.intro rfl rfl)⟩ ?_)) ?_
    refine And.intro ?_ trivial
    refine And.intro (by repeat (first | exact trivial | refine And.intro ⟨rfl, rfl⟩ ?_ | refine And.intro ⟨_, _, rfl, by omega, row_at' _ _ rfl (by omega), rfl, of_decide_eq_true rfl, And.intro rfl (And.intro rfl rfl)⟩ ?_)) ?_
    refine ⟨p.length - (i + 1), by omega, i + 1, 3, rfl, by omega, .inr rfl, ?_⟩
    unfold sCp
    rw [← hw, List.take_succ_eq_append_getElem hip, List.map_append]
    rfl
  · have h1 : ¬ ((i : Nat) : Int) < ((p.map rowR).length : Int) := of_decide_eq_false h1
    rw [List.length_map] at h1
    rw [List.take_of_length_le (by omega)]
    exact And.intro ⟨sz, rfl, hsz⟩ rfl
theorem copD_ok {p : Pln} {d : D} (h : copD p d) : partsOK d = true ∧ nrB 0 d = true := by
  obtain ⟨sz, rfl, _⟩ := h
  exact ⟨rfl, nrBLL_P p⟩
theorem c_draykeep_Copy (p : Pln) (hp : szQ p) {r : Nat} {sto : List Ob} (hr : r ≤ sto.length) : Tri Try.prog 25 r [encP p] sto (fun d l => copD p d ∧ l = sto) :=
  (c_draykeep_Copy_0 p hp).pureR rfl (nrBL_P rfl) (fun d h => copD_ok h) hr
end Go.Lv

namespace Go.Lv
open Go.Proofs

theorem set_rep {mk : Int} {l : List Int} {m i : Nat} (h : i < m) : (l ++ (List.replicate i mk ++ List.replicate (m - i) 0)).set (l.length + i) mk = l ++ (List.replicate (i + 1) mk ++ List.replicate (m - (i + 1)) 0) := by
  rw [List.set_append_right _ _ (by omega)]
  congr 1
  rw [show l.length + i - l.length = i by omega, List.set_append_right _ _ (by simp)]
  rw [show i - (List.replicate i (mk : Int)).length = 0 by simp, show m - i = (m - (i + 1)) + 1 by omega, List.replicate_succ, List.set_cons_zero, List.replicate_succ' , List.append_assoc]
  rfl
noncomputable def fR (mk : Int) (bs : List Int) (i : Nat) : List Int := bs ++ (List.replicate i mk ++ List.replicate (80 - i) 0)
noncomputable def sR (mk : Int) (bs : List Int) (i : Nat) : DS := ⟨[(0, .list .imm (bs.map rowB)), (1, .int .u8 mk), (5, .list (.own 1) ((fR mk bs i).map rowB)), (6, .int .i64 ((bs.length + i : Nat) : Int)), (4, .list (.own 0) [])], [], [], mR 0⟩
theorem fR_len (mk : Int) (bs : List Int) {i : Nat} (h : i ≤ 80) : (fR mk bs i).length = bs.length + 80 := by
  simp only [fR, List.length_append, List.length_replicate]
  omega
set_option maxHeartbeats 4000000 in
theorem c_draybook_Roomy_byte_0 (mk : Int) (bs : List Int) (hb : bs.length ≤ 140737488351232) :
    Tri Try.prog 32 0 [.list .imm (bs.map rowB), .int .u8 mk] [] (fun d l => d = .list (.own 1) ((bs ++ List.replicate 80 mk).map rowB) ∧ l = []) := by
  refine Tri.walk2 (L := LT) (c := {n := 27, ko := [4, 5], xf := [26]}) [] [0, 1, 4, 5, 6, 19] hLT hmix Try.func32 rfl rfl ⟨rfl, rfl⟩ (by show 2 ≤ 27; decide) (by first | exact Nat.zero_le _ | exact Nat.le_refl _ | decide) ?_
  have hw : IntKind.i64.wrap (((bs.map rowB).length : Int) + 80) = ((bs.length + 80 : Nat) : Int) := by
    rw [List.length_map, wrap64 (by omega) (by omega)]
    omega
  refine And.intro ⟨by rw [hw]; omega, by rw [hw]; omega, by rw [hw]; show ((bs.length + 80 : Nat) : Int) * 1 ≤ 2 * 140737488355328; omega, by rw [hw]; omega, of_decide_eq_true rfl⟩ ?_
  have hrep : List.replicate (IntKind.i64.wrap (((bs.map rowB).length : Int) + 80)).toNat ([D.int .u8 0].map fz) = (List.replicate (bs.length + 80) (0 : Int)).map rowB := by
    rw [hw, Int.toNat_natCast, List.map_replicate]
    rfl
  have hrl : (List.replicate (IntKind.i64.wrap (((bs.map rowB).length : Int) + 80)).toNat ([D.int .u8 0].map fz)).length = bs.length + 80 := by
    rw [hrep]
    simp
  have rest : ∀ zs : List (List D), zs = (fR mk bs 0).map rowB → ∀ c Q, (∀ n s, (∃ i : Nat, n = 80 - i ∧ i ≤ 80 ∧ s = sR mk bs i) → wC Try.prog ⟨LT, {n := 27, ko := [4, 5], xf := [26]}, 0, 0⟩ [] [0, 1, 4, 5, 6, 19] c s (Ex.then (fun s' => ∃ k', k' < n ∧ ∃ i : Nat, k' = 80 - i ∧ i ≤ 80 ∧ nmB [0, 1, 5, 6, 4] [] s' = sR mk bs i) Q)) → Ok Try.prog ⟨LT, {n := 27, ko := [4, 5], xf := [26]}, 0, 0⟩ (.loop c) ⟨[(0, .list .imm (bs.map rowB)), (1, .int .u8 mk), (4, .list (.own 0) []), (5, .list (.own 1) zs), (6, .int .i64 ((bs.map rowB).length : Int))], [], [], mR 0⟩ Q := by
    intro zs hzs c Q hr
    refine Ok.loopN hLT hmix [] [0, 1, 4, 5, 6, 19] [0,1,5,6,4] [] (fun n s => ∃ i : Nat, n = 80 - i ∧ i ≤ 80 ∧ s = sR mk bs i) (n := 80) ⟨0, rfl, by omega, by rw [hzs, List.length_map]; rfl⟩ ?_
    exact hr
  refine copy_any (e := 5) (ys := bs.map rowB) (zs := List.replicate (IntKind.i64.wrap (((bs.map rowB).length : Int) + 80)).toNat ([D.int .u8 0].map fz)) rfl rfl rfl rfl ⟨⟨rfl, rfl⟩, of_decide_eq_true rfl, allLenB' bs⟩ rfl ⟨rfl, rfl⟩ (fun hz => rest _ ?_ _ _ ?_) (fun hz => rest _ ?_ _ _ ?_)
  · rw [hrep]
    show List.take (min (bs.map rowB).length (List.map rowB (List.replicate (bs.length + 80) 0)).length) (bs.map rowB) ++ List.drop (min (bs.map rowB).length (List.map rowB (List.replicate (bs.length + 80) 0)).length) (List.map rowB (List.replicate (bs.length + 80) 0)) = (bs ++ ([] ++ List.replicate 80 0)).map rowB
    rw [List.length_map, List.length_map, List.length_replicate, Nat.min_eq_left (by omega), List.take_of_length_le (by simp), List.nil_append, List.map_append, ← List.map_drop, List.drop_replicate, Nat.add_sub_cancel_left]
  rotate_left
  · rw [hrl, List.length_map] at hz
    have h0 : bs = [] := List.length_eq_zero_iff.1 (show bs.length = 0 by omega)
    rw [hrep, h0]
    rfl
  all_goals
    rintro n s ⟨i, rfl, hi, rfl⟩
    have hl := fR_len mk bs hi
    refine And.intro (fun h1 => ?_) (fun h1 => ?_)
    · have h1 : ((bs.length + i : Nat) : Int) < (((fR mk bs i).map rowB).length : Int) := of_decide_eq_true h1
      rw [List.length_map, hl] at h1
      have hw1 : IntKind.i64.wrap (((bs.length + i : Nat) : Int) + 1) = ((bs.length + (i + 1) : Nat) : Int) := by
        rw [wrap64 (by omega) (by omega)]
        omega
      refine ⟨(fR mk bs i).map rowB, rowB ((fR mk bs i)[bs.length + i]'(by omega)), lsD_cp rfl ⟨rfl, rfl⟩ rfl, by omega, row_at' rowB (fR mk bs i) rfl (by omega), rfl, of_decide_eq_true rfl, ?_⟩
      refine ⟨_, storeD_elem rfl ⟨rfl, of_decide_eq_true rfl⟩ ⟨rfl, rfl⟩ rfl (row_at' rowB (fR mk bs i) rfl (by omega)) rfl, ?_⟩
      refine ⟨80 - (i + 1), by omega, i + 1, rfl, by omega, ?_⟩
      unfold sR
      rw [← hw1]
      have hs : ((fR mk bs i).map rowB).set (bs.length + i) (rowB mk) = (fR mk bs (i + 1)).map rowB := by
        rw [← List.map_set]
        unfold fR
        rw [set_rep (by omega)]
      rw [← hs]
      rfl
    · have h1 : ¬ ((bs.length + i : Nat) : Int) < (((fR mk bs i).map rowB).length : Int) := of_decide_eq_false h1
      rw [List.length_map, hl] at h1
      have : i = 80 := by omega
      subst this
      refine And.intro ?_ rfl
      unfold fR
      simp
noncomputable def roomy (mk : Int) (bs : List Int) : List Int := bs ++ List.replicate 80 mk
theorem roomy_len (mk : Int) (bs : List Int) : (roomy mk bs).length = bs.length + 80 := by simp [roomy]
theorem roomy_at {mk : Int} {bs : List Int} {i : Nat} (h : bs.length ≤ i) (h2 : i < (roomy mk bs).length) : (roomy mk bs)[i] = mk := by
  unfold roomy at h2 ⊢
  rw [List.getElem_append_right h]
  exact List.getElem_replicate _
noncomputable def sV (mk : Int) (bs : List Int) (i : Nat) : DS := ⟨[(0, .list .imm ((roomy mk bs).map rowB)), (1, .list .imm (bs.map rowB)), (2, .int .u8 mk), (7, .int .i64 (i : Int)), (6, .bool false)], [], [], mR 0⟩
set_option maxHeartbeats 4000000 in
theorem c_draybook_Intact_byte_0 (mk : Int) (bs : List Int) (hb : bs.length ≤ 140737488351232) :
    Tri Try.prog 34 0 [.list .imm ((roomy mk bs).map rowB), .list .imm (bs.map rowB), .int .u8 mk] [] (fun d l => d = .bool true ∧ l = []) := by
  refine Tri.walk2 (L := LT) (c := {n := 37, ko := [6]}) [] [0, 1, 2, 6, 7, 22, 28, 36] hLT hmix Try.func34 rfl rfl ⟨rfl, rfl⟩ (by show 3 ≤ 37; decide) (by first | exact Nat.zero_le _ | exact Nat.le_refl _ | decide) ?_
  have hrl := roomy_len mk bs
  have hw : IntKind.i64.wrap (((bs.map rowB).length : Int) + 80) = ((bs.length + 80 : Nat) : Int) := by
    rw [List.length_map, wrap64 (by omega) (by omega)]
    omega
  refine And.intro (fun h => absurd (by rw [hw, List.length_map, hrl]) (nd_true h)) (fun _ => ?_)
  refine And.intro ⟨by omega, by rw [List.length_map, List.length_map]; omega⟩ (And.intro (Nat.zero_le _) (And.intro (of_decide_eq_true rfl) (And.intro (allLenB' _) ?_)))
  refine ⟨rfl, Nat.zero_le _, ?_⟩
  have e : List.take (((bs.map rowB).length : Int).toNat - 0) (List.drop 0 ((roomy mk bs).map rowB)) = bs.map rowB := by
    rw [List.drop_zero, Int.toNat_natCast, List.length_map, Nat.sub_zero, ← List.map_take]
    unfold roomy
    rw [List.take_left]
  rw [e]
  refine (c_draybook_Same_byte_0 bs bs (by omega) (by omega)).mono ?_
  rintro d l ⟨rfl, rfl⟩
  rw [decide_eq_true rfl]
  refine ⟨rfl, fun _ _ => rfl, rfl, ?_⟩
  repeat (first | refine And.intro (fun _ => ?_) (fun h => Bool.noConfusion h) | refine And.intro (fun h => Bool.noConfusion h) (fun _ => ?_))
  show Ok _ _ _ _ _
  refine Ok.loopN hLT hmix [] [0, 1, 2, 6, 7, 22, 28, 36] [0,1,2,7,6] [] (fun n s => ∃ i : Nat, n = bs.length + 80 - i ∧ bs.length ≤ i ∧ i ≤ bs.length + 80 ∧ s = sV mk bs i) (n := 80) ⟨bs.length, by omega, by omega, by omega, by rw [List.length_map]; rfl⟩ ?_
  rintro n s ⟨i, rfl, hi, hi2, rfl⟩
  refine And.intro (fun h1 => ?_) (fun h1 => ?_)
  · have h1 : ((i : Nat) : Int) < (((roomy mk bs).map rowB).length : Int) := of_decide_eq_true h1
    rw [List.length_map, hrl] at h1
    have hw1 : IntKind.i64.wrap ((i : Int) + 1) = ((i + 1 : Nat) : Int) := by
      rw [wrap64 (by omega) (by omega)]
      omega
    refine ⟨((roomy mk bs)).map rowB, rowB (((roomy mk bs))[i]'(by omega)), rfl, by omega, row_at' rowB ((roomy mk bs)) (by omega) (by omega), rfl, of_decide_eq_true rfl, ?_⟩
    have h44 : (roomy mk bs)[i]'(by omega) = mk := roomy_at hi (by omega)
    refine And.intro (fun h => absurd h44 (nd_true h)) (fun _ => ?_)
    refine ⟨bs.length + 80 - (i + 1), by omega, i + 1, rfl, by omega, by omega, ?_⟩
    unfold sV
    rw [← hw1]
    rfl
  · exact And.intro rfl rfl
theorem c_draybook_Intact_byte (mk : Int) (bs : List Int) (hb : bs.length ≤ 140737488351232) {r : Nat} {sto : List Ob} (hr : r ≤ sto.length) :
    Tri Try.prog 34 r [.list .imm ((roomy mk bs).map rowB), .list .imm (bs.map rowB), .int .u8 mk] sto (fun d l => d = .bool true ∧ l = sto) :=
  (c_draybook_Intact_byte_0 mk bs hb).pure rfl (by
    show (nrBLL 0 ((roomy mk bs).map rowB) && (nrBLL 0 (bs.map rowB) && true)) = true
    rw [nrBLL_B, nrBLL_B]
    rfl) rfl rfl hr
theorem c_draybook_Roomy_byte (mk : Int) (bs : List Int) (hb : bs.length ≤ 140737488351232) {r : Nat} {sto : List Ob} (hr : r ≤ sto.length) :
    Tri Try.prog 32 r [.list .imm (bs.map rowB), .int .u8 mk] sto (fun d l => d = .list (.own 1) ((roomy mk bs).map rowB) ∧ l = sto) :=
  (c_draybook_Roomy_byte_0 mk bs hb).pure rfl (nrBL_B rfl) rfl (nrBLL_B (roomy mk bs)) hr
end Go.Lv
