/-
  Part 16 of the texts under the proof: an abstract run of loaded code on data, and what the functions do. No condition.
-/
import Derived.Test.YtdlcjcpnkiphgaaM15
import Derived.Shelf.Sort.Plain
import Derived.Shelf.Slices.CompactI
import Derived.Shelf.Slices.In.SortNone
import Derived.Ground.NamesProg
import Derived.Ground.Names2Prog
import Derived.KernelRfl
set_option linter.all false
set_option maxRecDepth 100000
namespace Go.Proofs
open Go.Shelf
def Try.lays189_ren : Go.Shelf.Ren := ⟨fun | 189 => 36 | 125 => 58 | 257 => 57 | 128 => 79 | 129 => 80 | 294 => 70 | 295 => 71 | 296 => 72 | 297 => 73 | 298 => 74 | 299 => 75 | 216 => 76 | 300 => 77 | 301 => 78 | 328 => 86 | 329 => 87 | 330 => 88 | 331 => 89 | 332 => 90 | 215 => 91 | 343 => 93 | n => n, fun | 28 => 34 | 3 => 3 | 46 => 83 | 0 => 0 | 51 => 104 | 53 => 90 | 4 => 4 | 183 => 96 | 182 => 95 | 131 => 101 | 5 => 5 | 9 => 9 | 218 => 111 | 222 => 115 | 228 => 118 | 229 => 119 | n => n, fun | n => n⟩
theorem Try.lays189 : Go.Proofs.Lays.n189 Try.prog Try.lays189_ren := {
  mixed := by kernel_rfl
  f125 := Try.func58.trans (congrArg some (by kernel_rfl))
  f128 := Try.func79.trans (congrArg some (by kernel_rfl))
  f129 := Try.func80.trans (congrArg some (by kernel_rfl))
  f189 := Try.func36.trans (congrArg some (by kernel_rfl))
  f215 := Try.func91.trans (congrArg some (by kernel_rfl))
  f216 := Try.func76.trans (congrArg some (by kernel_rfl))
  f257 := Try.func57.trans (congrArg some (by kernel_rfl))
  f294 := Try.func70.trans (congrArg some (by kernel_rfl))
  f295 := Try.func71.trans (congrArg some (by kernel_rfl))
  f296 := Try.func72.trans (congrArg some (by kernel_rfl))
  f297 := Try.func73.trans (congrArg some (by kernel_rfl))
  f298 := Try.func74.trans (congrArg some (by kernel_rfl))
  f299 := Try.func75.trans (congrArg some (by kernel_rfl))
  f300 := Try.func77.trans (congrArg some (by kernel_rfl))
  f301 := Try.func78.trans (congrArg some (by kernel_rfl))
  f328 := Try.func86.trans (congrArg some (by kernel_rfl))
  f329 := Try.func87.trans (congrArg some (by kernel_rfl))
  f330 := Try.func88.trans (congrArg some (by kernel_rfl))
  f331 := Try.func89.trans (congrArg some (by kernel_rfl))
  f332 := Try.func90.trans (congrArg some (by kernel_rfl))
  f343 := Try.func93.trans (congrArg some (by kernel_rfl))
  t0 := Try.underlying0
  a0 := Try.isAgg0
  z0 := Try.sizeOf0
  v0 := Try.zeroValue0
  t3 := Try.underlying3
  a3 := Try.isAgg3
  z3 := Try.sizeOf3
  v3 := Try.zeroValue3
  t4 := Try.underlying4
  a4 := Try.isAgg4
  z4 := Try.sizeOf4
  v4 := Try.zeroValue4
  t5 := Try.underlying5
  a5 := Try.isAgg5
  z5 := Try.sizeOf5
  v5 := Try.zeroValue5
  t9 := Try.underlying9
  a9 := Try.isAgg9
  z9 := Try.sizeOf9
  v9 := Try.zeroValue9
  t28 := Try.underlying34
  a28 := Try.isAgg34
  z28 := Try.sizeOf34
  v28 := Try.zeroValue34
  t46 := Try.underlying83
  a46 := Try.isAgg83
  z46 := Try.sizeOf83
  v46 := Try.zeroValue83
  t51 := Try.underlying104
  a51 := Try.isAgg104
  z51 := Try.sizeOf104
  v51 := Try.zeroValue104
  t53 := Try.underlying90
  a53 := Try.isAgg90
  z53 := Try.sizeOf90
  v53 := Try.zeroValue90
  t131 := Try.underlying101
  a131 := Try.isAgg101
  z131 := Try.sizeOf101
  v131 := Try.zeroValue101
  t182 := Try.underlying95
  a182 := Try.isAgg95
  z182 := Try.sizeOf95
  v182 := Try.zeroValue95
  t183 := Try.underlying96
  a183 := Try.isAgg96
  z183 := Try.sizeOf96
  v183 := Try.zeroValue96
  t218 := Try.underlying111
  a218 := Try.isAgg111
  z218 := Try.sizeOf111
  v218 := Try.zeroValue111
  t222 := Try.underlying115
  a222 := Try.isAgg115
  z222 := Try.sizeOf115
  v222 := Try.zeroValue115
  t228 := Try.underlying118
  a228 := Try.isAgg118
  z228 := Try.sizeOf118
  v228 := Try.zeroValue118
  t229 := Try.underlying119
  a229 := Try.isAgg119
  z229 := Try.sizeOf119
  v229 := Try.zeroValue119 }
def Try.lays220_ren : Go.Shelf.Ren := ⟨fun | 20 => 37 | n => n, fun | 22 => 34 | 3 => 3 | 4 => 4 | 0 => 0 | n => n, fun | n => n⟩
theorem Try.lays220 : Go.Proofs.Lays2.n20 Try.prog Try.lays220_ren := {
  mixed := by kernel_rfl
  f20 := Try.func37.trans (congrArg some (by kernel_rfl))
  t0 := Try.underlying0
  a0 := Try.isAgg0
  z0 := Try.sizeOf0
  v0 := Try.zeroValue0
  t3 := Try.underlying3
  a3 := Try.isAgg3
  z3 := Try.sizeOf3
  v3 := Try.zeroValue3
  t4 := Try.underlying4
  a4 := Try.isAgg4
  z4 := Try.sizeOf4
  v4 := Try.zeroValue4
  t22 := Try.underlying34
  a22 := Try.isAgg34
  z22 := Try.sizeOf34
  v22 := Try.zeroValue34
  i3 := by kernel_rfl }
end Go.Proofs
namespace Go.Lv
open Go Go.Proofs Go.Sort

theorem sortC : TurnC Try.prog 36 sortI where
  fn := ⟨_, Try.func36, rfl, rfl⟩
  len := fun zs => (sortI_perm zs).length_eq
  nil := fun p cap w => Any.slices_Sort_int_none Try.lays189 p cap w
  some := fun blk off cap zs w hH hb hz => by
    have := Any.slices_Sort_int Try.lays189 blk off cap zs w hH hb hz
    rw [mergeSort_sortI] at this
    exact this
theorem compC : CompC Try.prog 37 where
  fn := ⟨_, Try.func37, rfl, rfl, by decide⟩
  nil := fun p cap w => Any.slices_Compact_int_empty Try.lays220 p cap w
  some := fun blk off cap zs w hH hz hc => Any.slices_Compact_int Try.lays220 blk off cap zs w hH hz hc

noncomputable def E9 : Ev := { L := LT, S := SS, hk := fun f T s o => if f = 36 then some (turnHk sortI T s o) else none, sp := fun f => if f = 37 then some compSp else none }
theorem E9ok : EvOk Try.prog E9 where
  L := hLT
  m := by kernel_rfl
  hk := fun f T s o s' x args tys caps _ _ ho hx h => by
    simp only [E9] at h
    split at h
    · rename_i e
      subst e
      exact turnHk_ok sortC ho hx (Option.some.inj h)
    · cases h
  sp := fun f g h r args sto d sto' hg => by
    simp only [E9] at h
    split at h
    · rename_i e
      subst e
      cases h
      exact compSp_ok compC hg
    · cases h
end Go.Lv

namespace Go.Lv
open Go Go.Proofs Go.Sort
noncomputable def trueR : Rz (D × List Ob) → Bool
  | .ok (.bool b, _) => b
  | _ => false
theorem trueR_tri {n k : Nat} {args : List D} (h : trueR (evF Try.prog E9 n 0 k args []) = true) : Tri Try.prog k 0 args [] (fun d l => d = .bool true ∧ l = []) := by
  unfold trueR at h
  split at h
  · rename_i b l he
    subst h
    exact Tri.forget ((evF_ok E9ok n 0 k args [] _ _ he).1) (fun d l h _ => ⟨0, Nat.zero_le _, Nat.zero_le _, by rw [h.1]; exact .bool _, fun o ho => absurd ho (by simp), h.1, rfl⟩)
  · cases h
theorem tRuns : Tri Try.prog 3 0 [] [] (fun d l => d = .bool true ∧ l = []) := trueR_tri (n := 20) (by kernel_rfl)
end Go.Lv

namespace Go.Lv
open Go.Proofs

theorem hmix : Try.prog.follows .mixedOrders = true := by kernel_rfl
theorem row_at {α : Type} {f : α → List D} (l : List α) {i : Nat} (hi : i < l.length) : (l.map f)[((i : Nat) : Int).toNat]? = some (f l[i]) := by
  rw [Int.toNat_natCast, List.getElem?_map, List.getElem?_eq_getElem hi]
  rfl
theorem wrap_succ {i n : Nat} (hi : i < n) (hn : n ≤ 1000000000000000) : IntKind.i64.wrap ((i : Int) + 1) = ((i + 1 : Nat) : Int) := by
  rw [wrap64 (by omega) (by omega)]
  omega
theorem allLen_mono {n : Nat} {xs ys : List (List D)} (h : allLen n xs = true) (hs : ∀ r, r ∈ ys → r ∈ xs) : allLen n ys = true := by
  unfold allLen at *
  rw [List.all_eq_true] at *
  exact fun r hr => h r (hs r hr)
theorem row_at' {α : Type} (f : α → List D) (l : List α) {n : Int} {i : Nat} (h : n = (i : Int)) (hi : i < l.length) : (l.map f)[n.toNat]? = some (f l[i]) := by
  rw [h]
  exact row_at l hi
theorem nd_true {p : Prop} [Decidable p] (h : (!decide p) = true) : ¬ p := by simpa using h
theorem nd_false {p : Prop} [Decidable p] (h : (!decide p) = false) : p := by simpa using h
noncomputable def in64' (z : Int) : Prop := -9223372036854775808 ≤ z ∧ z ≤ 9223372036854775807
theorem wrapU (z : Int) : IntKind.u64.wrap z = z % 18446744073709551616 := by simp [IntKind.wrap, IntKind.bits, IntKind.signed]
noncomputable def rowB (z : Int) : List D := [.int .u8 z]
theorem allLenB (bs : List Int) : allLen 1 (bs.map rowB) = true := by
  simp [allLen, rowB]
theorem nrBLL_B : ∀ bs : List Int, nrBLL 0 (bs.map rowB) = true
  | [] => rfl
  | b :: r => by
    show (nrBL 0 (rowB b) && nrBLL 0 (r.map rowB)) = true
    rw [nrBLL_B r]
    rfl
theorem nrBL_B {bs : List Int} {d : D} (hd : nrB 0 d = true) : nrBL 0 [.list .imm (bs.map rowB), d] = true := by
  show (nrBLL 0 (bs.map rowB) && (nrB 0 d && true)) = true
  rw [nrBLL_B, hd]
  rfl
theorem allLenB' (bs : List Int) : allLen 1 (bs.map rowB) = true := by
  simp [allLen, rowB]
theorem NR.up {k k' : Nat} (h : k ≤ k') {d : D} (hd : NR k d) : NR k' d := by
  induction hd with
  | gptr j o hj => exact .gptr _ _ (Nat.lt_of_lt_of_le hj h)
  | map j hj => exact .map _ (Nat.lt_of_lt_of_le hj h)
  | fn f ds _ ih => exact .fn _ _ ih
  | list q xs _ ih => exact .list _ _ ih
  | agg cs _ ih => exact .agg _ ih
  | tup cs _ ih => exact .tup _ ih
  | int k n => exact .int _ _
  | bool b => exact .bool _
  | str s => exact .str _
  | nil => exact .nil
  | nilmap => exact .nilmap
  | nilfn => exact .nilfn
  | dead => exact .dead
theorem set_self {sto : List Ob} {p : Nat} {o : Ob} (h : sto[p]? = some o) : sto.set p o = sto := by
  apply List.ext_getElem?
  intro i
  rw [List.getElem?_set]
  split
  · rename_i e
    subst e
    rw [if_pos (List.getElem?_eq_some_iff.1 h).1, h]
  · rfl
/-- A function of one box that holds no pointers, where it lies elsewhere; what is new lies behind. -/
theorem Tri.one {f : Nat} {o : Ob} {R : D → List Ob → Prop} (h : Tri Try.prog f 0 [.gptr 0 0] [o] R) (ho : nrO 0 o = true) (hbx : ([o].drop 0).all boxOK = true)
    (hok : ∀ d l, R d l → partsOK d = true ∧ (l.drop 0).all boxOK = true) {r b : Nat} {sto : List Ob} (hr : r ≤ b) (hb : sto[b]? = some o) (hid : ∀ ρ, renO ρ o = o) :
    Tri Try.prog f r [.gptr b 0] sto (fun d l => ∃ d' l', R d' l' ∧ d = renD (extR (fun _ => b) 1 sto.length) d' ∧ l = backSto (fun _ => b) 1 sto l') := by
  have hlt : b < sto.length := (List.getElem?_eq_some_iff.1 hb).1
  exact Tri.ren (r := r) (sto := sto) (fun _ => b) h (fun i j hi hj e => by
      have hi : i < 1 := hi
      have hj : j < 1 := hj
      omega) (fun i o' hi => by
      match i, hi with
      | 0, hi =>
        have : o' = o := by simpa using hi.symm
        rw [this, hid]
        exact hb
      | i + 1, hi => simp at hi) (fun i hi => ⟨fun h => absurd h (Nat.not_lt_zero _), fun h => by have : b < r := h; omega⟩) (by omega) rfl (fun x hx => by
      have : x = .gptr 0 0 := by simpa using hx
      rw [this]
      exact .gptr _ _ (by show 0 < 1; omega)) (fun o' ho' => by
      have : o' = o := by simpa using ho'
      rw [this]
      have h := nrO_nr (k := 0) ho
      cases o with
      | box cs => exact fun d hd => (h d hd).up (Nat.zero_le _)
      | map es => trivial) hbx hok
theorem okBytes {n m : Nat} {x : List D} (h : OkD LT (n + 2) 44 x) (z : SzD LT (m + 1) 44 x) : ∃ bs : List Int, x = [.list .imm (bs.map rowB)] ∧ bs.length ≤ 140737488351232 ∧ ∀ b, b ∈ bs → 0 ≤ b ∧ b ≤ 255 := by
  obtain ⟨xs, rfl, _, h⟩ := h
  obtain ⟨xs', e, z, _⟩ := z
  cases e
  have key : ∀ xs : List (List D), (∀ r, r ∈ xs → r.length = LT.size 5 ∧ OkD LT (n + 1) 5 r) → ∃ bs : List Int, xs = bs.map rowB ∧ ∀ b, b ∈ bs → 0 ≤ b ∧ b ≤ 255 := by
    intro xs
    induction xs with
    | nil => intro _; exact ⟨[], rfl, fun a ha => by cases ha⟩
    | cons x r ih =>
      intro h
      obtain ⟨i, rfl, h1, h2⟩ := (h x (by simp)).2
      obtain ⟨al, rfl, has⟩ := ih fun y hy => h y (by simp [hy])
      exact ⟨i :: al, rfl, fun b hb => by
        rcases List.mem_cons.1 hb with e | hb
        · rw [e]; exact ⟨h1, h2⟩
        · exact has b hb⟩
  obtain ⟨bs, rfl, hb⟩ := key xs h
  have z : (bs.map rowB).length * 1 ≤ 140737488351232 := z
  rw [List.length_map] at z
  exact ⟨bs, rfl, by omega, hb⟩
theorem c_draybook_Same_int_0 (al bl : List Int) (ha : al.length ≤ 1000000000000000) (hb : bl.length ≤ 1000000000000000) :
    Tri Try.prog 12 0 [.list .imm (al.map rowI), .list .imm (bl.map rowI)] [] (fun d l => d = .bool (decide (al = bl)) ∧ l = []) := by
  refine Tri.walk2 (L := LT) (c := {la := false, n := 26, ko := [4]}) [] [0, 1, 4, 5, 10, 14, 25] hLT hmix Try.func12 rfl rfl ⟨rfl, rfl⟩ (by show 2 ≤ 26; decide) (Nat.le_refl _) ?_
  refine And.intro (fun hn => ?_) (fun hn => ?_)
  · refine And.intro ?_ rfl
    have : ¬ al = bl := by
      rintro rfl
      simp at hn
    rw [decide_eq_false this]
  · have hlen : al.length = bl.length := by
      simp at hn
      omega
    show Ok _ _ _ _ _
    refine Ok.loopN hLT hmix [] [0, 1, 4, 5, 10, 14, 25] [0, 1, 5, 4] [] (fun n s => ∃ i : Nat, n = al.length - i ∧ i ≤ al.length ∧ (∀ j, j < i → al[j]? = bl[j]?) ∧ s = ⟨[(0, .list .imm (al.map rowI)), (1, .list .imm (bl.map rowI)), (5, .int .i64 (i : Int)), (4, .bool false)], [], [], mR 0⟩) (n := al.length) ⟨0, rfl, Nat.zero_le _, fun j hj => absurd hj (Nat.not_lt_zero j), rfl⟩ ?_
    rintro n s ⟨i, rfl, hi, heq, rfl⟩
    refine And.intro (fun h => ?_) (fun h => ?_)
    · have h : ((i : Nat) : Int) < ((al.map rowI).length : Int) := of_decide_eq_true h
      rw [List.length_map] at h
      have hi1 : i < al.length := by omega
      have hi2 : i < bl.length := by omega
      refine ⟨⟨511, [0, 0, 3, 4, 0, 0, 48, 64, 136], [1, 2, 7, 15, 16, 32, 112, 240, 511]⟩, by kernel_rfl, ?_⟩
      refine ⟨al.map rowI, [.int .i64 al[i]], rfl, by omega, by rw [Int.toNat_natCast, List.getElem?_map, List.getElem?_eq_getElem hi1]; rfl, rfl, by decide, ?_⟩
      refine And.intro rfl ?_
      refine ⟨bl.map rowI, [.int .i64 bl[i]], rfl, by omega, by rw [Int.toNat_natCast, List.getElem?_map, List.getElem?_eq_getElem hi2]; rfl, rfl, by decide, ?_⟩
      refine And.intro rfl ?_
      refine And.intro (fun hne => ?_) (fun hne => ?_)
      · refine And.intro ?_ rfl
        have : ¬ al = bl := by
          rintro rfl
          simp at hne
        rw [decide_eq_false this]
      · have hq : al[i] = bl[i] := by simpa using hne
        have hw : IntKind.i64.wrap ((i : Int) + 1) = ((i + 1 : Nat) : Int) := by
          rw [wrap64 (by omega) (by omega)]
          omega
        refine ⟨al.length - (i + 1), by omega, i + 1, rfl, by omega, fun j hj => ?_, ?_⟩
        · rcases Nat.lt_or_ge j i with h' | h'
          · exact heq j h'
          · have : j = i := by omega
            subst this
            rw [List.getElem?_eq_getElem hi1, List.getElem?_eq_getElem hi2, hq]
        · rw [← hw]
          rfl
    · have h : ¬ ((i : Nat) : Int) < ((al.map rowI).length : Int) := of_decide_eq_false h
      rw [List.length_map] at h
      refine And.intro ?_ rfl
      have : al = bl := by
        apply List.ext_getElem?
        intro j
        rcases Nat.lt_or_ge j al.length with h' | h'
        · exact heq j (by omega)
        · rw [List.getElem?_eq_none h', List.getElem?_eq_none (by omega)]
      rw [decide_eq_true this]
theorem c_draybook_Same_byte_0 (al bl : List Int) (ha : al.length ≤ 1000000000000000) (hb : bl.length ≤ 1000000000000000) :
    Tri Try.prog 20 0 [.list .imm (al.map rowB), .list .imm (bl.map rowB)] [] (fun d l => d = .bool (decide (al = bl)) ∧ l = []) := by
  refine Tri.walk2 (L := LT) (c := {la := false, n := 26, ko := [4]}) [] [0, 1, 4, 5, 10, 14, 25] hLT hmix Try.func20 rfl rfl ⟨rfl, rfl⟩ (by show 2 ≤ 26; decide) (Nat.le_refl _) ?_
  refine And.intro (fun hn => ?_) (fun hn => ?_)
  · refine And.intro ?_ rfl
    have : ¬ al = bl := by
      rintro rfl
      simp at hn
    rw [decide_eq_false this]
  · have hlen : al.length = bl.length := by
      simp at hn
      omega
    show Ok _ _ _ _ _
    refine Ok.loopN hLT hmix [] [0, 1, 4, 5, 10, 14, 25] [0, 1, 5, 4] [] (fun n s => ∃ i : Nat, n = al.length - i ∧ i ≤ al.length ∧ (∀ j, j < i → al[j]? = bl[j]?) ∧ s = ⟨[(0, .list .imm (al.map rowB)), (1, .list .imm (bl.map rowB)), (5, .int .i64 (i : Int)), (4, .bool false)], [], [], mR 0⟩) (n := al.length) ⟨0, rfl, Nat.zero_le _, fun j hj => absurd hj (Nat.not_lt_zero j), rfl⟩ ?_
    rintro n s ⟨i, rfl, hi, heq, rfl⟩
    refine And.intro (fun h => ?_) (fun h => ?_)
    · have h : ((i : Nat) : Int) < ((al.map rowB).length : Int) := of_decide_eq_true h
      rw [List.length_map] at h
      have hi1 : i < al.length := by omega
      have hi2 : i < bl.length := by omega
      refine ⟨⟨511, [0, 0, 3, 4, 0, 0, 48, 64, 136], [1, 2, 7, 15, 16, 32, 112, 240, 511]⟩, by kernel_rfl, ?_⟩
      refine ⟨al.map rowB, [.int .u8 al[i]], rfl, by omega, by rw [Int.toNat_natCast, List.getElem?_map, List.getElem?_eq_getElem hi1]; rfl, rfl, by decide, ?_⟩
      refine And.intro rfl ?_
      refine ⟨bl.map rowB, [.int .u8 bl[i]], rfl, by omega, by rw [Int.toNat_natCast, List.getElem?_map, List.getElem?_eq_getElem hi2]; rfl, rfl, by decide, ?_⟩
      refine And.intro rfl ?_
      refine And.intro (fun hne => ?_) (fun hne => ?_)
      · refine And.intro ?_ rfl
        have : ¬ al = bl := by
          rintro rfl
          simp at hne
        rw [decide_eq_false this]
      · have hq : al[i] = bl[i] := by simpa using hne
        have hw : IntKind.i64.wrap ((i : Int) + 1) = ((i + 1 : Nat) : Int) := by
          rw [wrap64 (by omega) (by omega)]
          omega
        refine ⟨al.length - (i + 1), by omega, i + 1, rfl, by omega, fun j hj => ?_, ?_⟩
        · rcases Nat.lt_or_ge j i with h' | h'
          · exact heq j h'
          · have : j = i := by omega
            subst this
            rw [List.getElem?_eq_getElem hi1, List.getElem?_eq_getElem hi2, hq]
        · rw [← hw]
          rfl
    · have h : ¬ ((i : Nat) : Int) < ((al.map rowB).length : Int) := of_decide_eq_false h
      rw [List.length_map] at h
      refine And.intro ?_ rfl
      have : al = bl := by
        apply List.ext_getElem?
        intro j
        rcases Nat.lt_or_ge j al.length with h' | h'
        · exact heq j (by omega)
        · rw [List.getElem?_eq_none h', List.getElem?_eq_none (by omega)]
      rw [decide_eq_true this]
theorem nrBLL_I : ∀ l : List Int, nrBLL 0 (l.map rowI) = true
  | [] => rfl
  | b :: r => by
    show (nrBL 0 (rowI b) && nrBLL 0 (r.map rowI)) = true
    rw [nrBLL_I r]
    rfl
theorem c_draybook_Same_int (al bl : List Int) (ha : al.length ≤ 1000000000000000) (hb : bl.length ≤ 1000000000000000) {r : Nat} {sto : List Ob} (hr : r ≤ sto.length) :
    Tri Try.prog 12 r [.list .imm (al.map rowI), .list .imm (bl.map rowI)] sto (fun d l => d = .bool (decide (al = bl)) ∧ l = sto) :=
  (c_draybook_Same_int_0 al bl ha hb).pure rfl (by
    show (nrBLL 0 (al.map rowI) && (nrBLL 0 (bl.map rowI) && true)) = true
    rw [nrBLL_I, nrBLL_I]
    rfl) rfl rfl hr
theorem c_draybook_Same_byte (al bl : List Int) (ha : al.length ≤ 1000000000000000) (hb : bl.length ≤ 1000000000000000) {r : Nat} {sto : List Ob} (hr : r ≤ sto.length) :
    Tri Try.prog 20 r [.list .imm (al.map rowB), .list .imm (bl.map rowB)] sto (fun d l => d = .bool (decide (al = bl)) ∧ l = sto) :=
  (c_draybook_Same_byte_0 al bl ha hb).pure rfl (by
    show (nrBLL 0 (al.map rowB) && (nrBLL 0 (bl.map rowB) && true)) = true
    rw [nrBLL_B, nrBLL_B]
    rfl) rfl rfl hr
end Go.Lv

namespace Go.Lv
open Go.Proofs

structure Stp where
  ord : Int
  drop : Bool
  deriving DecidableEq
structure Rte where
  drv : Int
  srv : Int
  st : List Stp
  deriving DecidableEq
abbrev Pln := List Rte
noncomputable def rowS (s : Stp) : List D := [.int .i64 s.ord, .bool s.drop]
noncomputable def rowR (r : Rte) : List D := [.int .i64 r.drv, .int .i64 r.srv, .list .imm (r.st.map rowS)]
noncomputable def encP (p : Pln) : D := .list .imm (p.map rowR)
theorem nrBLL_S : ∀ l : List Stp, nrBLL 0 (l.map rowS) = true
  | [] => rfl
  | b :: r => by
    show (nrBL 0 (rowS b) && nrBLL 0 (r.map rowS)) = true
    rw [nrBLL_S r]
    rfl
theorem nrBLL_P : ∀ l : Pln, nrBLL 0 (l.map rowR) = true
  | [] => rfl
  | b :: r => by
    show ((true && (true && (nrBLL 0 (b.st.map rowS) && true))) && nrBLL 0 (r.map rowR)) = true
    rw [nrBLL_P r, nrBLL_S]
    rfl
theorem nrBL_S {l : List Stp} {ds : List D} (hd : nrBL 0 ds = true) : nrBL 0 (.list .imm (l.map rowS) :: ds) = true := by
  show (nrBLL 0 (l.map rowS) && nrBL 0 ds) = true
  rw [nrBLL_S, hd]
  rfl
theorem nrBL_P {l : Pln} {ds : List D} (hd : nrBL 0 ds = true) : nrBL 0 (encP l :: ds) = true := by
  show (nrBLL 0 (l.map rowR) && nrBL 0 ds) = true
  rw [nrBLL_P, hd]
  rfl
/-- The number of the first such stop, or -1. -/
noncomputable def idxA (s : Stp) : Nat → List Stp → Int
  | _, [] => -1
  | i, x :: r => if x = s then (i : Int) else idxA s (i + 1) r
noncomputable def idxS (l : List Stp) (s : Stp) : Int := idxA s 0 l
theorem idxA_at {s : Stp} {l : List Stp} {i : Nat} (h : i < l.length) : idxA s i (l.drop i) = if l[i] = s then (i : Int) else idxA s (i + 1) (l.drop (i + 1)) := by
  rw [List.drop_eq_getElem_cons h]
  rfl
theorem stp_eq {a b : Stp} (h : (decide (a.ord = b.ord) && (a.drop == b.drop && true)) = true) : a = b := by
  obtain ⟨x, y⟩ := a
  obtain ⟨z, w⟩ := b
  simp only [Bool.and_true, Bool.and_eq_true, decide_eq_true_eq, beq_iff_eq] at h
  obtain ⟨rfl, rfl⟩ := h
  rfl
theorem stp_ne {a b : Stp} (h : (decide (a.ord = b.ord) && (a.drop == b.drop && true)) = false) : a ≠ b := by
  rintro rfl
  simp at h
noncomputable def sIx (l : List Stp) (v : Stp) (i : Nat) : DS := ⟨[(0, .list .imm (l.map rowS)), (3, .lptr 3 0 0), (7, .int .i64 (l.length : Int)), (8, .int .i64 (i : Int)), (4, .int .i64 0)], [(3, rowS v)], [], mR 0⟩
set_option maxHeartbeats 4000000 in
theorem c_slices_Index_Stop_0 (l : List Stp) (hl : l.length ≤ 1000000000000000) (v : Stp) : Tri Try.prog 35 0 [.list .imm (l.map rowS), .agg (rowS v)] [] (fun d k => d = .int .i64 (idxS l v) ∧ k = []) := by
  refine Tri.walk2 (L := LT) (c := {n := 19, ko := [4]}) [] [0, 1, 3, 4, 5, 7, 8, 9, 16] hLT hmix Try.func35 rfl rfl ⟨rfl, rfl⟩ (by show 2 ≤ 19; decide) (by first | exact Nat.zero_le _ | exact Nat.le_refl _ | decide) ?_
  show Ok _ _ _ _ _
  refine Ok.loopN hLT hmix [] [0, 1, 3, 4, 5, 7, 8, 9, 16] [0,3,7,8,4] [3] (fun n s => ∃ i : Nat, n = l.length - i ∧ i ≤ l.length ∧ idxA v i (l.drop i) = idxS l v ∧ s = sIx l v i) (n := l.length) ⟨0, rfl, Nat.zero_le _, rfl, by unfold sIx; rw [← List.length_map (f := rowS)]; rfl⟩ ?_
  rintro n s ⟨i, rfl, hi, hix, rfl⟩
  refine And.intro (fun h1 => ?_) (fun h1 => ?_)
  · have h1 : ((i : Nat) : Int) < (l.length : Int) := of_decide_eq_true h1
    have hw := wrap_succ (i := i) (n := l.length) (by omega) hl
    rw [idxA_at (by omega)] at hix
    refine ⟨⟨63, [0, 0, 0, 6, 8, 17], [1, 2, 4, 14, 30, 63]⟩, by kernel_rfl, ?_⟩
    refine ⟨(l).map rowS, rowS ((l)[i]'(by omega)), rfl, by omega, row_at' rowS (l) (by omega) (by omega), rfl, of_decide_eq_true rfl, ?_⟩
    refine And.intro rfl ?_
    refine And.intro (fun h2 => ?_) (fun h2 => ?_)
    · have h2 := stp_eq h2
      rw [if_pos h2.symm] at hix
      rw [← hix]
      exact And.intro rfl rfl
    · have h2 := stp_ne h2
      rw [if_neg (fun e => h2 e.symm)] at hix
      refine ⟨l.length - (i + 1), by omega, i + 1, rfl, by omega, hix, ?_⟩
      unfold sIx
      rw [← hw]
      rfl
  · have h1 : ¬ ((i : Nat) : Int) < (l.length : Int) := of_decide_eq_false h1
    rw [List.drop_eq_nil_of_le (by omega)] at hix
    rw [← hix]
    exact And.intro rfl rfl
theorem c_slices_Index_Stop (l : List Stp) (hl : l.length ≤ 1000000000000000) (v : Stp) {r : Nat} {sto : List Ob} (hr : r ≤ sto.length) : Tri Try.prog 35 r [.list .imm (l.map rowS), .agg (rowS v)] sto (fun d k => d = .int .i64 (idxS l v) ∧ k = sto) :=
  (c_slices_Index_Stop_0 l hl v).pure rfl (nrBL_S rfl) rfl rfl hr
noncomputable def sIw (l : List Stp) (v : Stp) (i : Nat) : DS := ⟨[(0, .list .imm (l.map rowS)), (3, .lptr 3 0 0), (5, .int .i64 (i : Int)), (4, .int .i64 0)], [(3, rowS v)], [], mR 0⟩
set_option maxHeartbeats 4000000 in
theorem c_drayref9_where_0 (l : List Stp) (hl : l.length ≤ 1000000000000000) (v : Stp) : Tri Try.prog 46 0 [.list .imm (l.map rowS), .agg (rowS v)] [] (fun d k => d = .int .i64 (idxS l v) ∧ k = []) := by
  refine Tri.walk2 (L := LT) (c := {n := 19, ko := [4]}) [] [0, 1, 3, 4, 5, 9, 17] hLT hmix Try.func46 rfl rfl ⟨rfl, rfl⟩ (by show 2 ≤ 19; decide) (by first | exact Nat.zero_le _ | exact Nat.le_refl _ | decide) ?_
  show Ok _ _ _ _ _
  refine Ok.loopN hLT hmix [] [0, 1, 3, 4, 5, 9, 17] [0,3,5,4] [3] (fun n s => ∃ i : Nat, n = l.length - i ∧ i ≤ l.length ∧ idxA v i (l.drop i) = idxS l v ∧ s = sIw l v i) (n := l.length) ⟨0, rfl, Nat.zero_le _, rfl, rfl⟩ ?_
  rintro n s ⟨i, rfl, hi, hix, rfl⟩
  refine And.intro (fun h1 => ?_) (fun h1 => ?_)
  · have h1 : ((i : Nat) : Int) < ((l.map rowS).length : Int) := of_decide_eq_true h1
    rw [List.length_map] at h1
    have hw := wrap_succ (i := i) (n := l.length) (by omega) hl
    rw [idxA_at (by omega)] at hix
    refine ⟨⟨63, [0, 0, 3, 4, 0, 24], [1, 2, 7, 15, 16, 63]⟩, by kernel_rfl, ?_⟩
    refine ⟨(l).map rowS, rowS ((l)[i]'(by omega)), rfl, by omega, row_at' rowS (l) (by omega) (by omega), rfl, of_decide_eq_true rfl, ?_⟩
    refine And.intro rfl ?_
    refine And.intro (fun h2 => ?_) (fun h2 => ?_)
    · have h2 := stp_eq h2
      rw [if_pos h2] at hix
      rw [← hix]
      exact And.intro rfl rfl
    · have h2 := stp_ne h2
      rw [if_neg h2] at hix
      refine ⟨l.length - (i + 1), by omega, i + 1, rfl, by omega, hix, ?_⟩
      unfold sIw
      rw [← hw]
      rfl
  · have h1 : ¬ ((i : Nat) : Int) < ((l.map rowS).length : Int) := of_decide_eq_false h1
    rw [List.length_map] at h1
    rw [List.drop_eq_nil_of_le (by omega)] at hix
    rw [← hix]
    exact And.intro rfl rfl
theorem c_drayref9_where (l : List Stp) (hl : l.length ≤ 1000000000000000) (v : Stp) {r : Nat} {sto : List Ob} (hr : r ≤ sto.length) : Tri Try.prog 46 r [.list .imm (l.map rowS), .agg (rowS v)] sto (fun d k => d = .int .i64 (idxS l v) ∧ k = sto) :=
  (c_drayref9_where_0 l hl v).pure rfl (nrBL_S rfl) rfl rfl hr

/-! ### Where an order stands -/
structure Spt where
  drv : Int
  pick : Int
  drop : Int
  cost : Int
  deriving DecidableEq
noncomputable def encSpt (s : Spt) : D := .agg [.int .i64 s.drv, .int .i64 s.pick, .int .i64 s.drop, .int .i64 s.cost]
noncomputable def findP (o : Int) : Pln → Option Spt
  | [] => none
  | r :: p => if idxS r.st ⟨o, false⟩ ≥ 0 ∨ idxS r.st ⟨o, true⟩ ≥ 0 then some ⟨r.drv, idxS r.st ⟨o, false⟩, idxS r.st ⟨o, true⟩, 0⟩ else findP o p
noncomputable def findD (o : Int) (p : Pln) : D := match findP o p with
  | some s => .tup [encSpt s, .bool true]
  | none => .tup [encSpt ⟨0, 0, 0, 0⟩, .bool false]
theorem findP_at {o : Int} {p : Pln} {i : Nat} (h : i < p.length) : findP o (p.drop i) = if idxS p[i].st ⟨o, false⟩ ≥ 0 ∨ idxS p[i].st ⟨o, true⟩ ≥ 0 then some ⟨p[i].drv, idxS p[i].st ⟨o, false⟩, idxS p[i].st ⟨o, true⟩, 0⟩ else findP o (p.drop (i + 1)) := by
  rw [List.drop_eq_getElem_cons h]
  rfl
/-- Lists that Go can hold. -/
structure szP (p : Pln) : Prop where
  len : p.length ≤ 1000000000000000
  st : ∀ r, r ∈ p → r.st.length ≤ 1000000000000000
noncomputable def sFi (p : Pln) (o : Int) (i : Nat) : DS := ⟨[(1, .int .i64 o), (9, encP p), (10, .int .i64 (p.length : Int)), (11, .int .i64 (i : Int)), (4, .lptr 4 0 0), (5, .bool false)], [(4, [.int .i64 0, .int .i64 0, .int .i64 0, .int .i64 0])], [], mR 0⟩
set_option maxHeartbeats 4000000 in
theorem c_plan_Find_0 (p : Pln) (hp : szP p) (o : Int) : Tri Try.prog 11 0 [encP p, .int .i64 o] [] (fun d k => d = findD o p ∧ k = []) := by
  refine Tri.walk2 (L := LT) (c := {n := 39, ko := [5], kb := [4]}) [] [0, 1, 4, 5, 7, 8, 9, 10, 11, 12, 35] hLT hmix Try.func11 rfl rfl ⟨rfl, rfl⟩ (by show 2 ≤ 39; decide) (by first | exact Nat.zero_le _ | exact Nat.le_refl _ | decide) ?_
  show Ok _ _ _ _ _
  refine Ok.loopN hLT hmix [] [0, 1, 4, 5, 7, 8, 9, 10, 11, 12, 35] [1,9,10,11,4,5] [4] (fun n s => ∃ i : Nat, n = p.length - i ∧ i ≤ p.length ∧ findP o (p.drop i) = findP o p ∧ s = sFi p o i) (n := p.length) ⟨0, rfl, Nat.zero_le _, rfl, by unfold sFi; rw [← List.length_map (f := rowR)]; rfl⟩ ?_
  rintro n s ⟨i, rfl, hi, hix, rfl⟩
  unfold findD
  refine And.intro (fun h1 => ?_) (fun h1 => ?_)
  · have h1 : ((i : Nat) : Int) < (p.length : Int) := of_decide_eq_true h1
    have hw := wrap_succ (i := i) (n := p.length) (by omega) hp.len
    have hst := hp.st p[i] (List.getElem_mem _)
    rw [findP_at (by omega)] at hix
    refine ⟨(p).map rowR, rowR ((p)[i]'(by omega)), rfl, by omega, row_at' rowR (p) (by omega) (by omega), rfl, of_decide_eq_true rfl, ?_⟩
    refine ⟨⟨16383, [0, 1, 0, 4, 0, 16, 40, 0, 128, 0, 512, 1344, 2114, 0, 16383], [1, 3, 4, 12, 16, 48, 124, 128, 384, 512, 1536, 4092, 8191, 8192, 32767]⟩, by kernel_rfl, ?_⟩
    refine And.intro ?_ (And.intro ?_ trivial)
    rotate_left
    refine And.intro (by repeat (first | exact trivial | refine And.intro ⟨rfl, rfl⟩ ?_)) ?_
    refine And.intro ?_ trivial
    refine ⟨rfl, (by first | exact Nat.zero_le _ | decide), (c_slices_Index_Stop p[i].st hst ⟨o, false⟩ (r := 0) (sto := []) (Nat.le_refl 0)).mono ?_⟩
    rintro d l ⟨rfl, rfl⟩
    refine ⟨rfl, fun _ _ => rfl, rfl, ?_⟩
    refine And.intro (by repeat (first | exact trivial | refine And.intro ⟨rfl, rfl⟩ ?_)) ?_
    refine And.intro ?_ trivial
    refine ⟨rfl, (by first | exact Nat.zero_le _ | decide), (c_slices_Index_Stop p[i].st hst ⟨o, true⟩ (r := 0) (sto := []) (Nat.le_refl 0)).mono ?_⟩
    rintro d l ⟨rfl, rfl⟩
    refine ⟨rfl, fun _ _ => rfl, rfl, ?_⟩
    refine And.intro (by repeat (first | exact trivial | refine And.intro ⟨rfl, rfl⟩ ?_)) ?_
    refine And.intro ?_ trivial
    refine And.intro (by repeat (first | exact trivial | refine And.intro ⟨rfl, rfl⟩ ?_)) ?_
    rotate_left
    refine ⟨rfl, (by first | exact Nat.zero_le _ | decide), (c_slices_Index_Stop p[i].st hst ⟨o, false⟩ (r := 0) (sto := []) (Nat.le_refl 0)).mono ?_⟩
    rintro d l ⟨rfl, rfl⟩
    refine ⟨rfl, fun _ _ => rfl, rfl, ?_⟩
    refine And.intro (by repeat (first | exact trivial | refine And.intro ⟨rfl, rfl⟩ ?_)) ?_
    refine And.intro ?_ (And.intro ?_ trivial)
    rotate_left
    refine And.intro (by repeat (first | exact trivial | refine And.intro ⟨rfl, rfl⟩ ?_)) ?_
    refine And.intro ?_ trivial
    refine ⟨rfl, (by first | exact Nat.zero_le _ | decide), (c_slices_Index_Stop p[i].st hst ⟨o, true⟩ (r := 0) (sto := []) (Nat.le_refl 0)).mono ?_⟩
    rintro d l ⟨rfl, rfl⟩
    refine ⟨rfl, fun _ _ => rfl, rfl, ?_⟩
    refine And.intro (by repeat (first | exact trivial | refine And.intro ⟨rfl, rfl⟩ ?_)) ?_
    refine And.intro ?_ trivial
    refine And.intro (by repeat (first | exact trivial | refine And.intro ⟨rfl, rfl⟩ ?_)) ?_
    rotate_left
    rotate_left
    refine ⟨rfl, (by first | exact Nat.zero_le _ | decide), (c_slices_Index_Stop p[i].st hst ⟨o, true⟩ (r := 0) (sto := []) (Nat.le_refl 0)).mono ?_⟩
    rintro d l ⟨rfl, rfl⟩
    refine ⟨rfl, fun _ _ => rfl, rfl, ?_⟩
    refine And.intro (by repeat (first | exact trivial | refine And.intro ⟨rfl, rfl⟩ ?_)) ?_
    refine And.intro ?_ trivial
    refine And.intro (by repeat (first | exact trivial | refine And.intro ⟨rfl, rfl⟩ ?_)) ?_
    refine And.intro ?_ trivial
    refine And.intro (by repeat (first | exact trivial | refine And.intro ⟨rfl, rfl⟩ ?_)) ?_
    all_goals
      refine And.intro (fun h2 => ?_) (fun h2 => ?_)
      · repeat (first | refine And.intro (fun _ => ?_) (fun h => Bool.noConfusion h) | refine And.intro (fun h => Bool.noConfusion h) (fun _ => ?_))
        have h2 : idxS p[i].st ⟨o, false⟩ ≥ 0 := of_decide_eq_true h2
        rw [if_pos (.inl h2)] at hix
        rw [← hix]
        exact And.intro rfl rfl
      · repeat (first | refine And.intro (fun _ => ?_) (fun h => Bool.noConfusion h) | refine And.intro (fun h => Bool.noConfusion h) (fun _ => ?_))
        have h2 : ¬ idxS p[i].st ⟨o, false⟩ ≥ 0 := of_decide_eq_false h2
        refine And.intro (fun h3 => ?_) (fun h3 => ?_)
        · repeat (first | refine And.intro (fun _ => ?_) (fun h => Bool.noConfusion h) | refine And.intro (fun h => Bool.noConfusion h) (fun _ => ?_))
          have h3 : idxS p[i].st ⟨o, true⟩ ≥ 0 := of_decide_eq_true h3
          rw [if_pos (.inr h3)] at hix
          rw [← hix]
          exact And.intro rfl rfl
        · repeat (first | refine And.intro (fun _ => ?_) (fun h => Bool.noConfusion h) | refine And.intro (fun h => Bool.noConfusion h) (fun _ => ?_))
          have h3 : ¬ idxS p[i].st ⟨o, true⟩ ≥ 0 := of_decide_eq_false h3
          rw [if_neg (fun h => h.elim h2 h3)] at hix
          refine ⟨p.length - (i + 1), by omega, i + 1, rfl, by omega, hix, ?_⟩
          unfold sFi
          rw [← hw]
          rfl
  · have h1 : ¬ ((i : Nat) : Int) < (p.length : Int) := of_decide_eq_false h1
    rw [List.drop_eq_nil_of_le (by omega)] at hix
    rw [← hix]
    exact And.intro rfl rfl
theorem findD_ok (o : Int) (p : Pln) : partsOK (findD o p) = true ∧ nrB 0 (findD o p) = true := by
  unfold findD
  split <;> exact ⟨rfl, rfl⟩
theorem c_plan_Find (p : Pln) (hp : szP p) (o : Int) {r : Nat} {sto : List Ob} (hr : r ≤ sto.length) : Tri Try.prog 11 r [encP p, .int .i64 o] sto (fun d k => d = findD o p ∧ k = sto) :=
  (c_plan_Find_0 p hp o).pure rfl (nrBL_P rfl) (findD_ok o p).1 (findD_ok o p).2 hr
noncomputable def sFw (p : Pln) (o : Int) (i : Nat) : DS := ⟨[(0, encP p), (1, .int .i64 o), (6, .int .i64 (i : Int)), (4, .lptr 4 0 0), (5, .bool false)], [(4, [.int .i64 0, .int .i64 0, .int .i64 0, .int .i64 0])], [], mR 0⟩
set_option maxHeartbeats 4000000 in
theorem c_drayref9_Find_0 (p : Pln) (hp : szP p) (o : Int) : Tri Try.prog 22 0 [encP p, .int .i64 o] [] (fun d k => d = findD o p ∧ k = []) := by
  refine Tri.walk2 (L := LT) (c := {n := 46, ko := [5], kb := [4]}) [] [0, 1, 4, 5, 6, 7, 8, 12, 36] hLT hmix Try.func22 rfl rfl ⟨rfl, rfl⟩ (by show 2 ≤ 46; decide) (by first | exact Nat.zero_le _ | exact Nat.le_refl _ | decide) ?_
  show Ok _ _ _ _ _
  refine Ok.loopN hLT hmix [] [0, 1, 4, 5, 6, 7, 8, 12, 36] [0,1,6,4,5] [4] (fun n s => ∃ i : Nat, n = p.length - i ∧ i ≤ p.length ∧ findP o (p.drop i) = findP o p ∧ s = sFw p o i) (n := p.length) ⟨0, rfl, Nat.zero_le _, rfl, rfl⟩ ?_
  rintro n s ⟨i, rfl, hi, hix, rfl⟩
  unfold findD
  refine And.intro (fun h1 => ?_) (fun h1 => ?_)
  · have h1 : ((i : Nat) : Int) < ((p.map rowR).length : Int) := of_decide_eq_true h1
    rw [List.length_map] at h1
    have hw := wrap_succ (i := i) (n := p.length) (by omega) hp.len
    have hst := hp.st p[i] (List.getElem_mem _)
    rw [findP_at (by omega)] at hix
    refine ⟨(p).map rowR, rowR ((p)[i]'(by omega)), rfl, by omega, row_at' rowR (p) (by omega) (by omega), rfl, of_decide_eq_true rfl, ?_⟩
    refine ⟨rfl, (by first | exact Nat.zero_le _ | decide), (c_drayref9_where p[i].st hst ⟨o, false⟩ (r := 0) (sto := []) (Nat.le_refl 0)).mono ?_⟩
    rintro d l ⟨rfl, rfl⟩
    refine ⟨rfl, fun _ _ => rfl, rfl, ?_⟩
    refine ⟨(p).map rowR, rowR ((p)[i]'(by omega)), rfl, by omega, row_at' rowR (p) (by omega) (by omega), rfl, of_decide_eq_true rfl, ?_⟩
    refine ⟨rfl, (by first | exact Nat.zero_le _ | decide), (c_drayref9_where p[i].st hst ⟨o, true⟩ (r := 0) (sto := []) (Nat.le_refl 0)).mono ?_⟩
    rintro d l ⟨rfl, rfl⟩
    refine ⟨rfl, fun _ _ => rfl, rfl, ?_⟩
    refine And.intro (fun h2 => ?_) (fun h2 => ?_)
    · repeat (first | refine And.intro (fun _ => ?_) (fun h => Bool.noConfusion h) | refine And.intro (fun h => Bool.noConfusion h) (fun _ => ?_))
      have h2 : idxS p[i].st ⟨o, false⟩ ≥ 0 := of_decide_eq_true h2
      rw [if_pos (.inl h2)] at hix
      rw [← hix]
      refine ⟨(p).map rowR, rowR ((p)[i]'(by omega)), rfl, by omega, row_at' rowR (p) (by omega) (by omega), rfl, of_decide_eq_true rfl, ?_⟩
      exact And.intro rfl rfl
    · repeat (first | refine And.intro (fun _ => ?_) (fun h => Bool.noConfusion h) | refine And.intro (fun h => Bool.noConfusion h) (fun _ => ?_))
      have h2 : ¬ idxS p[i].st ⟨o, false⟩ ≥ 0 := of_decide_eq_false h2
      refine And.intro (fun h3 => ?_) (fun h3 => ?_)
      · repeat (first | refine And.intro (fun _ => ?_) (fun h => Bool.noConfusion h) | refine And.intro (fun h => Bool.noConfusion h) (fun _ => ?_))
        have h3 : idxS p[i].st ⟨o, true⟩ ≥ 0 := of_decide_eq_true h3
        rw [if_pos (.inr h3)] at hix
        rw [← hix]
        refine ⟨(p).map rowR, rowR ((p)[i]'(by omega)), rfl, by omega, row_at' rowR (p) (by omega) (by omega), rfl, of_decide_eq_true rfl, ?_⟩
        exact And.intro rfl rfl
      · repeat (first | refine And.intro (fun _ => ?_) (fun h => Bool.noConfusion h) | refine And.intro (fun h => Bool.noConfusion h) (fun _ => ?_))
        have h3 : ¬ idxS p[i].st ⟨o, true⟩ ≥ 0 := of_decide_eq_false h3
        rw [if_neg (fun h => h.elim h2 h3)] at hix
        refine ⟨p.length - (i + 1), by omega, i + 1, rfl, by omega, hix, ?_⟩
        unfold sFw
        rw [← hw]
        rfl
  · have h1 : ¬ ((i : Nat) : Int) < ((p.map rowR).length : Int) := of_decide_eq_false h1
    rw [List.length_map] at h1
    rw [List.drop_eq_nil_of_le (by omega)] at hix
    rw [← hix]
    exact And.intro rfl rfl
theorem c_drayref9_Find (p : Pln) (hp : szP p) (o : Int) {r : Nat} {sto : List Ob} (hr : r ≤ sto.length) : Tri Try.prog 22 r [encP p, .int .i64 o] sto (fun d k => d = findD o p ∧ k = sto) :=
  (c_drayref9_Find_0 p hp o).pure rfl (nrBL_P rfl) (findD_ok o p).1 (findD_ok o p).2 hr
end Go.Lv

namespace Go.Lv
open Go.Proofs

noncomputable def stOK (seen : List Stp) : List Stp → Bool
  | [] => true
  | s :: l => decide (1 ≤ s.ord ∧ s.ord ≤ 1000000 ∧ s ∉ seen) && stOK (seen ++ [s]) l
noncomputable def hdOK (last : Int) (r : Rte) : Prop := last < r.drv ∧ r.drv ≤ 1000000 ∧ r.st.length ≤ 80 ∧ 0 ≤ r.srv ∧ r.srv ≤ r.st.length
noncomputable instance (last : Int) (r : Rte) : Decidable (hdOK last r) := by unfold hdOK; infer_instance
noncomputable def rightG (last : Int) (seen : List Stp) : Pln → Bool
  | [] => true
  | r :: p => decide (hdOK last r) && (stOK seen r.st && rightG r.drv (seen ++ r.st) p)
/-- Is a plan right? -/
noncomputable def rightP (p : Pln) : Bool := decide (p.length ≤ 8) && rightG 0 [] p
noncomputable def encM (seen : List Stp) : List (D × D) := seen.map fun s => (.agg (rowS s), .int .i64 1)
theorem findM (s : Stp) : ∀ seen : List Stp, findE LT 23 (.agg (rowS s)) (encM seen) = some (if s ∈ seen then some (.int .i64 1) else none)
  | [] => rfl
  | x :: r => by
    have ih := findM s r
    have e : eqD LT 23 (.agg (rowS s)) (.agg (rowS x)) = some (decide (s.ord = x.ord) && (s.drop == x.drop && true)) := rfl
    show (match eqD LT 23 (.agg (rowS s)) (.agg (rowS x)) with | some true => some (some (D.int .i64 1)) | some false => findE LT 23 (.agg (rowS s)) (encM r) | none => none) = _
    rw [e]
    cases hb : (decide (s.ord = x.ord) && (s.drop == x.drop && true)) with
    | true => rw [if_pos (by rw [stp_eq hb]; simp)]
    | false =>
      have hn := stp_ne hb
      simp only [ih, List.mem_cons, hn, false_or]
theorem findM_new {s : Stp} {v : D} : ∀ {seen : List Stp}, s ∉ seen → findE LT 23 (.agg (rowS s)) (encM seen ++ [(D.agg (rowS s), v)]) = some (some v)
  | [], _ => by
    have e : eqD LT 23 (.agg (rowS s)) (.agg (rowS s)) = some (decide (s.ord = s.ord) && (s.drop == s.drop && true)) := rfl
    show (match eqD LT 23 (.agg (rowS s)) (.agg (rowS s)) with | some true => some (some v) | some false => some none | none => none) = _
    rw [e]
    simp
  | x :: r, h => by
    have ih := findM_new (v := v) (seen := r) (fun q => h (List.mem_cons_of_mem _ q))
    have e : eqD LT 23 (.agg (rowS s)) (.agg (rowS x)) = some (decide (s.ord = x.ord) && (s.drop == x.drop && true)) := rfl
    show (match eqD LT 23 (.agg (rowS s)) (.agg (rowS x)) with | some true => some (some (D.int .i64 1)) | some false => findE LT 23 (.agg (rowS s)) (encM r ++ [(D.agg (rowS s), v)]) | none => none) = _
    rw [e]
    cases hb : (decide (s.ord = x.ord) && (s.drop == x.drop && true)) with
    | true => exact absurd (by rw [stp_eq hb]; simp) h
    | false => exact ih
theorem findM_no {s : Stp} {seen : List Stp} (h : s ∉ seen) : findE LT 23 (.agg (rowS s)) (encM seen) = some none := by rw [findM, if_neg h]
theorem encM_snoc (seen : List Stp) (s : Stp) : (encM seen ++ [(D.agg (rowS s), D.int .i64 0)]).set (encM seen).length (D.agg (rowS s), D.int .i64 1) = encM (seen ++ [s]) := by
  rw [List.set_append_right _ _ (Nat.le_refl _), Nat.sub_self]
  simp [encM]
theorem stOK_at {seen l : List Stp} {i : Nat} (h : i < l.length) : stOK (seen ++ l.take i) (l.drop i) = (decide (1 ≤ l[i].ord ∧ l[i].ord ≤ 1000000 ∧ l[i] ∉ seen ++ l.take i) && stOK (seen ++ l.take (i + 1)) (l.drop (i + 1))) := by
  rw [List.drop_eq_getElem_cons h]
  show (_ && stOK (seen ++ l.take i ++ [l[i]]) (l.drop (i + 1))) = _
  rw [List.append_assoc, List.take_succ_eq_append_getElem h]
theorem rightG_at {last : Int} {seen : List Stp} {p : Pln} {i : Nat} (h : i < p.length) : rightG last seen (p.drop i) = (decide (hdOK last p[i]) && (stOK seen p[i].st && rightG p[i].drv (seen ++ p[i].st) (p.drop (i + 1)))) := by
  rw [List.drop_eq_getElem_cons h]
  rfl
noncomputable def sRi (p : Pln) (last : Int) (seen : List Stp) (i : Nat) : DS := ⟨[(3, .int .i64 last), (4, .map 0), (13, encP p), (14, .int .i64 (p.length : Int)), (15, .int .i64 (i : Int)), (2, .bool false)], [], [.map (encM seen)], mR 0⟩
noncomputable def sRj (p : Pln) (last : Int) (seen : List Stp) (l : List Stp) (i j : Nat) : DS := ⟨[(3, .int .i64 last), (4, .map 0), (13, encP p), (14, .int .i64 (p.length : Int)), (15, .int .i64 (i : Int)), (50, .list .imm (l.map rowS)), (51, .int .i64 (l.length : Int)), (52, .int .i64 (j : Int)), (2, .bool false)], [], [.map (encM seen)], mR 0⟩
set_option maxHeartbeats 8000000 in
theorem c_plan_Right_1 (p : Pln) : Tri Try.prog 19 0 [encP p] [] (fun d k => d = .bool (rightP p) ∧ (k = [] ∨ ∃ es, k = [.map es])) := by
  refine Tri.walk2 (L := LT) (c := {n := 78, ko := [2]}) [] [0, 2, 3, 4, 6, 8, 11, 13, 14, 15, 16, 46, 50, 51, 52, 53, 69] hLT hmix Try.func19 rfl rfl ⟨rfl, rfl⟩ (by show 1 ≤ 78; decide) (by first | exact Nat.zero_le _ | exact Nat.le_refl _ | decide) ?_
  unfold rightP
  refine And.intro (fun h0 => ?_) (fun h0 => ?_)
  · have h0 : ((p.map rowR).length : Int) > 8 := of_decide_eq_true h0
    rw [List.length_map] at h0
    rw [decide_eq_false (show ¬ p.length ≤ 8 by omega)]
    exact And.intro rfl (.inl rfl)
  · have h0 : ¬ ((p.map rowR).length : Int) > 8 := of_decide_eq_false h0
    rw [List.length_map] at h0
    have hp8 : p.length ≤ 8 := by omega
    rw [decide_eq_true hp8, Bool.true_and]
    show Ok _ _ _ _ _
    refine Ok.loopN hLT hmix [] [0, 2, 3, 4, 6, 8, 11, 13, 14, 15, 16, 46, 50, 51, 52, 53, 69] [3,4,13,14,15,2] [] (fun n s => ∃ (i : Nat) (last : Int) (seen : List Stp), n = p.length - i ∧ i ≤ p.length ∧ rightG last seen (p.drop i) = rightG 0 [] p ∧ s = sRi p last seen i) (n := p.length) ⟨0, 0, [], rfl, Nat.zero_le _, rfl, by unfold sRi; rw [← List.length_map (f := rowR)]; rfl⟩ ?_
    rintro n s ⟨i, last, seen, rfl, hi, hix, rfl⟩
    refine And.intro (fun h1 => ?_) (fun h1 => ?_)
    · have h1 : ((i : Nat) : Int) < (p.length : Int) := of_decide_eq_true h1
      have hw := wrap_succ (i := i) (n := p.length) (by omega) (by omega)
      rw [rightG_at (by omega)] at hix
      refine ⟨(p).map rowR, rowR ((p)[i]'(by omega)), rfl, by omega, row_at' rowR (p) (by omega) (by omega), rfl, of_decide_eq_true rfl, ?_⟩
      generalize p[i] = r at hix ⊢
      have bad : ¬ hdOK last r → false = rightG 0 [] p := fun h => by rw [← hix, decide_eq_false h]; rfl
      refine And.intro (fun q1 => ?_) (fun q1 => ?_)
      · repeat (first | refine And.intro (fun _ => ?_) (fun h => Bool.noConfusion h) | refine And.intro (fun h => Bool.noConfusion h) (fun _ => ?_))
        exact And.intro (congrArg D.bool (bad (fun h => absurd (of_decide_eq_true q1) (by exact Int.not_le.2 h.1)))) (.inr ⟨_, rfl⟩)
      repeat (first | refine And.intro (fun _ => ?_) (fun h => Bool.noConfusion h) | refine And.intro (fun h => Bool.noConfusion h) (fun _ => ?_))
      have q1 := of_decide_eq_false q1
      refine And.intro (fun q2 => ?_) (fun q2 => ?_)
      · repeat (first | refine And.intro (fun _ => ?_) (fun h => Bool.noConfusion h) | refine And.intro (fun h => Bool.noConfusion h) (fun _ => ?_))
        exact And.intro (congrArg D.bool (bad (fun h => absurd (of_decide_eq_true q2) (by exact Int.not_lt.2 h.2.1)))) (.inr ⟨_, rfl⟩)
      repeat (first | refine And.intro (fun _ => ?_) (fun h => Bool.noConfusion h) | refine And.intro (fun h => Bool.noConfusion h) (fun _ => ?_))
      have q2 := of_decide_eq_false q2
      refine And.intro (fun q3 => ?_) (fun q3 => ?_)
      · repeat (first | refine And.intro (fun _ => ?_) (fun h => Bool.noConfusion h) | refine And.intro (fun h => Bool.noConfusion h) (fun _ => ?_))
        exact And.intro (congrArg D.bool (bad (fun h => absurd (of_decide_eq_true q3) (by rw [List.length_map]; have := h.2.2.1; omega)))) (.inr ⟨_, rfl⟩)
      repeat (first | refine And.intro (fun _ => ?_) (fun h => Bool.noConfusion h) | refine And.intro (fun h => Bool.noConfusion h) (fun _ => ?_))
      have q3 := of_decide_eq_false q3
      refine And.intro (fun q4 => ?_) (fun q4 => ?_)
      · repeat (first | refine And.intro (fun _ => ?_) (fun h => Bool.noConfusion h) | refine And.intro (fun h => Bool.noConfusion h) (fun _ => ?_))
        exact And.intro (congrArg D.bool (bad (fun h => absurd (of_decide_eq_true q4) (by exact Int.not_lt.2 h.2.2.2.1)))) (.inr ⟨_, rfl⟩)
      repeat (first | refine And.intro (fun _ => ?_) (fun h => Bool.noConfusion h) | refine And.intro (fun h => Bool.noConfusion h) (fun _ => ?_))
      have q4 := of_decide_eq_false q4
      refine And.intro (fun q5 => ?_) (fun q5 => ?_)
      · repeat (first | refine And.intro (fun _ => ?_) (fun h => Bool.noConfusion h) | refine And.intro (fun h => Bool.noConfusion h) (fun _ => ?_))
        exact And.intro (congrArg D.bool (bad (fun h => absurd (of_decide_eq_true q5) (by rw [List.length_map]; exact Int.not_lt.2 h.2.2.2.2)))) (.inr ⟨_, rfl⟩)
      repeat (first | refine And.intro (fun _ => ?_) (fun h => Bool.noConfusion h) | refine And.intro (fun h => Bool.noConfusion h) (fun _ => ?_))
      have q5 := of_decide_eq_false q5
      rw [List.length_map] at q3 q5
      have hok : hdOK last r := ⟨by omega, by omega, by omega, by omega, by omega⟩
      rw [decide_eq_true hok, Bool.true_and] at hix
      show Ok _ _ _ _ _
      refine Ok.loopN hLT hmix [] [0, 2, 3, 4, 6, 8, 11, 13, 14, 15, 16, 46, 50, 51, 52, 53, 69] [3,4,13,14,15,50,51,52,2] [] (fun n s => ∃ (j : Nat), n = r.st.length - j ∧ j ≤ r.st.length ∧ (stOK (seen ++ r.st.take j) (r.st.drop j) && rightG r.drv (seen ++ r.st) (p.drop (i + 1))) = rightG 0 [] p ∧ s = sRj p r.drv (seen ++ r.st.take j) r.st i j) (n := r.st.length) ⟨0, rfl, Nat.zero_le _, by rw [List.take_zero, List.append_nil]; exact hix, by rw [List.take_zero, List.append_nil]; unfold sRj; rw [← List.length_map (f := rowS)]; rfl⟩ ?_
      rintro n s ⟨j, rfl, hj, hjx, rfl⟩
      refine And.intro (fun g1 => ?_) (fun g1 => ?_)
      · have g1 : ((j : Nat) : Int) < (r.st.length : Int) := of_decide_eq_true g1
        have hwj := wrap_succ (i := j) (n := r.st.length) (by omega) (by omega)
        rw [stOK_at (by omega)] at hjx
        have htk : seen ++ r.st.take (j + 1) = seen ++ r.st.take j ++ [r.st[j]] := by
          rw [List.append_assoc, List.take_succ_eq_append_getElem (by omega)]
        rw [htk] at hjx
        refine ⟨(r.st).map rowS, rowS ((r.st)[j]'(by omega)), rfl, by omega, row_at' rowS (r.st) (by omega) (by omega), rfl, of_decide_eq_true rfl, ?_⟩
        generalize r.st[j] = x at hjx htk ⊢
        generalize seen ++ r.st.take j = sn at hjx htk ⊢
        have badx : ¬ (1 ≤ x.ord ∧ x.ord ≤ 1000000 ∧ x ∉ sn) → false = rightG 0 [] p := fun h => by rw [← hjx, decide_eq_false h]; rfl
        refine And.intro (fun w1 => ?_) (fun w1 => ?_)
        · repeat (first | refine And.intro (fun _ => ?_) (fun h => Bool.noConfusion h) | refine And.intro (fun h => Bool.noConfusion h) (fun _ => ?_))
          exact And.intro (congrArg D.bool (badx (fun h => absurd (of_decide_eq_true w1) (by have := h.1; omega)))) (.inr ⟨_, rfl⟩)
        repeat (first | refine And.intro (fun _ => ?_) (fun h => Bool.noConfusion h) | refine And.intro (fun h => Bool.noConfusion h) (fun _ => ?_))
        have w1 := of_decide_eq_false w1
        refine And.intro (fun w2 => ?_) (fun w2 => ?_)
        · repeat (first | refine And.intro (fun _ => ?_) (fun h => Bool.noConfusion h) | refine And.intro (fun h => Bool.noConfusion h) (fun _ => ?_))
          exact And.intro (congrArg D.bool (badx (fun h => absurd (of_decide_eq_true w2) (by have := h.2.1; omega)))) (.inr ⟨_, rfl⟩)
        repeat (first | refine And.intro (fun _ => ?_) (fun h => Bool.noConfusion h) | refine And.intro (fun h => Bool.noConfusion h) (fun _ => ?_))
        have w2 := of_decide_eq_false w2
        refine And.intro rfl ⟨_, findM x sn, ?_⟩
        by_cases hm : x ∈ sn
        · rw [if_pos hm]
          repeat (first | refine And.intro (fun _ => ?_) (fun h => Bool.noConfusion h) | refine And.intro (fun h => Bool.noConfusion h) (fun _ => ?_))
          exact And.intro (congrArg D.bool (badx (fun h => h.2.2 hm))) (.inr ⟨_, rfl⟩)
        · rw [if_neg hm]
          repeat (first | refine And.intro (fun _ => ?_) (fun h => Bool.noConfusion h) | refine And.intro (fun h => Bool.noConfusion h) (fun _ => ?_))
          have hxok : 1 ≤ x.ord ∧ x.ord ≤ 1000000 ∧ x ∉ sn := ⟨by omega, by omega, hm⟩
          rw [decide_eq_true hxok, Bool.true_and] at hjx
          refine ⟨⟨63, [0, 0, 3, 4, 3, 16, 63], [1, 2, 7, 15, 19, 51, 127]⟩, by kernel_rfl, ?_⟩
          refine And.intro rfl ⟨_, findM x sn, ?_⟩
          rw [if_neg hm]
          refine And.intro rfl ?_
          refine And.intro ?_ trivial
          refine mapEntry_new rfl rfl rfl rfl rfl rfl rfl (findM_no hm) rfl ?_
          refine And.intro (And.intro ⟨rfl, rfl⟩ (And.intro ⟨rfl, _, findM_new hm, And.intro rfl (And.intro rfl rfl)⟩ trivial)) ?_
          refine And.intro ?_ trivial
          refine entryStore_any rfl rfl rfl rfl rfl rfl List.getElem?_concat_length ?_
          refine And.intro trivial ?_
          refine ⟨r.st.length - (j + 1), by omega, j + 1, rfl, by omega, by rw [htk]; exact hjx, ?_⟩
          unfold sRj
          rw [htk, ← encM_snoc, ← hwj]
          rfl
      · have g1 : ¬ ((j : Nat) : Int) < (r.st.length : Int) := of_decide_eq_false g1
        rw [List.drop_eq_nil_of_le (by omega)] at hjx
        have hjx : rightG r.drv (seen ++ r.st) (p.drop (i + 1)) = rightG 0 [] p := hjx
        rw [List.take_of_length_le (by omega)]
        refine ⟨p.length - (i + 1), by omega, i + 1, r.drv, seen ++ r.st, rfl, by omega, hjx, ?_⟩
        unfold sRi
        rw [← hw]
        rfl
    · have h1 : ¬ ((i : Nat) : Int) < (p.length : Int) := of_decide_eq_false h1
      rw [List.drop_eq_nil_of_le (by omega)] at hix
      rw [← hix]
      exact And.intro rfl (.inr ⟨_, rfl⟩)
theorem c_plan_Right_0 (p : Pln) : Tri Try.prog 19 0 [encP p] [] (fun d k => d = .bool (rightP p) ∧ k = []) :=
  Tri.forget (c_plan_Right_1 p) (fun d l h _ => ⟨0, Nat.zero_le _, Nat.zero_le _, by rw [h.1]; exact .bool _, fun o ho => absurd ho (by simp), h.1, rfl⟩)
theorem c_plan_Right (p : Pln) {r : Nat} {sto : List Ob} (hr : r ≤ sto.length) : Tri Try.prog 19 r [encP p] sto (fun d k => d = .bool (rightP p) ∧ k = sto) :=
  (c_plan_Right_0 p).pure rfl (nrBL_P rfl) rfl rfl hr
noncomputable def sTi (p : Pln) (seen : List Stp) (sz i : Nat) : DS := ⟨[(0, encP p), (3, .list (.own sz) (seen.map rowS)), (4, .int .i64 (i : Int)), (2, .bool false)], [], [], mR 0⟩
noncomputable def sTk (p : Pln) (r : Rte) (seen : List Stp) (sz i k : Nat) : DS := ⟨[(0, encP p), (3, .list (.own sz) (seen.map rowS)), (4, .int .i64 (i : Int)), (5, .lptr 5 0 0), (6, .int .i64 (k : Int)), (2, .bool false)], [(5, rowR r)], [], mR 0⟩
noncomputable def sTj (p : Pln) (r : Rte) (s : Stp) (seen : List Stp) (sz i k j : Nat) : DS := ⟨[(0, encP p), (3, .list (.own sz) (seen.map rowS)), (4, .int .i64 (i : Int)), (5, .lptr 5 0 0), (6, .int .i64 (k : Int)), (7, .lptr 7 0 0), (8, .int .i64 (j : Int)), (2, .bool false)], [(5, rowR r), (7, rowS s)], [], mR 0⟩
noncomputable def lastP (p : Pln) (i : Nat) : Int := if h : 0 < i ∧ i - 1 < p.length then p[i - 1].drv else 0
theorem lastP_succ {p : Pln} {i : Nat} (h : i < p.length) : lastP p (i + 1) = p[i].drv := by
  unfold lastP
  rw [dif_pos ⟨by omega, by omega⟩]
  rfl
set_option maxHeartbeats 8000000 in
theorem c_drayref9_Right_0 (p : Pln) : Tri Try.prog 23 0 [encP p] [] (fun d k => d = .bool (rightP p) ∧ k = []) := by
  refine Tri.walk2 (L := LT) (c := {n := 100, ko := [2, 3], xf := [96]}) [] [0, 2, 3, 4, 5, 6, 7, 8, 11, 15, 63, 68, 83, 87, 95] hLT hmix Try.func23 rfl rfl ⟨rfl, rfl⟩ (by show 1 ≤ 100; decide) (by first | exact Nat.zero_le _ | exact Nat.le_refl _ | decide) ?_
  unfold rightP
  refine And.intro (fun h0 => ?_) (fun h0 => ?_)
  · have h0 : ((p.map rowR).length : Int) > 8 := of_decide_eq_true h0
    rw [List.length_map] at h0
    rw [decide_eq_false (show ¬ p.length ≤ 8 by omega)]
    exact And.intro rfl rfl
  have h0 : ¬ ((p.map rowR).length : Int) > 8 := of_decide_eq_false h0
  rw [List.length_map] at h0
  have hp8 : p.length ≤ 8 := by omega
  rw [decide_eq_true hp8, Bool.true_and]
  show Ok _ _ _ _ _
  refine Ok.loopN hLT hmix [] [0, 2, 3, 4, 5, 6, 7, 8, 11, 15, 63, 68, 83, 87, 95] [0,3,4,2] [] (fun n s => ∃ (i sz : Nat) (seen : List Stp), n = p.length - i ∧ i ≤ p.length ∧ (sz = 0 ∨ sz = 2) ∧ seen.length ≤ 80 * i ∧ 0 ≤ lastP p i ∧ rightG (lastP p i) seen (p.drop i) = rightG 0 [] p ∧ s = sTi p seen sz i) (n := p.length) ⟨0, 0, [], rfl, Nat.zero_le _, .inl rfl, Nat.zero_le _, Int.le_refl 0, rfl, rfl⟩ ?_
  rintro n s ⟨i, sz, seen, rfl, hi, hsz, hsl, hla, hix, rfl⟩
  refine And.intro (fun h1 => ?_) (fun h1 => ?_)
  · have h1 : ((i : Nat) : Int) < ((p.map rowR).length : Int) := of_decide_eq_true h1
    rw [List.length_map] at h1
    have hw := wrap_succ (i := i) (n := p.length) (by omega) (by omega)
    rw [rightG_at (by omega)] at hix
    have hls := lastP_succ (p := p) (i := i) (by omega)
    refine ⟨(p).map rowR, rowR ((p)[i]'(by omega)), rfl, by omega, row_at' rowR (p) (by omega) (by omega), rfl, of_decide_eq_true rfl, ?_⟩
    generalize p[i] = r at hix hls ⊢
    have bad : ¬ hdOK (lastP p i) r → false = rightG 0 [] p := fun h => by rw [← hix, decide_eq_false h]; rfl
    refine ⟨⟨4398046511103, [0, 1, 2, 4, 8, 24, 40, 72, 136, 256, 768, 1280, 2048, 2048, 10240, 22528, 34816, 67584, 2048, 264192, 657408, 1050880, 2097408, 4196352, 8388608, 25165824, 41943040, 75497472, 142606336, 276824064, 536870912, 1610612736, 2684354560, 4831838208, 9126805504, 17179869184, 51539607552, 17179869184, 154618822656, 292057776128, 635655159808, 1116691496960], [1, 3, 7, 15, 31, 63, 127, 255, 511, 1023, 2047, 4095, 8191, 12287, 28671, 65535, 131071, 262143, 266239, 790527, 2097151, 4194303, 8388607, 16777215, 33554431, 67108863, 134217727, 268435455, 536870911, 1073741823, 2147483647, 4294967295, 8589934591, 17179869183, 34359738367, 68719476735, 137438953471, 171798691839, 446676598783, 996432412671, 2199023255551, 4398046511103]⟩, by kernel_rfl, ?_⟩
    refine And.intro (fun q1 => ?_) (fun q1 => ?_)
    · repeat (first | refine And.intro (fun _ => ?_) (fun h => Bool.noConfusion h) | refine And.intro (fun h => Bool.noConfusion h) (fun _ => ?_))
      exact And.intro (congrArg D.bool (bad (fun h => absurd (of_decide_eq_true q1) (by have := h.1; omega)))) rfl
    repeat (first | refine And.intro (fun _ => ?_) (fun h => Bool.noConfusion h) | refine And.intro (fun h => Bool.noConfusion h) (fun _ => ?_))
    have q1 := of_decide_eq_false q1
    refine And.intro (fun q2 => ?_) (fun q2 => ?_)
    · repeat (first | refine And.intro (fun _ => ?_) (fun h => Bool.noConfusion h) | refine And.intro (fun h => Bool.noConfusion h) (fun _ => ?_))
      exact And.intro (congrArg D.bool (bad (fun h => absurd (of_decide_eq_true q2) (by have := h.2.1; omega)))) rfl
    repeat (first | refine And.intro (fun _ => ?_) (fun h => Bool.noConfusion h) | refine And.intro (fun h => Bool.noConfusion h) (fun _ => ?_))
    have q2 := of_decide_eq_false q2
    refine And.intro (fun q3 => ?_) (fun q3 => ?_)
    · have q3 : ((i : Nat) : Int) > 0 := of_decide_eq_true q3
      repeat (first | refine And.intro (fun _ => ?_) (fun h => Bool.noConfusion h) | refine And.intro (fun h => Bool.noConfusion h) (fun _ => ?_))
      have hwm : IntKind.i64.wrap ((i : Int) - 1) = ((i - 1 : Nat) : Int) := by
        rw [wrap64 (by omega) (by omega)]
        omega
      have hlp : lastP p i = (p[i - 1]'(by omega)).drv := by
        unfold lastP
        rw [dif_pos ⟨by omega, by omega⟩]
      refine ⟨(p).map rowR, rowR ((p)[(i-1)]'(by omega)), rfl, by omega, row_at' rowR (p) (by omega) (by omega), rfl, of_decide_eq_true rfl, ?_⟩
      refine And.intro rfl ?_
      refine And.intro (fun q4 => ?_) (fun q4 => ?_)
      · have q4 : (p[i - 1]'(by omega)).drv ≥ r.drv := of_decide_eq_true q4
        repeat (first | refine And.intro (fun _ => ?_) (fun h => Bool.noConfusion h) | refine And.intro (fun h => Bool.noConfusion h) (fun _ => ?_))
        exact And.intro (congrArg D.bool (bad (fun h => by have := h.1; omega))) rfl
      have q4 : ¬ (p[i - 1]'(by omega)).drv ≥ r.drv := of_decide_eq_false q4
      have hlt : lastP p i < r.drv := by omega
      clear hlp
      repeat (first | refine And.intro (fun _ => ?_) (fun h => Bool.noConfusion h) | refine And.intro (fun h => Bool.noConfusion h) (fun _ => ?_))
      refine And.intro (fun q5 => ?_) (fun q5 => ?_)
      · repeat (first | refine And.intro (fun _ => ?_) (fun h => Bool.noConfusion h) | refine And.intro (fun h => Bool.noConfusion h) (fun _ => ?_))
        exact And.intro (congrArg D.bool (bad (fun h => absurd (of_decide_eq_true q5) (by rw [List.length_map]; have := h.2.2.1; omega)))) rfl
      repeat (first | refine And.intro (fun _ => ?_) (fun h => Bool.noConfusion h) | refine And.intro (fun h => Bool.noConfusion h) (fun _ => ?_))
      have q5 := of_decide_eq_false q5
      refine And.intro (fun q6 => ?_) (fun q6 => ?_)
      · repeat (first | refine And.intro (fun _ => ?_) (fun h => Bool.noConfusion h) | refine And.intro (fun h => Bool.noConfusion h) (fun _ => ?_))
        exact And.intro (congrArg D.bool (bad (fun h => absurd (of_decide_eq_true q6) (by have := h.2.2.2.1; omega)))) rfl
      repeat (first | refine And.intro (fun _ => ?_) (fun h => Bool.noConfusion h) | refine And.intro (fun h => Bool.noConfusion h) (fun _ => ?_))
      have q6 := of_decide_eq_false q6
      refine And.intro (fun q7 => ?_) (fun q7 => ?_)
      · repeat (first | refine And.intro (fun _ => ?_) (fun h => Bool.noConfusion h) | refine And.intro (fun h => Bool.noConfusion h) (fun _ => ?_))
        exact And.intro (congrArg D.bool (bad (fun h => absurd (of_decide_eq_true q7) (by rw [List.length_map]; have := h.2.2.2.2; omega)))) rfl
      repeat (first | refine And.intro (fun _ => ?_) (fun h => Bool.noConfusion h) | refine And.intro (fun h => Bool.noConfusion h) (fun _ => ?_))
      have q7 := of_decide_eq_false q7
      rw [List.length_map] at q5 q7
      have hok : hdOK (lastP p i) r := ⟨hlt, by omega, by omega, by omega, by omega⟩
      rw [decide_eq_true hok, Bool.true_and] at hix
      show Ok _ _ _ _ _
      refine Ok.loopN hLT hmix [] [0, 2, 3, 4, 5, 6, 7, 8, 11, 15, 63, 68, 83, 87, 95] [0,3,4,5,6,2] [5] (fun n s => ∃ (k sz : Nat), n = r.st.length - k ∧ k ≤ r.st.length ∧ (sz = 0 ∨ sz = 2) ∧ (stOK (seen ++ r.st.take k) (r.st.drop k) && rightG r.drv (seen ++ r.st) (p.drop (i + 1))) = rightG 0 [] p ∧ s = sTk p r (seen ++ r.st.take k) sz i k) (n := r.st.length) ⟨0, sz, rfl, Nat.zero_le _, hsz, by rw [List.take_zero, List.append_nil]; exact hix, by rw [List.take_zero, List.append_nil]; rfl⟩ ?_
      rintro n s ⟨k, sz, rfl, hk, hsz, hkx, rfl⟩
      refine And.intro (fun g1 => ?_) (fun g1 => ?_)
      · have g1 : ((k : Nat) : Int) < ((r.st.map rowS).length : Int) := of_decide_eq_true g1
        rw [List.length_map] at g1
        have hwk := wrap_succ (i := k) (n := r.st.length) (by omega) (by omega)
        rw [stOK_at (by omega)] at hkx
        have htk : seen ++ r.st.take (k + 1) = seen ++ r.st.take k ++ [r.st[k]] := by
          rw [List.append_assoc, List.take_succ_eq_append_getElem (by omega)]
        have hsn : (seen ++ r.st.take k).length ≤ 800 := by
          rw [List.length_append, List.length_take]
          omega
        rw [htk] at hkx
        refine ⟨(r.st).map rowS, rowS ((r.st)[k]'(by omega)), rfl, by omega, row_at' rowS (r.st) (by omega) (by omega), rfl, of_decide_eq_true rfl, ?_⟩
        generalize r.st[k] = x at hkx htk ⊢
        generalize seen ++ r.st.take k = sn at hkx htk hsn ⊢
        have badx : ¬ (1 ≤ x.ord ∧ x.ord ≤ 1000000 ∧ x ∉ sn) → false = rightG 0 [] p := fun h => by rw [← hkx, decide_eq_false h]; rfl
        refine And.intro (fun w1 => ?_) (fun w1 => ?_)
        · repeat (first | refine And.intro (fun _ => ?_) (fun h => Bool.noConfusion h) | refine And.intro (fun h => Bool.noConfusion h) (fun _ => ?_))
          exact And.intro (congrArg D.bool (badx (fun h => absurd (of_decide_eq_true w1) (by have := h.1; omega)))) rfl
        repeat (first | refine And.intro (fun _ => ?_) (fun h => Bool.noConfusion h) | refine And.intro (fun h => Bool.noConfusion h) (fun _ => ?_))
        have w1 := of_decide_eq_false w1
        refine And.intro (fun w2 => ?_) (fun w2 => ?_)
        · repeat (first | refine And.intro (fun _ => ?_) (fun h => Bool.noConfusion h) | refine And.intro (fun h => Bool.noConfusion h) (fun _ => ?_))
          exact And.intro (congrArg D.bool (badx (fun h => absurd (of_decide_eq_true w2) (by have := h.2.1; omega)))) rfl
        repeat (first | refine And.intro (fun _ => ?_) (fun h => Bool.noConfusion h) | refine And.intro (fun h => Bool.noConfusion h) (fun _ => ?_))
        have w2 := of_decide_eq_false w2
        show Ok _ _ _ _ _
        refine Ok.loopN hLT hmix [] [0, 2, 3, 4, 5, 6, 7, 8, 11, 15, 63, 68, 83, 87, 95] [0,3,4,5,6,7,8,2] [5,7] (fun n s => ∃ (j : Nat), n = sn.length - j ∧ j ≤ sn.length ∧ x ∉ sn.take j ∧ s = sTj p r x sn sz i k j) (n := sn.length) ⟨0, rfl, Nat.zero_le _, by simp, rfl⟩ ?_
        rintro n s ⟨j, rfl, hj, hjx, rfl⟩
        refine And.intro (fun v1 => ?_) (fun v1 => ?_)
        · have v1 : ((j : Nat) : Int) < ((sn.map rowS).length : Int) := of_decide_eq_true v1
          rw [List.length_map] at v1
          have hwj := wrap_succ (i := j) (n := sn.length) (by omega) (by omega)
          refine ⟨⟨63, [0, 0, 3, 4, 0, 24], [1, 2, 7, 15, 16, 63]⟩, by kernel_rfl, ?_⟩
          refine ⟨(sn).map rowS, rowS ((sn)[j]'(by omega)), rfl, by omega, row_at' rowS (sn) (by omega) (by omega), rfl, of_decide_eq_true rfl, ?_⟩
          refine And.intro rfl ?_
          refine ⟨_, _, rfl, rfl, rfl, ?_⟩
          refine And.intro rfl ?_
          refine And.intro (fun v2 => ?_) (fun v2 => ?_)
          · have v2 := stp_eq v2
            exact And.intro (congrArg D.bool (badx (fun h => h.2.2 (by rw [← v2]; exact List.getElem_mem _)))) rfl
          · have v2 := stp_ne v2
            refine ⟨sn.length - (j + 1), by omega, j + 1, rfl, by omega, ?_, ?_⟩
            · rw [List.take_succ_eq_append_getElem (by omega), List.mem_append]
              rintro (h | h)
              · exact hjx h
              · exact v2 (List.mem_singleton.1 h).symm
            · unfold sTj
              rw [← hwj]
              rfl
        · have v1 : ¬ ((j : Nat) : Int) < ((sn.map rowS).length : Int) := of_decide_eq_false v1
          rw [List.length_map] at v1
          rw [List.take_of_length_le (by omega)] at hjx
          have hxok : 1 ≤ x.ord ∧ x.ord ≤ 1000000 ∧ x ∉ sn := ⟨by omega, by omega, hjx⟩
          rw [decide_eq_true hxok, Bool.true_and] at hkx
          refine And.intro trivial (And.intro (by rcases hsz with rfl | rfl <;> rfl) (And.intro ?_ (And.intro rfl ?_)))
          · show ((sn.map rowS).length + 1) * 16 ≤ 140737488355328
            rw [List.length_map]
            omega
          refine ⟨r.st.length - (k + 1), by omega, k + 1, 2, rfl, by omega, .inr rfl, by rw [htk]; exact hkx, ?_⟩
          unfold sTk
          rw [htk, List.map_append, ← hwk]
          rfl
      · have g1 : ¬ ((k : Nat) : Int) < ((r.st.map rowS).length : Int) := of_decide_eq_false g1
        rw [List.length_map] at g1
        rw [List.drop_eq_nil_of_le (by omega)] at hkx
        have hkx : rightG r.drv (seen ++ r.st) (p.drop (i + 1)) = rightG 0 [] p := hkx
        rw [List.take_of_length_le (by omega)]
        refine ⟨p.length - (i + 1), by omega, i + 1, sz, seen ++ r.st, rfl, by omega, hsz, by rw [List.length_append]; omega, by rw [hls]; omega, by rw [hls]; exact hkx, ?_⟩
        unfold sTi
        rw [← hw]
        rfl
    · have q3 : ¬ ((i : Nat) : Int) > 0 := of_decide_eq_false q3
      have hlt : lastP p i < r.drv := by
        unfold lastP
        rw [dif_neg (by omega)]
        omega
      repeat (first | refine And.intro (fun _ => ?_) (fun h => Bool.noConfusion h) | refine And.intro (fun h => Bool.noConfusion h) (fun _ => ?_))
      refine And.intro (fun q5 => ?_) (fun q5 => ?_)
      · repeat (first | refine And.intro (fun _ => ?_) (fun h => Bool.noConfusion h) | refine And.intro (fun h => Bool.noConfusion h) (fun _ => ?_))
        exact And.intro (congrArg D.bool (bad (fun h => absurd (of_decide_eq_true q5) (by rw [List.length_map]; have := h.2.2.1; omega)))) rfl
      repeat (first | refine And.intro (fun _ => ?_) (fun h => Bool.noConfusion h) | refine And.intro (fun h => Bool.noConfusion h) (fun _ => ?_))
      have q5 := of_decide_eq_false q5
      refine And.intro (fun q6 => ?_) (fun q6 => ?_)
      · repeat (first | refine And.intro (fun _ => ?_) (fun h => Bool.noConfusion h) | refine And.intro (fun h => Bool.noConfusion h) (fun _ => ?_))
        exact And.intro (congrArg D.bool (bad (fun h => absurd (of_decide_eq_true q6) (by have := h.2.2.2.1; omega)))) rfl
      repeat (first | refine And.intro (fun _ => ?_) (fun h => Bool.noConfusion h) | refine And.intro (fun h => Bool.noConfusion h) (fun _ => ?_))
      have q6 := of_decide_eq_false q6
      refine And.intro (fun q7 => ?_) (fun q7 => ?_)
      · repeat (first | refine And.intro (fun _ => ?_) (fun h => Bool.noConfusion h) | refine And.intro (fun h => Bool.noConfusion h) (fun _ => ?_))
        exact And.intro (congrArg D.bool (bad (fun h => absurd (of_decide_eq_true q7) (by rw [List.length_map]; have := h.2.2.2.2; omega)))) rfl
      repeat (first | refine And.intro (fun _ => ?_) (fun h => Bool.noConfusion h) | refine And.intro (fun h => Bool.noConfusion h) (fun _ => ?_))
      have q7 := of_decide_eq_false q7
      rw [List.length_map] at q5 q7
      have hok : hdOK (lastP p i) r := ⟨hlt, by omega, by omega, by omega, by omega⟩
      rw [decide_eq_true hok, Bool.true_and] at hix
      show Ok _ _ _ _ _
      refine Ok.loopN hLT hmix [] [0, 2, 3, 4, 5, 6, 7, 8, 11, 15, 63, 68, 83, 87, 95] [0,3,4,5,6,2] [5] (fun n s => ∃ (k sz : Nat), n = r.st.length - k ∧ k ≤ r.st.length ∧ (sz = 0 ∨ sz = 2) ∧ (stOK (seen ++ r.st.take k) (r.st.drop k) && rightG r.drv (seen ++ r.st) (p.drop (i + 1))) = rightG 0 [] p ∧ s = sTk p r (seen ++ r.st.take k) sz i k) (n := r.st.length) ⟨0, sz, rfl, Nat.zero_le _, hsz, by rw [List.take_zero, List.append_nil]; exact hix, by rw [List.take_zero, List.append_nil]; rfl⟩ ?_
      rintro n s ⟨k, sz, rfl, hk, hsz, hkx, rfl⟩
      refine And.intro (fun g1 => ?_) (fun g1 => ?_)
      · have g1 : ((k : Nat) : Int) < ((r.st.map rowS).length : Int) := of_decide_eq_true g1
        rw [List.length_map] at g1
        have hwk := wrap_succ (i := k) (n := r.st.length) (by omega) (by omega)
        rw [stOK_at (by omega)] at hkx
        have htk : seen ++ r.st.take (k + 1) = seen ++ r.st.take k ++ [r.st[k]] := by
          rw [List.append_assoc, List.take_succ_eq_append_getElem (by omega)]
        have hsn : (seen ++ r.st.take k).length ≤ 800 := by
          rw [List.length_append, List.length_take]
          omega
        rw [htk] at hkx
        refine ⟨(r.st).map rowS, rowS ((r.st)[k]'(by omega)), rfl, by omega, row_at' rowS (r.st) (by omega) (by omega), rfl, of_decide_eq_true rfl, ?_⟩
        generalize r.st[k] = x at hkx htk ⊢
        generalize seen ++ r.st.take k = sn at hkx htk hsn ⊢
        have badx : ¬ (1 ≤ x.ord ∧ x.ord ≤ 1000000 ∧ x ∉ sn) → false = rightG 0 [] p := fun h => by rw [← hkx, decide_eq_false h]; rfl
        refine And.intro (fun w1 => ?_) (fun w1 => ?_)
        · repeat (first | refine And.intro (fun _ => ?_) (fun h => Bool.noConfusion h) | refine And.intro (fun h => Bool.noConfusion h) (fun _ => ?_))
          exact And.intro (congrArg D.bool (badx (fun h => absurd (of_decide_eq_true w1) (by have := h.1; omega)))) rfl
        repeat (first | refine And.intro (fun _ => ?_) (fun h => Bool.noConfusion h) | refine And.intro (fun h => Bool.noConfusion h) (fun _ => ?_))
        have w1 := of_decide_eq_false w1
        refine And.intro (fun w2 => ?_) (fun w2 => ?_)
        · repeat (first | refine And.intro (fun _ => ?_) (fun h => Bool.noConfusion h) | refine And.intro (fun h => Bool.noConfusion h) (fun _ => ?_))
          exact And.intro (congrArg D.bool (badx (fun h => absurd (of_decide_eq_true w2) (by have := h.2.1; omega)))) rfl
        repeat (first | refine And.intro (fun _ => ?_) (fun h => Bool.noConfusion h) | refine And.intro (fun h => Bool.noConfusion h) (fun _ => ?_))
        have w2 := of_decide_eq_false w2
        show Ok _ _ _ _ _
        refine Ok.loopN hLT hmix [] [0, 2, 3, 4, 5, 6, 7, 8, 11, 15, 63, 68, 83, 87, 95] [0,3,4,5,6,7,8,2] [5,7] (fun n s => ∃ (j : Nat), n = sn.length - j ∧ j ≤ sn.length ∧ x ∉ sn.take j ∧ s = sTj p r x sn sz i k j) (n := sn.length) ⟨0, rfl, Nat.zero_le _, by simp, rfl⟩ ?_
        rintro n s ⟨j, rfl, hj, hjx, rfl⟩
        refine And.intro (fun v1 => ?_) (fun v1 => ?_)
        · have v1 : ((j : Nat) : Int) < ((sn.map rowS).length : Int) := of_decide_eq_true v1
          rw [List.length_map] at v1
          have hwj := wrap_succ (i := j) (n := sn.length) (by omega) (by omega)
          refine ⟨⟨63, [0, 0, 3, 4, 0, 24], [1, 2, 7, 15, 16, 63]⟩, by kernel_rfl, ?_⟩
          refine ⟨(sn).map rowS, rowS ((sn)[j]'(by omega)), rfl, by omega, row_at' rowS (sn) (by omega) (by omega), rfl, of_decide_eq_true rfl, ?_⟩
          refine And.intro rfl ?_
          refine ⟨_, _, rfl, rfl, rfl, ?_⟩
          refine And.intro rfl ?_
          refine And.intro (fun v2 => ?_) (fun v2 => ?_)
          · have v2 := stp_eq v2
            exact And.intro (congrArg D.bool (badx (fun h => h.2.2 (by rw [← v2]; exact List.getElem_mem _)))) rfl
          · have v2 := stp_ne v2
            refine ⟨sn.length - (j + 1), by omega, j + 1, rfl, by omega, ?_, ?_⟩
            · rw [List.take_succ_eq_append_getElem (by omega), List.mem_append]
              rintro (h | h)
              · exact hjx h
              · exact v2 (List.mem_singleton.1 h).symm
            · unfold sTj
              rw [← hwj]
              rfl
        · have v1 : ¬ ((j : Nat) : Int) < ((sn.map rowS).length : Int) := of_decide_eq_false v1
          rw [List.length_map] at v1
          rw [List.take_of_length_le (by omega)] at hjx
          have hxok : 1 ≤ x.ord ∧ x.ord ≤ 1000000 ∧ x ∉ sn := ⟨by omega, by omega, hjx⟩
          rw [decide_eq_true hxok, Bool.true_and] at hkx
          refine And.intro trivial (And.intro (by rcases hsz with rfl | rfl <;> rfl) (And.intro ?_ (And.intro rfl ?_)))
          · show ((sn.map rowS).length + 1) * 16 ≤ 140737488355328
            rw [List.length_map]
            omega
          refine ⟨r.st.length - (k + 1), by omega, k + 1, 2, rfl, by omega, .inr rfl, by rw [htk]; exact hkx, ?_⟩
          unfold sTk
          rw [htk, List.map_append, ← hwk]
          rfl
      · have g1 : ¬ ((k : Nat) : Int) < ((r.st.map rowS).length : Int) := of_decide_eq_false g1
        rw [List.length_map] at g1
        rw [List.drop_eq_nil_of_le (by omega)] at hkx
        have hkx : rightG r.drv (seen ++ r.st) (p.drop (i + 1)) = rightG 0 [] p := hkx
        rw [List.take_of_length_le (by omega)]
        refine ⟨p.length - (i + 1), by omega, i + 1, sz, seen ++ r.st, rfl, by omega, hsz, by rw [List.length_append]; omega, by rw [hls]; omega, by rw [hls]; exact hkx, ?_⟩
        unfold sTi
        rw [← hw]
        rfl
  · have h1 : ¬ ((i : Nat) : Int) < ((p.map rowR).length : Int) := of_decide_eq_false h1
    rw [List.length_map] at h1
    rw [List.drop_eq_nil_of_le (by omega)] at hix
    rw [← hix]
    exact And.intro rfl rfl
theorem c_drayref9_Right (p : Pln) {r : Nat} {sto : List Ob} (hr : r ≤ sto.length) : Tri Try.prog 23 r [encP p] sto (fun d k => d = .bool (rightP p) ∧ k = sto) :=
  (c_drayref9_Right_0 p).pure rfl (nrBL_P rfl) rfl rfl hr
end Go.Lv

namespace Go.Lv
open Go.Proofs

/-! ### Strictly rising lists -/
theorem strict_ext : ∀ {l m : List Int}, l.Pairwise (· < ·) → m.Pairwise (· < ·) → (∀ x, x ∈ l ↔ x ∈ m) → l = m
  | [], [], _, _, _ => rfl
  | [], y :: m, _, _, h => absurd ((h y).2 (by simp)) (by simp)
  | x :: l, [], _, _, h => absurd ((h x).1 (by simp)) (by simp)
  | x :: l, y :: m, hl, hm, h => by
    rw [List.pairwise_cons] at hl hm
    have hxy : x = y := by
      rcases List.mem_cons.1 ((h x).1 (by simp)) with e | h1
      · exact e
      · rcases List.mem_cons.1 ((h y).2 (by simp)) with e | h2
        · exact e.symm
        · have := hm.1 x h1
          have := hl.1 y h2
          omega
    subst hxy
    rw [strict_ext hl.2 hm.2 fun z => ?_]
    constructor
    · intro hz
      rcases List.mem_cons.1 ((h z).1 (by simp [hz])) with e | h1
      · have := hl.1 z hz; omega
      · exact h1
    · intro hz
      rcases List.mem_cons.1 ((h z).2 (by simp [hz])) with e | h1
      · have := hm.1 z hz; omega
      · exact h1
theorem compact_upto {zs : List Int} (hs : zs.Pairwise (· ≤ ·)) : ∀ m, m ≤ zs.length → (Lib.compactUpTo zs.toArray m).Pairwise (· < ·) ∧ (∀ x, x ∈ Lib.compactUpTo zs.toArray m ↔ x ∈ zs.take m)
  | 0, _ => by simp [Lib.compactUpTo]
  | m + 1, hm => by
    obtain ⟨h1, h2⟩ := compact_upto hs m (by omega)
    rw [Lib.compactUpTo_succ]
    have hd : zs.toArray[m]! = zs[m] := by simp [getElem!_def, show m < zs.length by omega]
    have hle : ∀ x, x ∈ zs.take m → x ≤ zs[m] := fun x hx => by
      obtain ⟨j, hj, rfl⟩ := List.mem_iff_getElem.1 hx
      rw [List.length_take] at hj
      rw [List.getElem_take]
      exact List.pairwise_iff_getElem.1 hs j m (by omega) (by omega) (by omega)
    rw [List.take_succ_eq_append_getElem (by omega)]
    cases hk : Lib.keeps zs.toArray m with
    | true =>
      rw [if_pos rfl, hd]
      have hlt : ∀ x, x ∈ zs.take m → x < zs[m] := fun x hx => by
        have h3 := hle x hx
        rcases Int.lt_or_eq_of_le h3 with h | h
        · exact h
        · exfalso
          have h0 : 0 < m := by
            rcases Nat.eq_zero_or_pos m with e | e
            · subst e; simp at hx
            · exact e
          have hd1 : zs.toArray[m - 1]! = zs[m - 1] := by simp [getElem!_def, show m - 1 < zs.length by omega]
          have hne : zs[m] ≠ zs[m - 1] := by
            intro e
            rw [Lib.keeps_neg h0 (by rw [hd, hd1]; exact e)] at hk
            cases hk
          obtain ⟨j, hj, e⟩ := List.mem_iff_getElem.1 hx
          rw [List.length_take] at hj
          rw [List.getElem_take] at e
          have h5 : zs[m - 1] ≤ zs[m] := List.pairwise_iff_getElem.1 hs (m - 1) m (by omega) (by omega) (by omega)
          have h6 : zs[j] ≤ zs[m - 1] := by
            rcases Nat.lt_or_ge j (m - 1) with q | q
            · exact List.pairwise_iff_getElem.1 hs j (m - 1) (by omega) (by omega) q
            · have : j = m - 1 := by omega
              subst this
              exact Int.le_refl _
          omega
      refine ⟨List.pairwise_append.2 ⟨h1, by simp, fun x hx y hy => ?_⟩, fun x => by simp only [List.mem_append, h2, List.mem_singleton]⟩
      rw [List.mem_singleton.1 hy]
      exact hlt x ((h2 x).1 hx)
    | false =>
      rw [if_neg (by simp), List.append_nil]
      refine ⟨h1, fun x => ?_⟩
      rw [h2]
      have h0 : 0 < m ∧ zs[m] = zs[m - 1] := by
        refine Classical.byContradiction fun hn => ?_
        have : Lib.keeps zs.toArray m = true := by
          rcases Nat.eq_zero_or_pos m with e | e
          · subst e; exact Lib.keeps_lt_one _ 0 (by omega)
          · refine Lib.keeps_pos ?_
            have hd1 : zs.toArray[m - 1]! = zs[m - 1] := by simp [getElem!_def, show m - 1 < zs.length by omega]
            rw [hd, hd1]
            exact fun q => hn ⟨e, q⟩
        rw [this] at hk
        cases hk
      have hm1 : zs[m - 1] ∈ zs.take m := List.mem_iff_getElem.2 ⟨m - 1, by rw [List.length_take]; omega, by rw [List.getElem_take]⟩
      simp only [List.mem_append, List.mem_singleton]
      constructor
      · exact .inl
      · rintro (h | h)
        · exact h
        · rw [h, h0.2]; exact hm1
theorem compact_sorted {zs : List Int} (hs : zs.Pairwise (· ≤ ·)) : (Lib.compact zs).Pairwise (· < ·) ∧ (∀ x, x ∈ Lib.compact zs ↔ x ∈ zs) := by
  have := compact_upto hs zs.length (Nat.le_refl _)
  rw [List.take_length] at this
  exact this
noncomputable def allO (p : Pln) : List Int := (p.map fun r => r.st.map Stp.ord).flatten
/-- The orders that have a stop, rising. -/
noncomputable def ordP (p : Pln) : List Int := Lib.compact (sortI (allO p))
theorem ordP_strict (p : Pln) : (ordP p).Pairwise (· < ·) := (compact_sorted (sortI_sorted _)).1
theorem ordP_mem (p : Pln) (x : Int) : x ∈ ordP p ↔ x ∈ allO p := by
  unfold ordP
  rw [(compact_sorted (sortI_sorted _)).2, (sortI_perm _).mem_iff]
theorem allO_take {p : Pln} {i : Nat} (h : i < p.length) : allO (p.take (i + 1)) = allO (p.take i) ++ p[i].st.map Stp.ord := by
  unfold allO
  rw [List.take_succ_eq_append_getElem h, List.map_append, List.flatten_append]
  simp
theorem allO_le {p : Pln} (i : Nat) : (allO (p.take i)).length ≤ (allO p).length := by
  have : allO p = allO (p.take i) ++ allO (p.drop i) := by
    unfold allO
    rw [← List.flatten_append, ← List.map_append, List.take_append_drop]
  rw [this, List.length_append]
  omega
theorem intsOf_rows : ∀ l : List Int, intsOf (l.map rowI) = some l
  | [] => rfl
  | x :: l => by
    have ih := intsOf_rows l
    simp only [List.map_cons, intsOf, rowI, intOf] at ih ⊢
    rw [ih]
    rfl
noncomputable def sOi (p : Pln) (acc : List Int) (sz i : Nat) : DS := ⟨[(3, .list (.own sz) (acc.map rowI)), (8, encP p), (9, .int .i64 (p.length : Int)), (10, .int .i64 (i : Int)), (2, .list (.own 0) [])], [], [], mR 0⟩
noncomputable def sOj (p : Pln) (l : List Stp) (acc : List Int) (sz i j : Nat) : DS := ⟨[(3, .list (.own sz) (acc.map rowI)), (8, encP p), (9, .int .i64 (p.length : Int)), (10, .int .i64 (i : Int)), (15, .list .imm (l.map rowS)), (16, .int .i64 (l.length : Int)), (17, .int .i64 (j : Int)), (2, .list (.own 0) [])], [], [], mR 0⟩
noncomputable def ordR (p : Pln) (d : D) : Prop := ∃ sz, d = .list (.own sz) ((ordP p).map rowI)
set_option maxHeartbeats 8000000 in
theorem c_plan_Orders_0 (p : Pln) (hp : szP p) (htot : (allO p).length ≤ 4000000000000) : Tri Try.prog 13 0 [encP p] [] (fun d k => ordR p d ∧ k = []) := by
  refine Tri.walk2 (L := LT) (c := {n := 32, ko := [2, 3], xf := [21, 30]}) [(36,3,[]),(37,0,[0])] [0, 2, 3, 5, 7, 8, 9, 10, 11, 15, 16, 17, 18] hLT hmix Try.func13 rfl rfl ⟨rfl, rfl⟩ (by show 1 ≤ 32; decide) (by first | exact Nat.zero_le _ | exact Nat.le_refl _ | decide) ?_
  have hlen : ((p.map rowR).length : Int) = (p.length : Int) := by rw [List.length_map]
  show Ok _ _ _ _ _
  refine Ok.loopN hLT hmix [(36,3,[]),(37,0,[0])] [0, 2, 3, 5, 7, 8, 9, 10, 11, 15, 16, 17, 18] [3,8,9,10,2] [] (fun n t => ∃ (i sz : Nat), n = p.length - i ∧ i ≤ p.length ∧ ((sz = 0 ∧ allO (p.take i) = []) ∨ sz = 1) ∧ t = sOi p (allO (p.take i)) sz i) (n := p.length) ⟨0, 0, rfl, Nat.zero_le _, .inl ⟨rfl, rfl⟩, by unfold sOi; rw [← hlen]; rfl⟩ ?_
  rintro n t ⟨i, sz, rfl, hi, hsz, rfl⟩
  refine And.intro (fun h1 => ?_) (fun h1 => ?_)
  rotate_left
  · have h1 : ¬ ((i : Nat) : Int) < (p.length : Int) := of_decide_eq_false h1
    rw [List.take_of_length_le (by omega)] at hsz ⊢
    have fin : ∀ zs : List Int, Lib.compact zs = ordP p → ∀ sz, Tri Try.prog 37 0 [.list (.own sz) (zs.map rowI)] [] (fun d k => d = .list (.own sz) ((ordP p).map rowI) ∧ k = []) ∨ zs.length > 9223372036854775807 := fun zs hz sz => by
      by_cases hl : zs.length ≤ 9223372036854775807
      · have := compC_tri compC (intsOf_rows zs) hl (r := 0) (sto := []) (sz := sz) (Nat.le_refl 0)
        rw [hz] at this
        exact .inl this
      · exact .inr (by omega)
    have hsl : (sortI (allO p)).length ≤ 4000000000000 := by rw [(sortI_perm _).length_eq]; exact htot
    rcases hsz with ⟨rfl, he⟩ | rfl
    · have hz : Lib.compact ([] : List Int) = ordP p := by unfold ordP; rw [he]; rfl
      rw [he]
      refine OpOk.turn (zs := []) sortC rfl rfl rfl rfl (fun _ => ?_) (fun h => absurd rfl h)
      refine ⟨rfl, (by first | exact Nat.zero_le _ | decide), (((fin [] hz 0).resolve_right (by simp))).mono ?_⟩
      rintro d l ⟨rfl, rfl⟩
      refine ⟨rfl, fun _ _ => rfl, rfl, ?_⟩
      exact And.intro ⟨0, rfl⟩ rfl
    · have cc := (fin (sortI (allO p)) rfl 1).resolve_right (by omega)
      refine OpOk.turn (zs := allO p) sortC rfl rfl rfl rfl (fun h => ?_) (fun h => ⟨⟨rfl, rfl⟩, rfl, by omega, ?_⟩)
      · rw [h] at cc ⊢
        refine ⟨rfl, (by first | exact Nat.zero_le _ | decide), (cc).mono ?_⟩
        rintro d l ⟨rfl, rfl⟩
        refine ⟨rfl, fun _ _ => rfl, rfl, ?_⟩
        exact And.intro ⟨1, rfl⟩ rfl
      · refine ⟨rfl, (by first | exact Nat.zero_le _ | decide), (cc).mono ?_⟩
        rintro d l ⟨rfl, rfl⟩
        refine ⟨rfl, fun _ _ => rfl, rfl, ?_⟩
        exact And.intro ⟨1, rfl⟩ rfl
  have h1 : ((i : Nat) : Int) < (p.length : Int) := of_decide_eq_true h1
  have hip : i < p.length := by omega
  have hw := wrap_succ (i := i) (n := p.length) (by omega) hp.len
  have hst := hp.st p[i] (List.getElem_mem _)
  have htk := allO_take hip
  have hle := allO_le (p := p) (i + 1)
  refine ⟨(p).map rowR, rowR ((p)[i]'(by omega)), rfl, by omega, row_at' rowR (p) (by omega) (by omega), rfl, of_decide_eq_true rfl, ?_⟩
  generalize p[i] = r at hst htk ⊢
  rw [htk] at hle
  generalize allO (p.take i) = acc at hsz htk hle ⊢
  have hls : ((r.st.map rowS).length : Int) = (r.st.length : Int) := by rw [List.length_map]
  show Ok _ _ _ _ _
  refine Ok.loopN hLT hmix [(36,3,[]),(37,0,[0])] [0, 2, 3, 5, 7, 8, 9, 10, 11, 15, 16, 17, 18] [3,8,9,10,15,16,17,2] [] (fun n t => ∃ (j sz : Nat), n = r.st.length - j ∧ j ≤ r.st.length ∧ ((sz = 0 ∧ acc ++ (r.st.take j).map Stp.ord = []) ∨ sz = 1) ∧ t = sOj p r.st (acc ++ (r.st.take j).map Stp.ord) sz i j) (n := r.st.length) ⟨0, sz, rfl, Nat.zero_le _, by rw [List.take_zero, List.map_nil, List.append_nil]; exact hsz, by rw [List.take_zero, List.map_nil, List.append_nil]; unfold sOj; rw [← hls]; rfl⟩ ?_
  rintro n t ⟨j, sz, rfl, hj, hsz, rfl⟩
  refine And.intro (fun g1 => ?_) (fun g1 => ?_)
  rotate_left
  · have g1 : ¬ ((j : Nat) : Int) < (r.st.length : Int) := of_decide_eq_false g1
    rw [List.take_of_length_le (by omega)] at hsz ⊢
    refine ⟨p.length - (i + 1), by omega, i + 1, sz, rfl, by omega, by rw [htk]; exact hsz, ?_⟩
    unfold sOi
    rw [htk, ← hw]
    rfl
  have g1 : ((j : Nat) : Int) < (r.st.length : Int) := of_decide_eq_true g1
  have hjr : j < r.st.length := by omega
  have hwj := wrap_succ (i := j) (n := r.st.length) (by omega) hst
  have hjk : acc ++ (r.st.take (j + 1)).map Stp.ord = acc ++ (r.st.take j).map Stp.ord ++ [r.st[j].ord] := by
    rw [List.take_succ_eq_append_getElem hjr, List.map_append, List.append_assoc]
    rfl
  have hcl : (acc ++ (r.st.take j).map Stp.ord).length + 1 ≤ 4000000000000 := by
    rw [List.length_append, List.length_map] at hle
    rw [List.length_append, List.length_map, List.length_take]
    omega
  refine ⟨(r.st).map rowS, rowS ((r.st)[j]'(by omega)), rfl, by omega, row_at' rowS (r.st) (by omega) (by omega), rfl, of_decide_eq_true rfl, ?_⟩
  generalize r.st[j] = x at hjk ⊢
  generalize acc ++ (r.st.take j).map Stp.ord = cs at hsz hjk hcl ⊢
  refine And.intro trivial (And.intro (show ((sz == 0 || sz == LT.size 3) && decide (0 < LT.size 3) && decide (0 < LT.bytes 3) && (LT.zero 3).isSome) = true by rcases hsz with ⟨rfl, _⟩ | rfl <;> rfl) (And.intro (show ((cs.map rowI).length + 1) * 8 ≤ 140737488355328 by rw [List.length_map]; omega) (And.intro rfl ?_)))
  refine ⟨r.st.length - (j + 1), by omega, j + 1, 1, rfl, by omega, .inr rfl, ?_⟩
  unfold sOj
  rw [hjk, ← hwj, List.map_append]
  rfl
theorem ordR_ok {p : Pln} {d : D} (h : ordR p d) : partsOK d = true ∧ nrB 0 d = true := by
  obtain ⟨sz, rfl⟩ := h
  exact ⟨rfl, nrBLL_I _⟩
end Go.Lv

namespace Go.Lv
open Go.Proofs

structure szQ (p : Pln) : Prop where
  len : p.length * 40 ≤ 140737488351232
  st : ∀ r, r ∈ p → r.st.length * 16 ≤ 140737488351232
theorem szQ.P {p : Pln} (h : szQ p) : szP p := ⟨by have := h.len; omega, fun r hr => by have := h.st r hr; omega⟩
theorem take_ext {α : Type} {a b : List α} {i : Nat} (h : a.length = b.length) (hi : i < a.length) (ht : a.take i = b.take i) (he : a[i] = b[i]'(by omega)) : a.take (i + 1) = b.take (i + 1) := by
  rw [List.take_succ_eq_append_getElem hi, List.take_succ_eq_append_getElem (by omega), ht, he]
noncomputable def sSs (al bl : List Stp) (i : Nat) : DS := ⟨[(0, .list .imm (al.map rowS)), (1, .list .imm (bl.map rowS)), (5, .int .i64 (i : Int)), (4, .bool false)], [], [], mR 0⟩
set_option maxHeartbeats 4000000 in
theorem c_draybook_Same_Stop_0 (al bl : List Stp) (ha : al.length ≤ 1000000000000000) (hb : bl.length ≤ 1000000000000000) :
    Tri Try.prog 16 0 [.list .imm (al.map rowS), .list .imm (bl.map rowS)] [] (fun d l => d = .bool (decide (al = bl)) ∧ l = []) := by
  refine Tri.walk2 (L := LT) (c := {n := 26, ko := [4]}) [] [0, 1, 4, 5, 10, 14, 25] hLT hmix Try.func16 rfl rfl ⟨rfl, rfl⟩ (by show 2 ≤ 26; decide) (by first | exact Nat.zero_le _ | exact Nat.le_refl _ | decide) ?_
  refine And.intro (fun h0 => ?_) (fun h0 => ?_)
  · have h0 := nd_true h0
    rw [List.length_map, List.length_map] at h0
    rw [decide_eq_false (fun e => h0 (by rw [e]))]
    exact And.intro rfl rfl
  have h0 := nd_false h0
  rw [List.length_map, List.length_map] at h0
  have h0 : al.length = bl.length := by omega
  show Ok _ _ _ _ _
  refine Ok.loopN hLT hmix [] [0, 1, 4, 5, 10, 14, 25] [0,1,5,4] [] (fun n s => ∃ i : Nat, n = al.length - i ∧ i ≤ al.length ∧ al.take i = bl.take i ∧ s = sSs al bl i) (n := al.length) ⟨0, rfl, Nat.zero_le _, by simp, rfl⟩ ?_
  rintro n s ⟨i, rfl, hi, ht, rfl⟩
  refine And.intro (fun h1 => ?_) (fun h1 => ?_)
  · have h1 : ((i : Nat) : Int) < ((al.map rowS).length : Int) := of_decide_eq_true h1
    rw [List.length_map] at h1
    have hw := wrap_succ (i := i) (n := al.length) (by omega) ha
    refine ⟨⟨511, [0, 0, 3, 4, 0, 0, 48, 64, 136], [1, 2, 7, 15, 16, 32, 112, 240, 511]⟩, by kernel_rfl, ?_⟩
    refine ⟨(al).map rowS, rowS ((al)[i]'(by omega)), rfl, by omega, row_at' rowS (al) (by omega) (by omega), rfl, of_decide_eq_true rfl, ?_⟩
    refine And.intro rfl ?_
    refine ⟨(bl).map rowS, rowS ((bl)[i]'(by omega)), rfl, by omega, row_at' rowS (bl) (by omega) (by omega), rfl, of_decide_eq_true rfl, ?_⟩
    refine And.intro rfl ?_
    refine And.intro (fun h2 => ?_) (fun h2 => ?_)
    · have h2 := stp_ne (a := al[i]) (b := bl[i]) (by rw [Bool.not_eq_true'] at h2; exact h2)
      rw [decide_eq_false (fun e => h2 (by subst e; rfl))]
      exact And.intro rfl rfl
    · have h2 := stp_eq (a := al[i]) (b := bl[i]) (by rw [Bool.not_eq_false'] at h2; exact h2)
      refine ⟨al.length - (i + 1), by omega, i + 1, rfl, by omega, take_ext h0 (by omega) ht h2, ?_⟩
      unfold sSs
      rw [← hw]
      rfl
  · have h1 : ¬ ((i : Nat) : Int) < ((al.map rowS).length : Int) := of_decide_eq_false h1
    rw [List.length_map] at h1
    rw [List.take_of_length_le (by omega), List.take_of_length_le (by omega)] at ht
    rw [decide_eq_true ht]
    exact And.intro rfl rfl
theorem c_draybook_Same_Stop (al bl : List Stp) (ha : al.length ≤ 1000000000000000) (hb : bl.length ≤ 1000000000000000) {r : Nat} {sto : List Ob} (hr : r ≤ sto.length) :
    Tri Try.prog 16 r [.list .imm (al.map rowS), .list .imm (bl.map rowS)] sto (fun d l => d = .bool (decide (al = bl)) ∧ l = sto) :=
  (c_draybook_Same_Stop_0 al bl ha hb).pure rfl (nrBL_S (nrBL_S rfl)) rfl rfl hr
noncomputable def sRs (p q : Pln) (i : Nat) : DS := ⟨[(0, encP p), (1, encP q), (5, .int .i64 (i : Int)), (4, .bool false)], [], [], mR 0⟩
set_option maxHeartbeats 8000000 in
theorem c_draykeep_Routes_0 (p q : Pln) (hp : szP p) (hq : szP q) : Tri Try.prog 17 0 [encP p, encP q] [] (fun d l => d = .bool (decide (p = q)) ∧ l = []) := by
  refine Tri.walk2 (L := LT) (c := {n := 55, ko := [4]}) [] [0, 1, 4, 5, 10, 14, 54] hLT hmix Try.func17 rfl rfl ⟨rfl, rfl⟩ (by show 2 ≤ 55; decide) (by first | exact Nat.zero_le _ | exact Nat.le_refl _ | decide) ?_
  refine And.intro (fun h0 => ?_) (fun h0 => ?_)
  · have h0 := nd_true h0
    rw [List.length_map, List.length_map] at h0
    rw [decide_eq_false (fun e => h0 (by rw [e]))]
    exact And.intro rfl rfl
  have h0 := nd_false h0
  rw [List.length_map, List.length_map] at h0
  have h0 : p.length = q.length := by omega
  show Ok _ _ _ _ _
  refine Ok.loopN hLT hmix [] [0, 1, 4, 5, 10, 14, 54] [0,1,5,4] [] (fun n s => ∃ i : Nat, n = p.length - i ∧ i ≤ p.length ∧ p.take i = q.take i ∧ s = sRs p q i) (n := p.length) ⟨0, rfl, Nat.zero_le _, by simp, rfl⟩ ?_
  rintro n s ⟨i, rfl, hi, ht, rfl⟩
  refine And.intro (fun h1 => ?_) (fun h1 => ?_)
  · have h1 : ((i : Nat) : Int) < ((p.map rowR).length : Int) := of_decide_eq_true h1
    rw [List.length_map] at h1
    have hip : i < p.length := by omega
    have hiq : i < q.length := by omega
    have hw := wrap_succ (i := i) (n := p.length) (by omega) hp.len
    have hps := hp.st p[i] (List.getElem_mem _)
    have hqs := hq.st q[i] (List.getElem_mem _)
    have hne : p[i] ≠ q[i] → .bool false = D.bool (decide (p = q)) := fun h => by rw [decide_eq_false (fun e => h (by subst e; rfl))]
    refine ⟨⟨274877906943, [0, 0, 3, 4, 8, 0, 0, 96, 128, 256, 528, 1024, 2048, 2048, 14336, 18432, 34816, 2048, 2048, 395264, 526336, 1050624, 2164736, 4196352, 8390656, 16777216, 16777216, 117440512, 150994944, 285212672, 16777216, 16777216, 3238002688, 4311744512, 8606711808, 17733517312, 34376515584, 68736253952], [1, 2, 7, 15, 31, 32, 64, 224, 480, 992, 2047, 4095, 8191, 12287, 32767, 65535, 131071, 135167, 266239, 921599, 1970175, 4067327, 8388607, 16777215, 33554431, 67108863, 100663295, 268435455, 536870911, 1073741823, 1107296255, 2181038079, 7549747199, 16139681791, 33319550975, 68719476735, 137438953471, 274877906943]⟩, by kernel_rfl, ?_⟩
    refine ⟨(p).map rowR, rowR ((p)[i]'(by omega)), rfl, by omega, row_at' rowR (p) (by omega) (by omega), rfl, of_decide_eq_true rfl, ?_⟩
    refine And.intro rfl ?_
    refine ⟨(q).map rowR, rowR ((q)[i]'(by omega)), rfl, by omega, row_at' rowR (q) (by omega) (by omega), rfl, of_decide_eq_true rfl, ?_⟩
    refine And.intro rfl ?_
    refine And.intro (fun h2 => ?_) (fun h2 => ?_)
    · repeat (first | refine And.intro (fun _ => ?_) (fun h => Bool.noConfusion h) | refine And.intro (fun h => Bool.noConfusion h) (fun _ => ?_))
      exact And.intro (hne (fun e => nd_true h2 (by rw [e]))) rfl
    have h2 : p[i].drv = q[i].drv := nd_false h2
    repeat (first | refine And.intro (fun _ => ?_) (fun h => Bool.noConfusion h) | refine And.intro (fun h => Bool.noConfusion h) (fun _ => ?_))
    refine ⟨(p).map rowR, rowR ((p)[i]'(by omega)), rfl, by omega, row_at' rowR (p) (by omega) (by omega), rfl, of_decide_eq_true rfl, ?_⟩
    refine And.intro rfl ?_
    refine ⟨(q).map rowR, rowR ((q)[i]'(by omega)), rfl, by omega, row_at' rowR (q) (by omega) (by omega), rfl, of_decide_eq_true rfl, ?_⟩
    refine And.intro rfl ?_
    refine And.intro (fun h3 => ?_) (fun h3 => ?_)
    · repeat (first | refine And.intro (fun _ => ?_) (fun h => Bool.noConfusion h) | refine And.intro (fun h => Bool.noConfusion h) (fun _ => ?_))
      exact And.intro (hne (fun e => nd_true h3 (by rw [e]))) rfl
    have h3 : p[i].srv = q[i].srv := nd_false h3
    repeat (first | refine And.intro (fun _ => ?_) (fun h => Bool.noConfusion h) | refine And.intro (fun h => Bool.noConfusion h) (fun _ => ?_))
    refine ⟨(p).map rowR, rowR ((p)[i]'(by omega)), rfl, by omega, row_at' rowR (p) (by omega) (by omega), rfl, of_decide_eq_true rfl, ?_⟩
    refine And.intro rfl ?_
    refine ⟨(q).map rowR, rowR ((q)[i]'(by omega)), rfl, by omega, row_at' rowR (q) (by omega) (by omega), rfl, of_decide_eq_true rfl, ?_⟩
    refine And.intro rfl ?_
    refine And.intro ?_ trivial
    refine ⟨rfl, (by first | exact Nat.zero_le _ | decide), (c_draybook_Same_Stop_0 p[i].st q[i].st hps hqs).mono ?_⟩
    rintro d l ⟨rfl, rfl⟩
    refine ⟨rfl, fun _ _ => rfl, rfl, ?_⟩
    by_cases h4 : p[i].st = q[i].st
    · rw [decide_eq_true h4]
      refine And.intro (by repeat (first | exact trivial | refine And.intro ⟨rfl, rfl⟩ ?_ | refine And.intro ⟨_, _, rfl, by omega, row_at' _ _ rfl (by omega), rfl, of_decide_eq_true rfl, And.intro rfl (And.intro rfl rfl)⟩ ?_)) ?_
      repeat (first | refine And.intro (fun _ => ?_) (fun h => Bool.noConfusion h) | refine And.intro (fun h => Bool.noConfusion h) (fun _ => ?_))
      have he : p[i] = q[i] := by
        have e1 : p[i] = ⟨p[i].drv, p[i].srv, p[i].st⟩ := rfl
        rw [e1, h2, h3, h4]
      refine ⟨p.length - (i + 1), by omega, i + 1, rfl, by omega, take_ext h0 hip ht he, ?_⟩
      unfold sRs
      rw [← hw]
      rfl
    · rw [decide_eq_false h4]
      refine And.intro (by repeat (first | exact trivial | refine And.intro ⟨rfl, rfl⟩ ?_ | refine And.intro ⟨_, _, rfl, by omega, row_at' _ _ rfl (by omega), rfl, of_decide_eq_true rfl, And.intro rfl (And.intro rfl rfl)⟩ ?_)) ?_
      repeat (first | refine And.intro (fun _ => ?_) (fun h => Bool.noConfusion h) | refine And.intro (fun h => Bool.noConfusion h) (fun _ => ?_))
      exact And.intro (hne (fun e => h4 (by rw [e]))) rfl
  · have h1 : ¬ ((i : Nat) : Int) < ((p.map rowR).length : Int) := of_decide_eq_false h1
    rw [List.length_map] at h1
    rw [List.take_of_length_le (by omega), List.take_of_length_le (by omega)] at ht
    rw [decide_eq_true ht]
    exact And.intro rfl rfl
theorem c_draykeep_Routes (p q : Pln) (hp : szP p) (hq : szP q) {r : Nat} {sto : List Ob} (hr : r ≤ sto.length) : Tri Try.prog 17 r [encP p, encP q] sto (fun d l => d = .bool (decide (p = q)) ∧ l = sto) :=
  (c_draykeep_Routes_0 p q hp hq).pure rfl (nrBL_P (nrBL_P rfl)) rfl rfl hr
theorem allLenS (l : List Stp) : allLen 2 (l.map rowS) = true := by simp [allLen, rowS]
noncomputable def sCp (p : Pln) (sz i : Nat) : DS := ⟨[(0, encP p), (3, .list (.own sz) ((p.take i).map rowR)), (4, .int .i64 (i : Int)), (2, .list (.own 0) [])], [], [], mR 0⟩
noncomputable def copD (p : Pln) (d : D) : Prop := ∃ sz, d = .list (.own sz) (p.map rowR) ∧ (sz = 0 ∨ sz = 3)
set_option maxHeartbeats 8000000 in
theorem c_draykeep_Copy_0 (p : Pln) (hp : szQ p) : Tri Try.prog 25 0 [encP p] [] (fun d l => copD p d ∧ l = []) := by
  refine Tri.walk2 (L := LT) (c := {n := 33, ko := [2, 3], xf := [11, 32]}) [] [0, 2, 3, 4, 8] hLT hmix Try.func25 rfl rfl ⟨rfl, rfl⟩ (by show 1 ≤ 33; decide) (by first | exact Nat.zero_le _ | exact Nat.le_refl _ | decide) ?_
  show Ok _ _ _ _ _
  refine Ok.loopN hLT hmix [] [0, 2, 3, 4, 8] [0,3,4,2] [] (fun n s => ∃ i sz : Nat, n = p.length - i ∧ i ≤ p.length ∧ (sz = 0 ∨ sz = 3) ∧ s = sCp p sz i) (n := p.length) ⟨0, 0, rfl, Nat.zero_le _, .inl rfl, rfl⟩ ?_
  rintro n s ⟨i, sz, rfl, hi, hsz, rfl⟩
  have hpl := hp.len
  refine And.intro (fun h1 => ?_) (fun h1 => ?_)
  · have h1 : ((i : Nat) : Int) < ((p.map rowR).length : Int) := of_decide_eq_true h1
    rw [List.length_map] at h1
    have hip : i < p.length := by omega
    have hw := wrap_succ (i := i) (n := p.length) (by omega) (by omega)
    have hps := hp.st p[i] (List.getElem_mem _)
    refine ⟨⟨2097151, [0, 0, 0, 6, 8, 16, 0, 0, 192, 256, 512, 0, 0, 0, 12288, 16384, 32768, 67584, 132128, 262144, 655361, 2097151], [1, 2, 4, 14, 30, 62, 64, 128, 448, 960, 1984, 2048, 4096, 8192, 28672, 61440, 126976, 260096, 524286, 1048574, 2097151, 4194303]⟩, by kernel_rfl, ?_⟩
    refine ⟨(p).map rowR, rowR ((p)[i]'(by omega)), rfl, by omega, row_at' rowR (p) (by omega) (by omega), rfl, of_decide_eq_true rfl, ?_⟩
    refine And.intro rfl ?_
    refine ⟨(p).map rowR, rowR ((p)[i]'(by omega)), rfl, by omega, row_at' rowR (p) (by omega) (by omega), rfl, of_decide_eq_true rfl, ?_⟩
    refine And.intro rfl ?_
    refine ⟨(p).map rowR, rowR ((p)[i]'(by omega)), rfl, by omega, row_at' rowR (p) (by omega) (by omega), rfl, of_decide_eq_true rfl, ?_⟩
    refine And.intro rfl ?_
    have hrm1 : (0 + (p[i].st.map rowS).length) * 16 ≤ 140737488355328 := by
      rw [List.length_map]
      omega
    have hrm2 : (((p.take i).map rowR).length + 1) * 40 ≤ 140737488355328 := by
      rw [List.length_map, List.length_take]
      omega
    have hszk : ((sz == 0 || sz == LT.size 26) && decide (0 < LT.size 26) && decide (0 < LT.bytes 26) && (LT.zero 26).isSome) = true := by rcases hsz with rfl | rfl <;> rfl
    refine And.intro ?_ (And.intro ?_ trivial)
    · refine And.intro (by repeat (first | exact trivial | refine And.intro ⟨rfl, rfl⟩ ?_ | refine And.intro ⟨_, _, rfl, by omega, row_at' _ _ rfl (by omega), rfl, of_decide_eq_true rfl, And.intro rfl (And.intro rfl rfl)⟩ ?_)) ?_
      refine And.intro ?_ trivial
      refine And.intro (by repeat (first | exact trivial | refine And.intro ⟨rfl, rfl⟩ ?_ | refine And.intro ⟨_, _, rfl, by omega, row_at' _ _ rfl (by omega), rfl, of_decide_eq_true rfl, And.intro rfl (And.intro rfl rfl)⟩ ?_)) ?_
      refine And.intro ?_ trivial
      refine And.intro trivial (And.intro rfl (And.intro hrm1 (And.intro (allLenS _) ?_)))
      refine And.intro (by repeat (first | exact trivial | refine And.intro ⟨rfl, rfl⟩ ?_ | refine And.intro ⟨_, _, rfl, by omega, row_at' _ _ rfl (by omega), rfl, of_decide_eq_true rfl, And.intro rfl (And.intro rfl rfl)⟩ ?_)) ?_
      refine And.intro ?_ trivial
      refine And.intro (by repeat (first | exact trivial | refine And.intro ⟨rfl, rfl⟩ ?_ | refine And.intro ⟨_, _, rfl, by omega, row_at' _ _ rfl (by omega), rfl, of_decide_eq_true rfl, And.intro rfl (And.intro rfl rfl)⟩ ?_)) ?_
      refine And.intro ?_ trivial
      refine And.intro (by repeat (first | exact trivial | refine And.intro ⟨rfl, rfl⟩ ?_ | refine And.intro ⟨_, _, rfl, by omega, row_at' _ _ rfl (by omega), rfl, of_decide_eq_true rfl, And.intro rfl (And.intro rfl rfl)⟩ ?_)) ?_
      refine And.intro ?_ trivial
      refine And.intro trivial (And.intro hszk (And.intro hrm2 (And.intro rfl ?_)))
      refine And.intro (by repeat (first | exact trivial | refine And.intro ⟨rfl, rfl⟩ ?_ | refine And.intro ⟨_, _, rfl, by omega, row_at' _ _ rfl (by omega), rfl, of_decide_eq_true rfl, And.intro rfl (And.intro rfl rfl)⟩ ?_)) ?_
      refine And.intro ?_ trivial
      refine And.intro (by repeat (first | exact trivial | refine And.intro ⟨rfl, rfl⟩ ?_ | refine And.intro ⟨_, _, rfl, by omega, row_at' _ _ rfl (by omega), rfl, of_decide_eq_true rfl, And.intro rfl (And.intro rfl rfl)⟩ ?_)) ?_
      refine ⟨p.length - (i + 1), by omega, i + 1, 3, rfl, by omega, .inr rfl, ?_⟩
      unfold sCp
      rw [← hw, List.take_succ_eq_append_getElem hip, List.map_append]
      rfl
    refine And.intro (by repeat (first | exact trivial | refine And.intro ⟨rfl, rfl⟩ ?_ | refine And.intro ⟨_, _, rfl, by omega, row_at' _ _ rfl (by omega), rfl, of_decide_eq_true rfl, And.intro rfl (And.intro rfl rfl)⟩ ?_)) ?_
    refine And.intro ?_ (And.intro ?_ trivial)
    · refine And.intro (by repeat (first | exact trivial | refine And.intro ⟨rfl, rfl⟩ ?_ | refine And.intro ⟨_, _, rfl, by omega, row_at' _ _ rfl (by omega), rfl, of_decide_eq_true rfl, And.intro rfl (And.intro rfl rfl)⟩ ?_)) ?_
      refine And.intro ?_ trivial
      refine And.intro trivial (And.intro rfl (And.intro hrm1 (And.intro (allLenS _) ?_)))
      refine And.intro (by repeat (first | exact trivial | refine And.intro ⟨rfl, rfl⟩ ?_ | refine And.intro ⟨_, _, rfl, by omega, row_at' _ _ rfl (by omega), rfl, of_decide_eq_true rfl, And.intro rfl (And.intro rfl rfl)⟩ ?_)) ?_
      refine And.intro ?_ trivial
      refine And.intro (by repeat (first | exact trivial | refine And.intro ⟨rfl, rfl⟩ ?_ | refine And.intro ⟨_, _, rfl, by omega, row_at' _ _ rfl (by omega), rfl, of_decide_eq_true rfl, And.intro rfl (And.intro rfl rfl)⟩ ?_)) ?_
      refine And.intro ?_ trivial
      refine And.intro (by repeat (first | exact trivial | refine And.intro ⟨rfl, rfl⟩ ?_ | refine And.intro ⟨_, _, rfl, by omega, row_at' _ _ rfl (by omega), rfl, of_decide_eq_true rfl, And.intro rfl (And.intro rfl rfl)⟩ ?_)) ?_
      refine And.intro ?_ trivial
      refine And.intro trivial (And.intro hszk (And.intro hrm2 (And.intro rfl ?_)))
      refine And.intro (by repeat (first | exact trivial | refine And.intro ⟨rfl, rfl⟩ ?_ | refine And.intro ⟨_, _, rfl, by omega, row_at' _ _ rfl (by omega), rfl, of_decide_eq_true rfl, And.intro rfl (And.intro rfl rfl)⟩ ?_)) ?_
      refine And.intro ?_ trivial
      refine And.intro (by repeat (first | exact trivial | refine And.intro ⟨rfl, rfl⟩ ?_ | refine And.intro ⟨_, _, rfl, by omega, row_at' _ _ rfl (by omega), rfl, of_decide_eq_true rfl, And.intro rfl (And.intro rfl rfl)⟩ ?_)) ?_
      refine ⟨p.length - (i + 1), by omega, i + 1, 3, rfl, by omega, .inr rfl, ?_⟩
      unfold sCp
      rw [← hw, List.take_succ_eq_append_getElem hip, List.map_append]
      rfl
    refine And.intro trivial (And.intro rfl (And.intro hrm1 (And.intro (allLenS _) ?_)))
    refine And.intro (by repeat (first | exact trivial | refine And.intro ⟨rfl, rfl⟩ ?_ | refine And.intro ⟨_, _, rfl, by omega, row_at' _ _ rfl (by omega), rfl, of_decide_eq_true rfl, And.intro rfl (And.intro rfl rfl)⟩ ?_)) ?_
    refine And.intro ?_ (And.intro ?_ trivial)
    · refine And.intro (by repeat (first | exact trivial | refine And.intro ⟨rfl, rfl⟩ ?_ | refine And.intro ⟨_, _, rfl, by omega, row_at' _ _ rfl (by omega), rfl, of_decide_eq_true rfl, And.intro rfl (And.intro rfl rfl)⟩ ?_)) ?_
      refine And.intro ?_ trivial
      refine And.intro (by repeat (first | exact trivial | refine And.intro ⟨rfl, rfl⟩ ?_ | refine And.intro ⟨_, _, rfl, by omega, row_at' _ _ rfl (by omega), rfl, of_decide_eq_true rfl, And.intro rfl (And.intro rfl rfl)⟩ ?_)) ?_
      refine And.intro ?_ trivial
      refine And.intro (by repeat (first | exact trivial | refine And.intro ⟨rfl, rfl⟩ ?_ | refine And.intro ⟨_, _, rfl, by omega, row_at' _ _ rfl (by omega), rfl, of_decide_eq_true rfl, And.intro rfl (And.intro rfl rfl)⟩ ?_)) ?_
      refine And.intro ?_ trivial
      refine And.intro trivial (And.intro hszk (And.intro hrm2 (And.intro rfl ?_)))
      refine And.intro (by repeat (first | exact trivial | refine And.intro ⟨rfl, rfl⟩ ?_ | refine And.intro ⟨_, _, rfl, by omega, row_at' _ _ rfl (by omega), rfl, of_decide_eq_true rfl, And.intro rfl (And.intro rfl rfl)⟩ ?_)) ?_
      refine And.intro ?_ trivial
      refine And.intro (by repeat (first | exact trivial | refine And.intro ⟨rfl, rfl⟩ ?_ | refine And.intro ⟨_, _, rfl, by omega, row_at' _ _ rfl (by omega), rfl, of_decide_eq_true rfl, And.intro rfl (And.intro rfl rfl)⟩ ?_)) ?_
      refine ⟨p.length - (i + 1), by omega, i + 1, 3, rfl, by omega, .inr rfl, ?_⟩
      unfold sCp
      rw [← hw, List.take_succ_eq_append_getElem hip, List.map_append]
      rfl
    refine And.intro (by repeat (first | exact trivial | refine And.intro ⟨rfl, rfl⟩ ?_ | refine And.intro ⟨_, _, rfl, by omega, row_at' _ _ rfl (by omega), rfl, of_decide_eq_true rfl, And.intro rfl (And.intro rfl rfl)⟩ ?_)) ?_
    refine And.intro ?_ (And.intro ?_ trivial)
    · refine And.intro (by repeat (first | exact trivial | refine And.intro ⟨rfl, rfl⟩ ?_ | refine And.intro ⟨_, _, rfl, by omega, row_at' _ _ rfl (by omega), rfl, of_decide_eq_true rfl, And.intro rfl (And.intro rfl rfl)⟩ ?_)) ?_
      refine And.intro ?_ trivial
      refine And.intro (by repeat (first | exact trivial | refine And.intro ⟨rfl, rfl⟩ ?_ | refine And.intro ⟨_, _, rfl, by omega, row_at' _ _ rfl (by omega), rfl, of_decide_eq_true rfl, And.intro rfl (And.intro rfl rfl)⟩ ?_)) ?_
      refine And.intro ?_ trivial
      refine And.intro trivial (And.intro hszk (And.intro hrm2 (And.intro rfl ?_)))
      refine And.intro (by repeat (first | exact trivial | refine And.intro ⟨rfl, rfl⟩ ?_ | refine And.intro ⟨_, _, rfl, by omega, row_at' _ _ rfl (by omega), rfl, of_decide_eq_true rfl, And.intro rfl (And.intro rfl rfl)⟩ ?_)) ?_
      refine And.intro ?_ trivial
      refine And.intro (by repeat (first | exact trivial | refine And.intro ⟨rfl, rfl⟩ ?_ | refine And.intro ⟨_, _, rfl, by omega, row_at' _ _ rfl (by omega), rfl, of_decide_eq_true rfl, And.intro rfl (And.intro rfl rfl)⟩ ?_)) ?_
      refine ⟨p.length - (i + 1), by omega, i + 1, 3, rfl, by omega, .inr rfl, ?_⟩
      unfold sCp
      rw [← hw, List.take_succ_eq_append_getElem hip, List.map_append]
      rfl
    refine And.intro (by repeat (first | exact trivial | refine And.intro ⟨rfl, rfl⟩ ?_ | refine And.intro ⟨_, _, rfl, by omega, row_at' _ _ rfl (by omega), rfl, of_decide_eq_true rfl, And.intro rfl (And.intro rfl rfl)⟩ ?_)) ?_
    refine And.intro ?_ trivial
    refine And.intro (by repeat (first | exact trivial | refine And.intro ⟨rfl, rfl⟩ ?_ | refine And.intro ⟨_, _, rfl, by omega, row_at' _ _ rfl (by omega), rfl, of_decide_eq_true rfl, And.intro rfl (And.intro rfl rfl)⟩ ?_)) ?_
    refine And.intro ?_ trivial
    refine And.intro trivial (And.intro hszk (And.intro hrm2 (And.intro rfl ?_)))
    refine And.intro (by repeat (first | exact trivial | refine And.intro ⟨rfl, rfl⟩ ?_ | refine And.intro ⟨_, _, rfl, by omega, row_at' _ _ rfl (by omega), rfl, of_decide_eq_true rfl, And.intro rfl (And.intro rfl rfl)⟩ ?_)) ?_
    refine And.intro ?_ trivial
    refine And.intro (by repeat (first | exact trivial | refine And.intro ⟨rfl, rfl⟩ ?_ | refine And.intro ⟨_, _, rfl, by omega, row_at' _ _ rfl (by omega), rfl, of_decide_eq_true rfl, And.intro rfl (And.intro rfl rfl)⟩ ?_)) ?_
    refine ⟨p.length - (i + 1), by omega, i + 1, 3, rfl, by omega, .inr rfl, ?_⟩
    unfold sCp
    rw [← hw, List.take_succ_eq_append_getElem hip, List.map_append]
    rfl
  · have h1 : ¬ ((i : Nat) : Int) < ((p.map rowR).length : Int) := of_decide_eq_false h1
    rw [List.length_map] at h1
    rw [List.take_of_length_le (by omega)]
    exact And.intro ⟨sz, rfl, hsz⟩ rfl
theorem copD_ok {p : Pln} {d : D} (h : copD p d) : partsOK d = true ∧ nrB 0 d = true := by
  obtain ⟨sz, rfl, _⟩ := h
  exact ⟨rfl, nrBLL_P p⟩
theorem c_draykeep_Copy (p : Pln) (hp : szQ p) {r : Nat} {sto : List Ob} (hr : r ≤ sto.length) : Tri Try.prog 25 r [encP p] sto (fun d l => copD p d ∧ l = sto) :=
  (c_draykeep_Copy_0 p hp).pureR rfl (nrBL_P rfl) (fun d h => copD_ok h) hr
end Go.Lv

namespace Go.Lv
open Go.Proofs

noncomputable def insS (l : List Stp) (o : Int) (i j : Nat) : List Stp := l.take i ++ (⟨o, false⟩ :: ((l.drop i).take (j - i) ++ (⟨o, true⟩ :: l.drop j)))
noncomputable def putD (l : List Stp) (o i j : Int) : D := if i < 0 ∨ j < i ∨ j > (l.length : Int) then .list (.own 0) [] else .list (.own 2) ((insS l o i.toNat j.toNat).map rowS)
theorem putD_ok (l : List Stp) (o i j : Int) : partsOK (putD l o i j) = true ∧ nrB 0 (putD l o i j) = true := by
  unfold putD
  split
  · exact ⟨rfl, rfl⟩
  · exact ⟨rfl, nrBLL_S _⟩
theorem allLenS' (l : List Stp) : ∀ r, r ∈ l.map rowS → r.length = 2 := fun r hr => by
  obtain ⟨s, _, rfl⟩ := List.mem_map.1 hr
  rfl
theorem rowsOf_one (sz : Nat) (cs : List D) : (rowsOf sz 1 cs).length = 1 := rfl
theorem allLen_of {n : Nat} {ys : List (List D)} (h : ∀ r, r ∈ ys → r.length = n) : allLen n ys = true := by
  simp only [allLen, List.all_eq_true, beq_iff_eq]
  exact h
theorem allLenTD (l : List Stp) (a b : Nat) : allLen 2 (((l.map rowS).drop a).take b) = true := allLen_of fun r hr => allLenS' l r (List.mem_of_mem_drop (List.mem_of_mem_take hr))
set_option maxHeartbeats 4000000 in
theorem c_slack_Put_0 (l : List Stp) (hl : l.length ≤ 4000000000000) (o i j : Int) : Tri Try.prog 40 0 [.list .imm (l.map rowS), .int .i64 o, .int .i64 i, .int .i64 j] [] (fun d k => d = putD l o i j ∧ k = []) := by
  refine Tri.walk2 (L := LT) (c := {n := 53, ko := [8, 9], xf := [27, 32, 37, 43, 48]}) [] [0, 1, 2, 3, 8, 9, 22] hLT hmix Try.func40 rfl rfl ⟨rfl, rfl⟩ (by show 4 ≤ 53; decide) (by first | exact Nat.zero_le _ | exact Nat.le_refl _ | decide) ?_
  unfold putD
  refine And.intro (fun h1 => ?_) (fun h1 => ?_)
  · have h1 : i < 0 := of_decide_eq_true h1
    repeat (first | refine And.intro (fun _ => ?_) (fun h => Bool.noConfusion h) | refine And.intro (fun h => Bool.noConfusion h) (fun _ => ?_))
    rw [if_pos (.inl h1)]
    exact And.intro rfl rfl
  have h1 : ¬ i < 0 := of_decide_eq_false h1
  repeat (first | refine And.intro (fun _ => ?_) (fun h => Bool.noConfusion h) | refine And.intro (fun h => Bool.noConfusion h) (fun _ => ?_))
  refine And.intro (fun h2 => ?_) (fun h2 => ?_)
  · have h2 : j < i := of_decide_eq_true h2
    repeat (first | refine And.intro (fun _ => ?_) (fun h => Bool.noConfusion h) | refine And.intro (fun h => Bool.noConfusion h) (fun _ => ?_))
    rw [if_pos (.inr (.inl h2))]
    exact And.intro rfl rfl
  have h2 : ¬ j < i := of_decide_eq_false h2
  repeat (first | refine And.intro (fun _ => ?_) (fun h => Bool.noConfusion h) | refine And.intro (fun h => Bool.noConfusion h) (fun _ => ?_))
  refine And.intro (fun h3 => ?_) (fun h3 => ?_)
  · have h3 : j > ((l.map rowS).length : Int) := of_decide_eq_true h3
    rw [List.length_map] at h3
    rw [if_pos (.inr (.inr h3))]
    exact And.intro rfl rfl
  have h3 : ¬ j > ((l.map rowS).length : Int) := of_decide_eq_false h3
  rw [List.length_map] at h3
  rw [if_neg (by omega)]
  have hw : IntKind.i64.wrap (((l.map rowS).length : Int) + 2) = ((l.length + 2 : Nat) : Int) := by
    rw [List.length_map, wrap64 (by omega) (by omega)]
    omega
  refine And.intro ⟨by omega, by rw [hw]; omega, by rw [hw]; show ((l.length + 2 : Nat) : Int) * 16 ≤ 2 * 140737488355328; omega, by rw [hw]; omega, of_decide_eq_true rfl⟩ ?_
  refine And.intro ⟨by omega, by rw [List.length_map]; omega⟩ (And.intro (Nat.zero_le _) (And.intro (of_decide_eq_true rfl) (And.intro (allLenS l) ?_)))
  refine And.intro trivial (And.intro rfl (And.intro (by show (_ + _) * 16 ≤ 140737488355328; simp only [List.length_append, List.length_take, List.length_drop, List.length_map, List.length_replicate, List.length_cons, List.length_nil, rowsOf_one]; omega) (And.intro (allLenTD l _ _) ?_)))
  refine And.intro trivial (And.intro rfl (And.intro (by show (_ + 1) * 16 ≤ 140737488355328; simp only [List.length_append, List.length_take, List.length_drop, List.length_map, List.length_replicate, List.length_cons, List.length_nil, rowsOf_one]; omega) (And.intro rfl ?_)))
  refine And.intro ⟨by omega, by rw [List.length_map]; omega⟩ (And.intro ⟨by omega, by omega⟩ (And.intro (of_decide_eq_true rfl) (And.intro (allLenS l) ?_)))
  refine And.intro trivial (And.intro rfl (And.intro (by show (_ + _) * 16 ≤ 140737488355328; simp only [List.length_append, List.length_take, List.length_drop, List.length_map, List.length_replicate, List.length_cons, List.length_nil, rowsOf_one]; omega) (And.intro (allLenTD l _ _) ?_)))
  refine And.intro trivial (And.intro rfl (And.intro (by show (_ + 1) * 16 ≤ 140737488355328; simp only [List.length_append, List.length_take, List.length_drop, List.length_map, List.length_replicate, List.length_cons, List.length_nil, rowsOf_one]; omega) (And.intro rfl ?_)))
  refine And.intro (Nat.le_refl _) (And.intro ⟨by omega, by rw [List.length_map]; omega⟩ (And.intro (of_decide_eq_true rfl) (And.intro (allLenS l) ?_)))
  refine And.intro trivial (And.intro rfl (And.intro (by show (_ + _) * 16 ≤ 140737488355328; simp only [List.length_append, List.length_take, List.length_drop, List.length_map, List.length_replicate, List.length_cons, List.length_nil, rowsOf_one]; omega) (And.intro (allLenTD l _ _) ?_)))
  refine And.intro ?_ rfl
  have e : (insS l o i.toNat j.toNat).map rowS = ((([] ++ ((l.map rowS).drop 0).take (i.toNat - 0)) ++ [rowS ⟨o, false⟩]) ++ ((l.map rowS).drop i.toNat).take (j.toNat - i.toNat)) ++ [rowS ⟨o, true⟩] ++ ((l.map rowS).drop j.toNat).take ((l.map rowS).length - j.toNat) := by
    have h9 : ((l.map rowS).drop j.toNat).take ((l.map rowS).length - j.toNat) = (l.map rowS).drop j.toNat := List.take_of_length_le (by rw [List.length_drop]; omega)
    rw [h9]
    simp [insS, List.map_take, List.map_drop]
  rw [e]
  rfl
theorem c_slack_Put (l : List Stp) (hl : l.length ≤ 4000000000000) (o i j : Int) {r : Nat} {sto : List Ob} (hr : r ≤ sto.length) : Tri Try.prog 40 r [.list .imm (l.map rowS), .int .i64 o, .int .i64 i, .int .i64 j] sto (fun d k => d = putD l o i j ∧ k = sto) :=
  (c_slack_Put_0 l hl o i j).pure rfl (nrBL_S rfl) (putD_ok l o i j).1 (putD_ok l o i j).2 hr
noncomputable def sPc (p : Pln) (sz i : Nat) : DS := ⟨[(3, .list (.own sz) ((p.take i).map rowR)), (6, encP p), (7, .int .i64 (p.length : Int)), (8, .int .i64 (i : Int)), (2, .list (.own 0) [])], [], [], mR 0⟩
set_option maxHeartbeats 8000000 in
theorem c_plan_Copy_0 (p : Pln) (hp : szQ p) : Tri Try.prog 39 0 [encP p] [] (fun d l => copD p d ∧ l = []) := by
  refine Tri.walk2 (L := LT) (c := {n := 22, ko := [2, 3], xf := [16, 21]}) [] [0, 2, 3, 5, 6, 7, 8, 9] hLT hmix Try.func39 rfl rfl ⟨rfl, rfl⟩ (by show 1 ≤ 22; decide) (by first | exact Nat.zero_le _ | exact Nat.le_refl _ | decide) ?_
  have hlen : ((p.map rowR).length : Int) = (p.length : Int) := by rw [List.length_map]
  show Ok _ _ _ _ _
  refine Ok.loopN hLT hmix [] [0, 2, 3, 5, 6, 7, 8, 9] [3,6,7,8,2] [] (fun n s => ∃ i sz : Nat, n = p.length - i ∧ i ≤ p.length ∧ (sz = 0 ∨ sz = 3) ∧ s = sPc p sz i) (n := p.length) ⟨0, 0, rfl, Nat.zero_le _, .inl rfl, by unfold sPc; rw [← hlen]; rfl⟩ ?_
  rintro n s ⟨i, sz, rfl, hi, hsz, rfl⟩
  have hpl := hp.len
  refine And.intro (fun h1 => ?_) (fun h1 => ?_)
  · have h1 : ((i : Nat) : Int) < (p.length : Int) := of_decide_eq_true h1
    have hip : i < p.length := by omega
    have hw := wrap_succ (i := i) (n := p.length) (by omega) (by omega)
    have hps := hp.st p[i] (List.getElem_mem _)
    refine ⟨(p).map rowR, rowR ((p)[i]'(by omega)), rfl, by omega, row_at' rowR (p) (by omega) (by omega), rfl, of_decide_eq_true rfl, ?_⟩
    refine And.intro trivial (And.intro rfl (And.intro (by show (0 + (p[i].st.map rowS).length) * 16 ≤ 140737488355328; rw [List.length_map]; omega) (And.intro (allLenS _) ?_)))
    refine And.intro trivial (And.intro (by rcases hsz with rfl | rfl <;> rfl) (And.intro (by show (((p.take i).map rowR).length + 1) * 40 ≤ 140737488355328; rw [List.length_map, List.length_take]; omega) (And.intro rfl ?_)))
    refine ⟨p.length - (i + 1), by omega, i + 1, 3, rfl, by omega, .inr rfl, ?_⟩
    unfold sPc
    rw [← hw, List.take_succ_eq_append_getElem hip, List.map_append]
    rfl
  · have h1 : ¬ ((i : Nat) : Int) < (p.length : Int) := of_decide_eq_false h1
    rw [List.take_of_length_le (by omega)]
    exact And.intro ⟨sz, rfl, hsz⟩ rfl
theorem c_plan_Copy (p : Pln) (hp : szQ p) {r : Nat} {sto : List Ob} (hr : r ≤ sto.length) : Tri Try.prog 39 r [encP p] sto (fun d l => copD p d ∧ l = sto) :=
  (c_plan_Copy_0 p hp).pureR rfl (nrBL_P rfl) (fun d h => copD_ok h) hr
end Go.Lv

namespace Go.Lv
open Go.Proofs

noncomputable def okIn (r : Rte) (s : Spt) : Prop := (r.st.length : Int) ≤ 78 ∧ r.srv ≤ s.pick ∧ s.pick ≤ s.drop ∧ s.drop ≤ (r.st.length : Int)
noncomputable instance (r : Rte) (s : Spt) : Decidable (okIn r s) := by unfold okIn; infer_instance
noncomputable def inR (r : Rte) (o : Int) (s : Spt) : Rte := ⟨r.drv, r.srv, insS r.st o s.pick.toNat s.drop.toNat⟩
noncomputable def goW (p0 : Pln) (o : Int) (s : Spt) : Nat → Pln → Option Pln
  | _, [] => none
  | i, r :: p => if r.drv = s.drv then (if okIn r s then some (p0.set i (inR r o s)) else none) else goW p0 o s (i + 1) p
noncomputable def withP (p : Pln) (o : Int) (s : Spt) : Option Pln := if rightP p = true ∧ 1 ≤ o ∧ o ≤ 1000000 ∧ findP o p = none then goW p o s 0 p else none
noncomputable def withR (q : Option Pln) (d : D) : Prop := match q with
  | none => d = .tup [.list (.own 0) [], .bool false]
  | some q => ∃ sz, d = .tup [.list (.own sz) (q.map rowR), .bool true] ∧ (sz = 0 ∨ sz = 3)
theorem withR_ok {q : Option Pln} {d : D} (h : withR q d) : partsOK d = true ∧ nrB 0 d = true := by
  cases q with
  | none => have h : d = _ := h; rw [h]; exact ⟨rfl, rfl⟩
  | some q =>
    obtain ⟨sz, h, _⟩ := h
    rw [h]
    refine ⟨rfl, ?_⟩
    show (nrBLL 0 (q.map rowR) && true) = true
    rw [nrBLL_P]
    rfl
theorem goW_at {p0 p : Pln} {o : Int} {s : Spt} {i : Nat} (h : i < p.length) : goW p0 o s i (p.drop i) = if p[i].drv = s.drv then (if okIn p[i] s then some (p0.set i (inR p[i] o s)) else none) else goW p0 o s (i + 1) (p.drop (i + 1)) := by
  rw [List.drop_eq_getElem_cons h]
  rfl
theorem right_szQ {p : Pln} (h8 : p.length ≤ 8) (hst : ∀ r, r ∈ p → r.st.length ≤ 80) : szQ p := ⟨by omega, fun r hr => by have := hst r hr; omega⟩
theorem stOK_at' : ∀ {p : Pln} {last : Int} {seen : List Stp}, rightG last seen p = true → ∀ r, r ∈ p → r.st.length ≤ 80 ∧ 0 ≤ r.srv
  | [], _, _, _, r, hr => by cases hr
  | x :: p, last, seen, h, r, hr => by
    unfold rightG at h
    simp only [Bool.and_eq_true, decide_eq_true_eq] at h
    rcases List.mem_cons.1 hr with e | hr
    · subst e; exact ⟨h.1.2.2.1, h.1.2.2.2.1⟩
    · exact stOK_at' h.2.2 r hr
noncomputable def sWi (p : Pln) (o : Int) (s : Spt) (i : Nat) : DS := ⟨[(0, encP p), (1, .int .i64 o), (5, .lptr 5 0 0), (33, encP p), (34, .int .i64 (p.length : Int)), (35, .int .i64 (i : Int)), (6, .list (.own 0) []), (7, .bool false)], [(5, [.int .i64 s.drv, .int .i64 s.pick, .int .i64 s.drop, .int .i64 s.cost])], [], mR 0⟩
set_option maxHeartbeats 8000000 in
theorem c_plan_With_0 (p : Pln) (hp : szP p) (o : Int) (s : Spt) : Tri Try.prog 15 0 [encP p, .int .i64 o, encSpt s] [] (fun d k => withR (withP p o s) d ∧ k = []) := by
  refine Tri.walk2 (L := LT) (c := {n := 87, ko := [6, 7, 12], xf := [13, 85]}) [] [0, 1, 2, 5, 6, 7, 9, 10, 11, 12, 32, 33, 34, 35, 36, 44, 70] hLT hmix Try.func15 rfl rfl ⟨rfl, rfl⟩ (by show 3 ≤ 87; decide) (by first | exact Nat.zero_le _ | exact Nat.le_refl _ | decide) ?_
  have hlen : ((p.map rowR).length : Int) = (p.length : Int) := by rw [List.length_map]
  have cf := c_plan_Find_0 p hp o
  have cr := c_plan_Right_0 p
  have bad : ¬ (rightP p = true ∧ 1 ≤ o ∧ o ≤ 1000000 ∧ findP o p = none) → withR (withP p o s) (.tup [.list (.own 0) [], .bool false]) := fun h => by
    unfold withP
    rw [if_neg h]
    exact rfl
  have good : ∀ h : rightP p = true ∧ 1 ≤ o ∧ o ≤ 1000000 ∧ findP o p = none, withP p o s = goW p o s 0 p := fun h => by
    unfold withP
    rw [if_pos h]
  unfold findD at cf
  cases hf : findP o p with
  | some sp =>
    rw [hf] at cf
    refine ⟨rfl, (by first | exact Nat.zero_le _ | decide), (cf).mono ?_⟩
    rintro d l ⟨rfl, rfl⟩
    refine ⟨rfl, fun _ _ => rfl, rfl, ?_⟩
    refine ⟨rfl, Nat.zero_le _, cr.mono ?_⟩
    rintro d l ⟨hd, rfl⟩
    have hb := bad (fun h => by rw [hf] at h; cases h.2.2.2)
    cases hr : rightP p with
    | false =>
      rw [hr] at hd
      subst hd
      refine ⟨rfl, fun _ _ => rfl, rfl, ?_⟩
      repeat (first | refine And.intro (fun _ => ?_) (fun h => Bool.noConfusion h) | refine And.intro (fun h => Bool.noConfusion h) (fun _ => ?_))
      exact And.intro hb rfl
    | true =>
      rw [hr] at hd
      subst hd
      refine ⟨rfl, fun _ _ => rfl, rfl, ?_⟩
      repeat (first | refine And.intro (fun _ => ?_) (fun h => Bool.noConfusion h) | refine And.intro (fun h => Bool.noConfusion h) (fun _ => ?_))
      refine And.intro (fun q1 => ?_) (fun q1 => ?_)
      · repeat (first | refine And.intro (fun _ => ?_) (fun h => Bool.noConfusion h) | refine And.intro (fun h => Bool.noConfusion h) (fun _ => ?_))
        exact And.intro hb rfl
      repeat (first | refine And.intro (fun _ => ?_) (fun h => Bool.noConfusion h) | refine And.intro (fun h => Bool.noConfusion h) (fun _ => ?_))
      refine And.intro (fun q2 => ?_) (fun q2 => ?_)
      · repeat (first | refine And.intro (fun _ => ?_) (fun h => Bool.noConfusion h) | refine And.intro (fun h => Bool.noConfusion h) (fun _ => ?_))
        exact And.intro hb rfl
      repeat (first | refine And.intro (fun _ => ?_) (fun h => Bool.noConfusion h) | refine And.intro (fun h => Bool.noConfusion h) (fun _ => ?_))
      exact And.intro hb rfl
  | none =>
    rw [hf] at cf
    refine ⟨rfl, (by first | exact Nat.zero_le _ | decide), (cf).mono ?_⟩
    rintro d l ⟨rfl, rfl⟩
    refine ⟨rfl, fun _ _ => rfl, rfl, ?_⟩
    refine ⟨rfl, Nat.zero_le _, cr.mono ?_⟩
    rintro d l ⟨hd, rfl⟩
    cases hr : rightP p with
    | false =>
      rw [hr] at hd
      subst hd
      have hb := bad (fun h => by rw [hr] at h; cases h.1)
      refine ⟨rfl, fun _ _ => rfl, rfl, ?_⟩
      repeat (first | refine And.intro (fun _ => ?_) (fun h => Bool.noConfusion h) | refine And.intro (fun h => Bool.noConfusion h) (fun _ => ?_))
      exact And.intro hb rfl
    | true =>
      rw [hr] at hd
      subst hd
      refine ⟨rfl, fun _ _ => rfl, rfl, ?_⟩
      repeat (first | refine And.intro (fun _ => ?_) (fun h => Bool.noConfusion h) | refine And.intro (fun h => Bool.noConfusion h) (fun _ => ?_))
      refine And.intro (fun q1 => ?_) (fun q1 => ?_)
      · repeat (first | refine And.intro (fun _ => ?_) (fun h => Bool.noConfusion h) | refine And.intro (fun h => Bool.noConfusion h) (fun _ => ?_))
        exact And.intro (bad (fun h => absurd (of_decide_eq_true q1) (by have := h.2.1; omega))) rfl
      have q1 : ¬ o < 1 := of_decide_eq_false q1
      repeat (first | refine And.intro (fun _ => ?_) (fun h => Bool.noConfusion h) | refine And.intro (fun h => Bool.noConfusion h) (fun _ => ?_))
      refine And.intro (fun q2 => ?_) (fun q2 => ?_)
      · repeat (first | refine And.intro (fun _ => ?_) (fun h => Bool.noConfusion h) | refine And.intro (fun h => Bool.noConfusion h) (fun _ => ?_))
        exact And.intro (bad (fun h => absurd (of_decide_eq_true q2) (by have := h.2.2.1; omega))) rfl
      have q2 : ¬ o > 1000000 := of_decide_eq_false q2
      repeat (first | refine And.intro (fun _ => ?_) (fun h => Bool.noConfusion h) | refine And.intro (fun h => Bool.noConfusion h) (fun _ => ?_))
      have hg := good ⟨hr, by omega, by omega, hf⟩
      rw [hg]
      have hr' := hr
      unfold rightP at hr'
      simp only [Bool.and_eq_true, decide_eq_true_eq] at hr'
      have hst := stOK_at' hr'.2
      have hp8 := hr'.1
      have hq := right_szQ hp8 (fun r h => (hst r h).1)
      show Ok _ _ _ _ _
      refine Ok.loopN hLT hmix [] [0, 1, 2, 5, 6, 7, 9, 10, 11, 12, 32, 33, 34, 35, 36, 44, 70] [0,1,5,33,34,35,6,7] [5] (fun n t => ∃ (i : Nat), n = p.length - i ∧ i ≤ p.length ∧ goW p o s i (p.drop i) = goW p o s 0 p ∧ t = sWi p o s i) (n := p.length) ⟨0, rfl, Nat.zero_le _, rfl, by unfold sWi; rw [← hlen]; rfl⟩ ?_
      rintro n t ⟨i, rfl, hi, hix, rfl⟩
      refine And.intro (fun h1 => ?_) (fun h1 => ?_)
      rotate_left
      · have h1 : ¬ ((i : Nat) : Int) < (p.length : Int) := of_decide_eq_false h1
        rw [List.drop_eq_nil_of_le (by omega)] at hix
        rw [← hix]
        exact And.intro rfl rfl
      have h1 : ((i : Nat) : Int) < (p.length : Int) := of_decide_eq_true h1
      have hip : i < p.length := by omega
      have hw := wrap_succ (i := i) (n := p.length) (by omega) (by omega)
      have hri := hst p[i] (List.getElem_mem _)
      rw [goW_at hip] at hix
      refine ⟨(p).map rowR, rowR ((p)[i]'(by omega)), rfl, by omega, row_at' rowR (p) (by omega) (by omega), rfl, of_decide_eq_true rfl, ?_⟩
      refine And.intro (fun h2 => ?_) (fun h2 => ?_)
      · have h2 : p[i].drv ≠ s.drv := nd_true h2
        rw [if_neg h2] at hix
        refine ⟨p.length - (i + 1), by omega, i + 1, rfl, by omega, hix, ?_⟩
        unfold sWi
        rw [← hw]
        rfl
      have h2 : p[i].drv = s.drv := nd_false h2
      rw [if_pos h2] at hix
      have nok : ¬ okIn p[i] s → withR (goW p o s 0 p) (.tup [.list (.own 0) [], .bool false]) := fun h => by
        rw [← hix, if_neg h]
        exact rfl
      refine And.intro (fun g1 => ?_) (fun g1 => ?_)
      · repeat (first | refine And.intro (fun _ => ?_) (fun h => Bool.noConfusion h) | refine And.intro (fun h => Bool.noConfusion h) (fun _ => ?_))
        exact And.intro (nok (fun h => absurd (of_decide_eq_true g1) (by rw [List.length_map]; have := h.1; omega))) rfl
      have g1 : ¬ ((p[i].st.map rowS).length : Int) > 78 := of_decide_eq_false g1
      rw [List.length_map] at g1
      repeat (first | refine And.intro (fun _ => ?_) (fun h => Bool.noConfusion h) | refine And.intro (fun h => Bool.noConfusion h) (fun _ => ?_))
      refine And.intro (fun g2 => ?_) (fun g2 => ?_)
      · repeat (first | refine And.intro (fun _ => ?_) (fun h => Bool.noConfusion h) | refine And.intro (fun h => Bool.noConfusion h) (fun _ => ?_))
        exact And.intro (nok (fun h => absurd (of_decide_eq_true g2) (by have := h.2.1; omega))) rfl
      have g2 : ¬ s.pick < p[i].srv := of_decide_eq_false g2
      repeat (first | refine And.intro (fun _ => ?_) (fun h => Bool.noConfusion h) | refine And.intro (fun h => Bool.noConfusion h) (fun _ => ?_))
      refine And.intro (fun g3 => ?_) (fun g3 => ?_)
      · repeat (first | refine And.intro (fun _ => ?_) (fun h => Bool.noConfusion h) | refine And.intro (fun h => Bool.noConfusion h) (fun _ => ?_))
        exact And.intro (nok (fun h => absurd (of_decide_eq_true g3) (by have := h.2.2.1; omega))) rfl
      have g3 : ¬ s.drop < s.pick := of_decide_eq_false g3
      repeat (first | refine And.intro (fun _ => ?_) (fun h => Bool.noConfusion h) | refine And.intro (fun h => Bool.noConfusion h) (fun _ => ?_))
      refine And.intro (fun g4 => ?_) (fun g4 => ?_)
      · repeat (first | refine And.intro (fun _ => ?_) (fun h => Bool.noConfusion h) | refine And.intro (fun h => Bool.noConfusion h) (fun _ => ?_))
        exact And.intro (nok (fun h => absurd (of_decide_eq_true g4) (by rw [List.length_map]; have := h.2.2.2; omega))) rfl
      have g4 : ¬ s.drop > ((p[i].st.map rowS).length : Int) := of_decide_eq_false g4
      rw [List.length_map] at g4
      repeat (first | refine And.intro (fun _ => ?_) (fun h => Bool.noConfusion h) | refine And.intro (fun h => Bool.noConfusion h) (fun _ => ?_))
      have hok : okIn p[i] s := ⟨by omega, by omega, by omega, by omega⟩
      rw [if_pos hok] at hix
      refine ⟨rfl, Nat.zero_le _, (c_plan_Copy_0 p hq).mono ?_⟩
      rintro d l ⟨⟨sz, rfl, hsz⟩, rfl⟩
      refine ⟨rfl, fun _ _ => rfl, rfl, ?_⟩
      have cput := c_slack_Put_0 p[i].st (by omega) o s.pick s.drop
      unfold putD at cput
      rw [if_neg (by omega)] at cput
      refine ⟨rfl, (by first | exact Nat.zero_le _ | decide), (cput).mono ?_⟩
      rintro d l ⟨rfl, rfl⟩
      refine ⟨rfl, fun _ _ => rfl, rfl, ?_⟩
      refine ⟨p.map rowR, rowR p[i], lsD_cp rfl ⟨rfl, rfl⟩ rfl, by omega, row_at' rowR p rfl hip, rfl, of_decide_eq_true rfl, ?_⟩
      refine ⟨_, storeD_elem rfl ⟨rfl, of_decide_eq_true rfl⟩ ⟨rfl, rfl⟩ rfl (row_at' rowR p rfl hip) rfl, ?_⟩
      rw [← hix]
      refine And.intro ⟨sz, ?_, hsz⟩ rfl
      rw [List.map_set]
      rfl
theorem c_plan_With (p : Pln) (hp : szP p) (o : Int) (s : Spt) {r : Nat} {sto : List Ob} (hr : r ≤ sto.length) : Tri Try.prog 15 r [encP p, .int .i64 o, encSpt s] sto (fun d k => withR (withP p o s) d ∧ k = sto) :=
  (c_plan_With_0 p hp o s).pureR rfl (nrBL_P rfl) (fun d h => withR_ok h) hr
end Go.Lv

namespace Go.Lv
open Go.Proofs

noncomputable def begR (srv o : Int) : Nat → List Stp → Bool
  | _, [] => false
  | j, s :: l => (decide ((j : Int) < srv) && decide (s.ord = o)) || begR srv o (j + 1) l
/-- Is some stop of an order done? -/
noncomputable def begP (o : Int) : Pln → Bool
  | [] => false
  | r :: p => begR r.srv o 0 r.st || begP o p
theorem begR_at {srv o : Int} {l : List Stp} {j : Nat} (h : j < l.length) : begR srv o j (l.drop j) = ((decide ((j : Int) < srv) && decide (l[j].ord = o)) || begR srv o (j + 1) (l.drop (j + 1))) := by
  rw [List.drop_eq_getElem_cons h]
  rfl
theorem begP_at {o : Int} {p : Pln} {i : Nat} (h : i < p.length) : begP o (p.drop i) = (begR p[i].srv o 0 p[i].st || begP o (p.drop (i + 1))) := by
  rw [List.drop_eq_getElem_cons h]
  rfl
noncomputable def sBi (p : Pln) (o : Int) (i : Nat) : DS := ⟨[(1, .int .i64 o), (9, encP p), (10, .int .i64 (p.length : Int)), (11, .int .i64 (i : Int)), (4, .bool false)], [], [], mR 0⟩
noncomputable def sBj (p : Pln) (r : Rte) (o : Int) (i j : Nat) : DS := ⟨[(1, .int .i64 o), (6, .lptr 6 0 0), (9, encP p), (10, .int .i64 (p.length : Int)), (11, .int .i64 (i : Int)), (16, .list .imm (r.st.map rowS)), (17, .int .i64 (r.st.length : Int)), (18, .int .i64 (j : Int)), (4, .bool false)], [(6, rowR r)], [], mR 0⟩
set_option maxHeartbeats 8000000 in
theorem c_plan_begun_0 (p : Pln) (hp : szP p) (o : Int) : Tri Try.prog 38 0 [encP p, .int .i64 o] [] (fun d k => d = .bool (begP o p) ∧ k = []) := by
  refine Tri.walk2 (L := LT) (c := {n := 35, ko := [4]}) [] [0, 1, 4, 6, 7, 8, 9, 10, 11, 12, 16, 17, 18, 19, 32] hLT hmix Try.func38 rfl rfl ⟨rfl, rfl⟩ (by show 2 ≤ 35; decide) (by first | exact Nat.zero_le _ | exact Nat.le_refl _ | decide) ?_
  have hlen : ((p.map rowR).length : Int) = (p.length : Int) := by rw [List.length_map]
  show Ok _ _ _ _ _
  refine Ok.loopN hLT hmix [] [0, 1, 4, 6, 7, 8, 9, 10, 11, 12, 16, 17, 18, 19, 32] [1,9,10,11,4] [] (fun n t => ∃ (i : Nat), n = p.length - i ∧ i ≤ p.length ∧ begP o (p.drop i) = begP o p ∧ t = sBi p o i) (n := p.length) ⟨0, rfl, Nat.zero_le _, rfl, by unfold sBi; rw [← hlen]; rfl⟩ ?_
  rintro n t ⟨i, rfl, hi, hix, rfl⟩
  refine And.intro (fun h1 => ?_) (fun h1 => ?_)
  rotate_left
  · have h1 : ¬ ((i : Nat) : Int) < (p.length : Int) := of_decide_eq_false h1
    rw [List.drop_eq_nil_of_le (by omega)] at hix
    rw [← hix]
    exact And.intro rfl rfl
  have h1 : ((i : Nat) : Int) < (p.length : Int) := of_decide_eq_true h1
  have hip : i < p.length := by omega
  have hw := wrap_succ (i := i) (n := p.length) (by omega) hp.len
  have hst := hp.st p[i] (List.getElem_mem _)
  rw [begP_at hip] at hix
  refine ⟨(p).map rowR, rowR ((p)[i]'(by omega)), rfl, by omega, row_at' rowR (p) (by omega) (by omega), rfl, of_decide_eq_true rfl, ?_⟩
  generalize p[i] = r at hst hix ⊢
  have hls : ((r.st.map rowS).length : Int) = (r.st.length : Int) := by rw [List.length_map]
  show Ok _ _ _ _ _
  refine Ok.loopN hLT hmix [] [0, 1, 4, 6, 7, 8, 9, 10, 11, 12, 16, 17, 18, 19, 32] [1,6,9,10,11,16,17,18,4] [6] (fun n t => ∃ (j : Nat), n = r.st.length - j ∧ j ≤ r.st.length ∧ (begR r.srv o j (r.st.drop j) || begP o (p.drop (i + 1))) = begP o p ∧ t = sBj p r o i j) (n := r.st.length) ⟨0, rfl, Nat.zero_le _, hix, by unfold sBj; rw [← hls]; rfl⟩ ?_
  rintro n t ⟨j, rfl, hj, hjx, rfl⟩
  refine And.intro (fun g1 => ?_) (fun g1 => ?_)
  rotate_left
  · have g1 : ¬ ((j : Nat) : Int) < (r.st.length : Int) := of_decide_eq_false g1
    rw [List.drop_eq_nil_of_le (by omega)] at hjx
    refine ⟨p.length - (i + 1), by omega, i + 1, rfl, by omega, hjx, ?_⟩
    unfold sBi
    rw [← hw]
    rfl
  have g1 : ((j : Nat) : Int) < (r.st.length : Int) := of_decide_eq_true g1
  have hwj := wrap_succ (i := j) (n := r.st.length) (by omega) hst
  rw [begR_at (by omega)] at hjx
  refine ⟨(r.st).map rowS, rowS ((r.st)[j]'(by omega)), rfl, by omega, row_at' rowS (r.st) (by omega) (by omega), rfl, of_decide_eq_true rfl, ?_⟩
  generalize r.st[j] = x at hjx ⊢
  have again : ¬ ((j : Int) < r.srv ∧ x.ord = o) → (begR r.srv o (j + 1) (r.st.drop (j + 1)) || begP o (p.drop (i + 1))) = begP o p := fun h => by
    rw [← hjx]
    have : (decide ((j : Int) < r.srv) && decide (x.ord = o)) = false := by
      rw [Bool.eq_false_iff]
      intro q
      simp only [Bool.and_eq_true, decide_eq_true_eq] at q
      exact h q
    rw [this, Bool.false_or]
  refine And.intro (fun w1 => ?_) (fun w1 => ?_)
  · have w1 : ((j : Nat) : Int) < r.srv := of_decide_eq_true w1
    repeat (first | refine And.intro (fun _ => ?_) (fun h => Bool.noConfusion h) | refine And.intro (fun h => Bool.noConfusion h) (fun _ => ?_))
    refine And.intro (fun w2 => ?_) (fun w2 => ?_)
    · have w2 : x.ord = o := of_decide_eq_true w2
      repeat (first | refine And.intro (fun _ => ?_) (fun h => Bool.noConfusion h) | refine And.intro (fun h => Bool.noConfusion h) (fun _ => ?_))
      rw [decide_eq_true w1, decide_eq_true w2] at hjx
      rw [← hjx]
      exact And.intro rfl rfl
    · have w2 : ¬ x.ord = o := of_decide_eq_false w2
      repeat (first | refine And.intro (fun _ => ?_) (fun h => Bool.noConfusion h) | refine And.intro (fun h => Bool.noConfusion h) (fun _ => ?_))
      refine ⟨r.st.length - (j + 1), by omega, j + 1, rfl, by omega, again (fun h => w2 h.2), ?_⟩
      unfold sBj
      rw [← hwj]
      rfl
  · have w1 : ¬ ((j : Nat) : Int) < r.srv := of_decide_eq_false w1
    repeat (first | refine And.intro (fun _ => ?_) (fun h => Bool.noConfusion h) | refine And.intro (fun h => Bool.noConfusion h) (fun _ => ?_))
    refine ⟨r.st.length - (j + 1), by omega, j + 1, rfl, by omega, again (fun h => w1 h.1), ?_⟩
    unfold sBj
    rw [← hwj]
    rfl
theorem c_plan_begun (p : Pln) (hp : szP p) (o : Int) {r : Nat} {sto : List Ob} (hr : r ≤ sto.length) : Tri Try.prog 38 r [encP p, .int .i64 o] sto (fun d k => d = .bool (begP o p) ∧ k = sto) :=
  (c_plan_begun_0 p hp o).pure rfl (nrBL_P rfl) rfl rfl hr

/-! ### Numbers with counts -/
abbrev Cnt := List (Int × Int)
noncomputable def encG (g : Cnt) : List (D × D) := g.map fun x => (.int .i64 x.1, .int .i64 x.2)
noncomputable def getC (k : Int) : Cnt → Option Int
  | [] => none
  | x :: r => if k = x.1 then some x.2 else getC k r
noncomputable def setC (k v : Int) : Cnt → Cnt
  | [] => [(k, v)]
  | x :: r => if k = x.1 then (x.1, v) :: r else x :: setC k v r
theorem findG (k : Int) : ∀ g : Cnt, findE LT 3 (.int .i64 k) (encG g) = some ((getC k g).map (D.int .i64))
  | [] => rfl
  | x :: r => by
    have ih := findG k r
    have e : eqD LT 3 (.int .i64 k) (.int .i64 x.1) = some (decide (k = x.1)) := rfl
    show (match eqD LT 3 (.int .i64 k) (.int .i64 x.1) with | some true => some (some (D.int .i64 x.2)) | some false => findE LT 3 (.int .i64 k) (encG r) | none => none) = _
    rw [e]
    unfold getC
    by_cases h : k = x.1
    · rw [decide_eq_true h, if_pos h]; rfl
    · rw [decide_eq_false h, if_neg h]; exact ih
theorem setG (k v : Int) : ∀ g : Cnt, setE LT 3 (.int .i64 k) (.int .i64 v) (encG g) = some (encG (setC k v g))
  | [] => rfl
  | x :: r => by
    have ih := setG k v r
    have e : eqD LT 3 (.int .i64 k) (.int .i64 x.1) = some (decide (k = x.1)) := rfl
    show (match eqD LT 3 (.int .i64 k) (.int .i64 x.1) with | some true => some ((D.int .i64 x.1, D.int .i64 v) :: encG r) | some false => (match setE LT 3 (.int .i64 k) (.int .i64 v) (encG r) with | some r' => some ((D.int .i64 x.1, D.int .i64 x.2) :: r') | none => none) | none => none) = _
    rw [e]
    unfold setC
    by_cases h : k = x.1
    · rw [decide_eq_true h, if_pos h]; rfl
    · rw [decide_eq_false h, if_neg h, ih]; rfl
theorem getC_set (k v : Int) : ∀ g : Cnt, getC k (setC k v g) = some v
  | [] => by simp [setC, getC]
  | x :: r => by
    unfold setC
    split
    · rename_i h; simp [getC, h]
    · rename_i h; simp [getC, h, getC_set k v r]
theorem getC_ne {k j : Int} (v : Int) (h : j ≠ k) : ∀ g : Cnt, getC j (setC k v g) = getC j g
  | [] => by simp [setC, getC, h]
  | x :: r => by
    unfold setC
    split
    · rename_i e; subst e; simp [getC, h]
    · rename_i e; simp [getC, getC_ne v h r]
/-! ### Without -/
noncomputable def goneB (p : Pln) (ids : List Int) (o : Int) : Bool := decide (o ∈ ids) && !begP o p
noncomputable def woR (p : Pln) (ids : List Int) (r : Rte) : Rte := ⟨r.drv, r.srv, r.st.filter fun s => !goneB p ids s.ord⟩
noncomputable def woP (p : Pln) (ids : List Int) : Pln := p.map (woR p ids)
structure goneG (p : Pln) (ids : List Int) (i : Nat) (g : Cnt) : Prop where
  some : ∀ k c, getC k g = some c → 1 ≤ c ∧ c ≤ (i : Int) ∧ goneB p (ids.take i) k = true
  none : ∀ k, getC k g = none → goneB p (ids.take i) k = false
noncomputable def sG1 (p : Pln) (ids : List Int) (g : Cnt) (i : Nat) : DS := ⟨[(0, encP p), (5, .map 0), (15, .list .imm (ids.map rowI)), (16, .int .i64 (ids.length : Int)), (17, .int .i64 (i : Int)), (4, .list (.own 0) [])], [], [.map (encG g)], mR 0⟩
noncomputable def sG2 (p q : Pln) (g : Cnt) (sz i : Nat) : DS := ⟨[(5, .map 0), (8, .list (.own sz) (q.map rowR)), (30, encP p), (31, .int .i64 (p.length : Int)), (32, .int .i64 (i : Int)), (4, .list (.own 0) [])], [], [.map (encG g)], mR 0⟩
noncomputable def sG3 (p q : Pln) (r : Rte) (l : List Stp) (g : Cnt) (sz z2 i j : Nat) : DS := ⟨[(5, .map 0), (8, .list (.own sz) (q.map rowR)), (10, .lptr 10 0 0), (11, .list (.own z2) (l.map rowS)), (30, encP p), (31, .int .i64 (p.length : Int)), (32, .int .i64 (i : Int)), (37, .list .imm (r.st.map rowS)), (38, .int .i64 (r.st.length : Int)), (39, .int .i64 (j : Int)), (4, .list (.own 0) [])], [(10, rowR r)], [.map (encG g)], mR 0⟩
set_option maxHeartbeats 8000000 in
theorem c_plan_Without_1 (p : Pln) (hp : szQ p) (ids : List Int) (hids : ids.length ≤ 1000000000000000) : Tri Try.prog 14 0 [encP p, .list .imm (ids.map rowI)] [] (fun d k => copD (woP p ids) d ∧ ∃ es, k = [.map es]) := by
  refine Tri.walk2 (L := LT) (c := {n := 61, ko := [4, 8, 11], xf := [48, 53, 55, 60]}) [] [0, 1, 4, 5, 7, 8, 10, 11, 13, 15, 16, 17, 18, 24, 30, 31, 32, 33, 37, 38, 39, 40, 47] hLT hmix Try.func14 rfl rfl ⟨rfl, rfl⟩ (by show 2 ≤ 61; decide) (by first | exact Nat.zero_le _ | exact Nat.le_refl _ | decide) ?_
  have hlen : ((p.map rowR).length : Int) = (p.length : Int) := by rw [List.length_map]
  have hli : ((ids.map rowI).length : Int) = (ids.length : Int) := by rw [List.length_map]
  show Ok _ _ _ _ _
  refine Ok.loopN hLT hmix [] [0, 1, 4, 5, 7, 8, 10, 11, 13, 15, 16, 17, 18, 24, 30, 31, 32, 33, 37, 38, 39, 40, 47] [0,5,15,16,17,4] [] (fun n t => ∃ (i : Nat) (g : Cnt), n = ids.length - i ∧ i ≤ ids.length ∧ goneG p ids i g ∧ t = sG1 p ids g i) (n := ids.length) ⟨0, [], rfl, Nat.zero_le _, ⟨fun k c h => (by cases h), fun k _ => (by simp [goneB])⟩, by unfold sG1; rw [← hli]; rfl⟩ ?_
  rintro n t ⟨i, g, rfl, hi, hg, rfl⟩
  refine And.intro (fun h1 => ?_) (fun h1 => ?_)
  · have h1 : ((i : Nat) : Int) < (ids.length : Int) := of_decide_eq_true h1
    have hii : i < ids.length := by omega
    have hw := wrap_succ (i := i) (n := ids.length) (by omega) hids
    have htk : ids.take (i + 1) = ids.take i ++ [ids[i]] := List.take_succ_eq_append_getElem hii
    refine ⟨(ids).map rowI, rowI ((ids)[i]'(by omega)), rfl, by omega, row_at' rowI (ids) (by omega) (by omega), rfl, of_decide_eq_true rfl, ?_⟩
    generalize ids[i] = k at htk ⊢
    refine ⟨rfl, Nat.zero_le 1, (c_plan_begun p hp.P k (r := 1) (sto := [.map (encG g)]) (Nat.le_refl 1)).mono ?_⟩
    rintro d l ⟨hd, rfl⟩
    cases hb : begP k p with
    | true =>
      rw [hb] at hd
      subst hd
      refine ⟨rfl, fun _ _ => rfl, rfl, ?_⟩
      repeat (first | refine And.intro (fun _ => ?_) (fun h => Bool.noConfusion h) | refine And.intro (fun h => Bool.noConfusion h) (fun _ => ?_))
      have same : ∀ o, goneB p (ids.take (i + 1)) o = goneB p (ids.take i) o := fun o => by
        unfold goneB
        rw [htk]
        by_cases e : o = k
        · subst e; rw [hb]; simp
        · simp [e]
      refine ⟨ids.length - (i + 1), by omega, i + 1, g, rfl, by omega, ⟨fun o c h => ?_, fun o h => ?_⟩, ?_⟩
      · obtain ⟨q1, q2, q3⟩ := hg.some o c h
        exact ⟨q1, by omega, by rw [same]; exact q3⟩
      · rw [same]; exact hg.none o h
      · unfold sG1
        rw [← hw]
        rfl
    | false =>
      rw [hb] at hd
      subst hd
      refine ⟨rfl, fun _ _ => rfl, rfl, ?_⟩
      repeat (first | refine And.intro (fun _ => ?_) (fun h => Bool.noConfusion h) | refine And.intro (fun h => Bool.noConfusion h) (fun _ => ?_))
      have here : goneB p (ids.take (i + 1)) k = true := by
        unfold goneB
        rw [htk, hb]
        simp
      have other : ∀ o, o ≠ k → goneB p (ids.take (i + 1)) o = goneB p (ids.take i) o := fun o e => by
        unfold goneB
        rw [htk]
        simp [e]
      refine And.intro rfl ⟨_, findG k g, ?_⟩
      have next : ∀ v : Int, 1 ≤ v → v ≤ ((i + 1 : Nat) : Int) → goneG p ids (i + 1) (setC k v g) := fun v v1 v2 => by
        refine ⟨fun o c h => ?_, fun o h => ?_⟩
        · by_cases e : o = k
          · subst e
            rw [getC_set] at h
            cases h
            exact ⟨v1, v2, here⟩
          · rw [getC_ne v e] at h
            obtain ⟨q1, q2, q3⟩ := hg.some o c h
            exact ⟨q1, by omega, by rw [other o e]; exact q3⟩
        · by_cases e : o = k
          · subst e
            rw [getC_set] at h
            cases h
          · rw [getC_ne v e] at h
            rw [other o e]
            exact hg.none o h
      cases hc : getC k g with
      | none =>
        refine And.intro ⟨Nat.zero_le _, rfl, rfl⟩ (Exists.intro (encG (setC k (IntKind.i64.wrap (0 + 1)) g)) (And.intro (setG k _ g) ?_))
        refine ⟨ids.length - (i + 1), by omega, i + 1, setC k (IntKind.i64.wrap (0 + 1)) g, rfl, by omega, next _ (by decide) (by rw [show IntKind.i64.wrap (0 + 1) = 1 by decide]; omega), ?_⟩
        unfold sG1
        rw [← hw]
        rfl
      | some c =>
        obtain ⟨q1, q2, q3⟩ := hg.some k c hc
        have hwc : IntKind.i64.wrap (c + 1) = c + 1 := wrap64 (by omega) (by omega)
        refine And.intro ⟨Nat.zero_le _, rfl, rfl⟩ (Exists.intro (encG (setC k (IntKind.i64.wrap (c + 1)) g)) (And.intro (setG k _ g) ?_))
        refine ⟨ids.length - (i + 1), by omega, i + 1, setC k (IntKind.i64.wrap (c + 1)) g, rfl, by omega, next _ (by rw [hwc]; omega) (by rw [hwc]; omega), ?_⟩
        unfold sG1
        rw [← hw]
        rfl
  · have h1 : ¬ ((i : Nat) : Int) < (ids.length : Int) := of_decide_eq_false h1
    have hie : i = ids.length := by omega
    have hgs : ∀ k c, getC k g = some c → 1 ≤ c ∧ goneB p ids k = true := fun k c h => by
      obtain ⟨q1, _, q3⟩ := hg.some k c h
      rw [hie, List.take_length] at q3
      exact ⟨q1, q3⟩
    have hgn : ∀ k, getC k g = none → goneB p ids k = false := fun k h => by
      have := hg.none k h
      rwa [hie, List.take_length] at this
    show Ok _ _ _ _ _
    refine Ok.loopN hLT hmix [] [0, 1, 4, 5, 7, 8, 10, 11, 13, 15, 16, 17, 18, 24, 30, 31, 32, 33, 37, 38, 39, 40, 47] [5,8,30,31,32,4] [] (fun n t => ∃ (i sz : Nat), n = p.length - i ∧ i ≤ p.length ∧ (sz = 0 ∨ sz = 3) ∧ t = sG2 p (woP p ids |>.take i) g sz i) (n := p.length) ⟨0, 0, rfl, Nat.zero_le _, .inl rfl, by unfold sG2; rw [← hlen]; rfl⟩ ?_
    rintro n t ⟨i, sz, rfl, hi, hsz, rfl⟩
    have hwl : (woP p ids).length = p.length := by simp [woP]
    refine And.intro (fun g1 => ?_) (fun g1 => ?_)
    rotate_left
    · have g1 : ¬ ((i : Nat) : Int) < (p.length : Int) := of_decide_eq_false g1
      rw [List.take_of_length_le (by omega)]
      exact And.intro ⟨sz, rfl, hsz⟩ ⟨_, rfl⟩
    have g1 : ((i : Nat) : Int) < (p.length : Int) := of_decide_eq_true g1
    have hip : i < p.length := by omega
    have hpl := hp.len
    have hw := wrap_succ (i := i) (n := p.length) (by omega) (by omega)
    have hst := hp.st p[i] (List.getElem_mem _)
    have htk : (woP p ids).take (i + 1) = (woP p ids).take i ++ [woR p ids p[i]] := by
      rw [List.take_succ_eq_append_getElem (by omega)]
      simp [woP]
    refine ⟨(p).map rowR, rowR ((p)[i]'(by omega)), rfl, by omega, row_at' rowR (p) (by omega) (by omega), rfl, of_decide_eq_true rfl, ?_⟩
    generalize p[i] = r at hst htk ⊢
    generalize hq : (woP p ids).take i = q at htk ⊢
    have hql : q.length ≤ i := by rw [← hq, List.length_take]; omega
    have hls : ((r.st.map rowS).length : Int) = (r.st.length : Int) := by rw [List.length_map]
    show Ok _ _ _ _ _
    refine Ok.loopN hLT hmix [] [0, 1, 4, 5, 7, 8, 10, 11, 13, 15, 16, 17, 18, 24, 30, 31, 32, 33, 37, 38, 39, 40, 47] [5,8,10,11,30,31,32,37,38,39,4] [10] (fun n t => ∃ (j z2 : Nat), n = r.st.length - j ∧ j ≤ r.st.length ∧ (z2 = 0 ∨ z2 = 2) ∧ t = sG3 p q r ((r.st.take j).filter fun s => !goneB p ids s.ord) g sz z2 i j) (n := r.st.length) ⟨0, 0, rfl, Nat.zero_le _, .inl rfl, by unfold sG3; rw [← hls]; rfl⟩ ?_
    rintro n t ⟨j, z2, rfl, hj, hz2, rfl⟩
    refine And.intro (fun w1 => ?_) (fun w1 => ?_)
    rotate_left
    · have w1 : ¬ ((j : Nat) : Int) < (r.st.length : Int) := of_decide_eq_false w1
      rw [List.take_of_length_le (by omega)]
      refine And.intro trivial (And.intro (show ((sz == 0 || sz == LT.size 26) && decide (0 < LT.size 26) && decide (0 < LT.bytes 26) && (LT.zero 26).isSome) = true by rcases hsz with rfl | rfl <;> rfl) (And.intro (show ((q.map rowR).length + 1) * 40 ≤ 140737488355328 by rw [List.length_map]; omega) (And.intro rfl ?_)))
      refine ⟨p.length - (i + 1), by omega, i + 1, 3, rfl, by omega, .inr rfl, ?_⟩
      unfold sG2
      rw [htk, ← hw, List.map_append]
      rfl
    have w1 : ((j : Nat) : Int) < (r.st.length : Int) := of_decide_eq_true w1
    have hjr : j < r.st.length := by omega
    have hwj := wrap_succ (i := j) (n := r.st.length) (by omega) (by omega)
    have hfk : ∀ b, goneB p ids r.st[j].ord = b → (r.st.take (j + 1)).filter (fun s => !goneB p ids s.ord) = (r.st.take j).filter (fun s => !goneB p ids s.ord) ++ (if b = true then [] else [r.st[j]]) := fun b hb => by
      rw [List.take_succ_eq_append_getElem hjr, List.filter_append]
      cases b <;> simp [List.filter_cons, hb]
    have hfl : ((r.st.take j).filter fun s => !goneB p ids s.ord).length ≤ j := by
      have := List.length_filter_le (fun s => !goneB p ids s.ord) (r.st.take j)
      rw [List.length_take] at this
      omega
    refine ⟨(r.st).map rowS, rowS ((r.st)[j]'(by omega)), rfl, by omega, row_at' rowS (r.st) (by omega) (by omega), rfl, of_decide_eq_true rfl, ?_⟩
    generalize r.st[j] = x at hfk ⊢
    generalize ((r.st.take j).filter fun s => !goneB p ids s.ord) = l at hfk hfl ⊢
    refine And.intro rfl ⟨_, findG x.ord g, ?_⟩
    cases hc : getC x.ord g with
    | none =>
      repeat (first | refine And.intro (fun _ => ?_) (fun h => Bool.noConfusion h) | refine And.intro (fun h => Bool.noConfusion h) (fun _ => ?_))
      have hgo := hfk false (hgn _ hc)
      refine And.intro trivial (And.intro (show ((z2 == 0 || z2 == LT.size 23) && decide (0 < LT.size 23) && decide (0 < LT.bytes 23) && (LT.zero 23).isSome) = true by rcases hz2 with rfl | rfl <;> rfl) (And.intro (show ((l.map rowS).length + 1) * 16 ≤ 140737488355328 by rw [List.length_map]; omega) (And.intro rfl ?_)))
      refine ⟨r.st.length - (j + 1), by omega, j + 1, 2, rfl, by omega, .inr rfl, ?_⟩
      unfold sG3
      rw [hgo, ← hwj, List.map_append]
      rfl
    | some c =>
      obtain ⟨q1, q2⟩ := hgs _ _ hc
      refine And.intro (fun h => absurd (of_decide_eq_true h) (by show ¬ c = 0; omega)) (fun _ => ?_)
      have hgo := hfk true q2
      refine ⟨r.st.length - (j + 1), by omega, j + 1, z2, rfl, by omega, hz2, ?_⟩
      unfold sG3
      rw [hgo, ← hwj]
      simp only [if_true, List.append_nil]
      rfl
theorem c_plan_Without_0 (p : Pln) (hp : szQ p) (ids : List Int) (hids : ids.length ≤ 1000000000000000) : Tri Try.prog 14 0 [encP p, .list .imm (ids.map rowI)] [] (fun d k => copD (woP p ids) d ∧ k = []) :=
  Tri.forget (c_plan_Without_1 p hp ids hids) (fun d l h _ => ⟨0, Nat.zero_le _, Nat.zero_le _, nrB_nr (copD_ok h.1).2, fun o ho => absurd ho (by simp), h.1, rfl⟩)
theorem c_plan_Without (p : Pln) (hp : szQ p) (ids : List Int) (hids : ids.length ≤ 1000000000000000) {r : Nat} {sto : List Ob} (hr : r ≤ sto.length) : Tri Try.prog 14 r [encP p, .list .imm (ids.map rowI)] sto (fun d k => copD (woP p ids) d ∧ k = sto) :=
  (c_plan_Without_0 p hp ids hids).pureR rfl (nrBL_P (by show (nrBLL 0 (ids.map rowI) && true) = true; rw [nrBLL_I]; rfl)) (fun d h => copD_ok h) hr
end Go.Lv

namespace Go.Lv
open Go.Proofs

noncomputable def zu (n : Int) : Int := IntKind.u64.wrap (IntKind.u64.wrap n * 2 ^ min (Int.toNat 1) IntKind.u64.bits)
noncomputable def zn (u : Int) : Int := IntKind.u64.wrap (BitVec.ofInt IntKind.u64.bits (if IntKind.u64.signed then -1 else IntKind.u64.max) ^^^ BitVec.ofInt IntKind.u64.bits u).toNat
noncomputable def zigU (n : Int) : Int := if n < 0 then zn (zu n) else zu n
noncomputable def zsh (n : Int) : Int := IntKind.u64.wrap (n.fdiv (2 ^ min (Int.toNat 63) IntKind.i64.bits))
noncomputable def zx (a b : Int) : Int := IntKind.u64.wrap (BitVec.ofInt IntKind.u64.bits a ^^^ BitVec.ofInt IntKind.u64.bits b).toNat
theorem zu_range (n : Int) : 0 ≤ zu n ∧ zu n < 18446744073709551616 := by
  unfold zu
  rw [wrapU]
  omega
theorem zn_range (n : Int) : 0 ≤ zn n ∧ zn n < 18446744073709551616 := by
  unfold zn
  rw [wrapU]
  omega
theorem zigU_range (n : Int) : 0 ≤ zigU n ∧ zigU n < 18446744073709551616 := by
  unfold zigU
  split
  · exact zn_range _
  · exact zu_range _
theorem zig_eq {n : Int} (h1 : -9223372036854775808 ≤ n) (h2 : n ≤ 9223372036854775807) : zx (zu n) (zsh n) = zigU n := by
  have e63 : (2 : Int) ^ min (Int.toNat 63) IntKind.i64.bits = 9223372036854775808 := by decide
  unfold zigU
  split
  · rename_i h
    have e : zsh n = 18446744073709551615 := by
      unfold zsh
      rw [e63, wrapU]
      have : n.fdiv 9223372036854775808 = -1 := by
        rw [Int.fdiv_eq_ediv_of_nonneg _ (by omega)]
        omega
      rw [this]
      decide
    rw [e]
    unfold zx zn
    rw [BitVec.xor_comm]
    rfl
  · rename_i h
    have e : zsh n = 0 := by
      unfold zsh
      rw [e63, wrapU]
      have : n.fdiv 9223372036854775808 = 0 := by
        rw [Int.fdiv_eq_ediv_of_nonneg _ (by omega)]
        omega
      rw [this]
      decide
    rw [e]
    obtain ⟨r1, r2⟩ := zu_range n
    generalize zu n = u at r1 r2
    show IntKind.u64.wrap ((BitVec.ofInt 64 u ^^^ BitVec.ofInt 64 0).toNat : Int) = u
    rw [show BitVec.ofInt 64 0 = 0#64 by decide, BitVec.xor_zero, wrapU, BitVec.toNat_ofInt]
    omega
theorem c_wire_zig_0 (n : Int) (h1 : -9223372036854775808 ≤ n) (h2 : n ≤ 9223372036854775807) : Tri Try.prog 83 0 [.int .i64 n] [] (fun d l => d = .int .u64 (zigU n) ∧ l = []) := by
  refine Tri.walk2 (L := LT) (c := {la := false, n := 10, ko := [2]}) [] [0, 2] hLT hmix Try.func83 rfl rfl ⟨rfl, rfl⟩ (by show 1 ≤ 10; decide) (Nat.le_refl _) ?_
  refine And.intro ?_ rfl
  rw [← zig_eq h1 h2]
  rfl
noncomputable def orB (u : Int) : Int := IntKind.u8.wrap (BitVec.ofInt IntKind.u8.bits (IntKind.u8.wrap u) ||| BitVec.ofInt IntKind.u8.bits 128).toNat
noncomputable def sh7 (u : Int) : Int := u.fdiv (2 ^ min (Int.toNat 7) IntKind.u64.bits)
theorem sh7_eq {u : Int} : sh7 u = u / 128 := by
  unfold sh7
  rw [show (2 : Int) ^ min (Int.toNat 7) IntKind.u64.bits = 128 by decide, Int.fdiv_eq_ediv_of_nonneg _ (by omega)]
/-- A number's groups. -/
noncomputable def putB : Nat → Int → List Int
  | 0, u => [IntKind.u8.wrap u]
  | f + 1, u => if u ≥ 128 then orB u :: putB f (sh7 u) else [IntKind.u8.wrap u]
noncomputable def numB (n : Int) : List Int := putB 9 (zigU n)
theorem putB_len : ∀ (f : Nat) (u : Int), (putB f u).length ≤ f + 1
  | 0, u => by simp [putB]
  | f + 1, u => by
    unfold putB
    split
    · have := putB_len f (sh7 u); simp; omega
    · simp
theorem putB_end {f : Nat} {u : Int} (h : ¬ u ≥ 128) : putB f u = [IntKind.u8.wrap u] := by
  cases f with
  | zero => rfl
  | succ f => unfold putB; rw [if_neg h]
theorem pow128 (f : Nat) : (128 : Int) ^ (f + 1) = 128 * 128 ^ f := by rw [Int.pow_succ, Int.mul_comm]
theorem sh7_lt {u : Int} {f : Nat} (h0 : 0 ≤ u) (h : u < 128 ^ (f + 2)) : 0 ≤ sh7 u ∧ sh7 u < 128 ^ (f + 1) := by
  rw [sh7_eq]
  rw [pow128 (f + 1)] at h
  omega
noncomputable def sP (sz : Nat) (bs : List Int) (n u : Int) : DS := ⟨[(0, .list (.own sz) (bs.map rowB)), (5, .int .u64 u), (4, .list (.own 0) [])], [], [], mR 0⟩
/-- put. -/
theorem c_wire_put_0 (sz : Nat) (hsz : sz = 0 ∨ sz = 1) (bs : List Int) (hb : bs.length ≤ 140737488355300) (n : Int) (h1 : -9223372036854775808 ≤ n) (h2 : n ≤ 9223372036854775807) :
    Tri Try.prog 65 0 [.list (.own sz) (bs.map rowB), .int .i64 n] [] (fun d l => d = .list (.own 1) ((bs ++ numB n).map rowB) ∧ l = []) := by
  refine Tri.walk2 (L := LT) (c := {la := false, n := 23, ko := [0, 4], xf := [10, 18]}) [] [0, 1, 4, 5, 9] hLT hmix Try.func65 rfl rfl ⟨rfl, rfl⟩ (by show 2 ≤ 23; decide) (Nat.le_refl _) ?_
  have hz := zigU_range n
  have start : ∀ (sz : Nat), (sz = 0 ∨ sz = 1) → ∃ (f : Nat) (u : Int) (pre : List Int), 9 = f ∧ 0 ≤ u ∧ u < 128 ^ (f + 1) ∧ pre ++ putB f u = numB n ∧ pre.length + f = 9 ∧ ((pre = [] ∧ (sz = 0 ∨ sz = 1)) ∨ sz = 1) ∧ sP sz bs n (zigU n) = sP sz (bs ++ pre) n u := fun sz hsz =>
    ⟨9, zigU n, [], rfl, hz.1, by have : (128 : Int) ^ (9 + 1) = 1180591620717411303424 := by decide
                                  omega, rfl, rfl, .inl ⟨rfl, hsz⟩, by rw [List.append_nil]⟩
  have rest : ∀ (sz : Nat), (sz = 0 ∨ sz = 1) → ∀ s, nmB [0, 5, 4] [] s = sP sz bs n (zigU n) → ∀ c Q, (∀ k s, (∃ (sz f : Nat) (u : Int) (pre : List Int), k = f ∧ 0 ≤ u ∧ u < 128 ^ (f + 1) ∧ pre ++ putB f u = numB n ∧ pre.length + f = 9 ∧ (sz = 0 ∨ sz = 1) ∧ s = sP sz (bs ++ pre) n u) → wC Try.prog ⟨LT, {la := false, n := 23, ko := [0, 4], xf := [10, 18]}, 0, 0⟩ [] [0, 1, 4, 5, 9] c s (Ex.then (fun s' => ∃ k', k' < k ∧ ∃ (sz f : Nat) (u : Int) (pre : List Int), k' = f ∧ 0 ≤ u ∧ u < 128 ^ (f + 1) ∧ pre ++ putB f u = numB n ∧ pre.length + f = 9 ∧ (sz = 0 ∨ sz = 1) ∧ nmB [0, 5, 4] [] s' = sP sz (bs ++ pre) n u) Q)) → Ok Try.prog ⟨LT, {la := false, n := 23, ko := [0, 4], xf := [10, 18]}, 0, 0⟩ (.loop c) s Q := by
    intro sz hsz s hs c Q hr
    refine Ok.loopN hLT hmix [] [0, 1, 4, 5, 9] [0, 5, 4] [] (fun k s => ∃ (sz f : Nat) (u : Int) (pre : List Int), k = f ∧ 0 ≤ u ∧ u < 128 ^ (f + 1) ∧ pre ++ putB f u = numB n ∧ pre.length + f = 9 ∧ (sz = 0 ∨ sz = 1) ∧ s = sP sz (bs ++ pre) n u) (n := 9) ?_ hr
    obtain ⟨f, u, pre, q1, q2, q3, q4, q5, q6, q7⟩ := start sz hsz
    refine ⟨sz, f, u, pre, q1, q2, q3, q4, q5, hsz, ?_⟩
    rw [hs]
    exact q7
  rcases hsz with rfl | rfl
  all_goals
    refine ⟨rfl, Nat.le_refl 0, (c_wire_zig_0 n h1 h2).mono ?_⟩
    rintro d l ⟨rfl, rfl⟩
    refine ⟨rfl, fun _ _ => rfl, rfl, ?_⟩
    show Ok _ _ _ _ _
    refine rest _ (by simp) _ rfl _ _ ?_
    rintro f s ⟨sz, _, u, pre, rfl, hu0, hu1, hpre, hlen, hsz, rfl⟩
    have hroom : ((bs ++ pre).map rowB).length + 1 ≤ 140737488355328 := by
      simp only [List.length_map, List.length_append]
      omega
    rcases hsz with rfl | rfl
    all_goals
      refine And.intro (fun h => ?_) (fun h => ?_)
      · have h := of_decide_eq_true h
        cases f with
        | zero => exact absurd h (by simp at hu1; omega)
        | succ f =>
          refine And.intro trivial ?_
          refine And.intro rfl (And.intro ?_ (And.intro rfl ?_))
          · show (((bs ++ pre).map rowB).length + 1) * 1 ≤ 140737488355328
            omega
          have hs7 := sh7_lt hu0 hu1
          refine ⟨f, Nat.lt_succ_self f, 1, f, sh7 u, pre ++ [orB u], rfl, hs7.1, hs7.2, ?_, by simp; omega, .inr rfl, ?_⟩
          · rw [← hpre]
            conv => rhs; unfold putB
            rw [if_pos h]
            simp
          · have : (bs ++ (pre ++ [orB u])).map rowB = (bs ++ pre).map rowB ++ [rowB (orB u)] := by simp
            unfold sP
            rw [this]
            rfl
      · have h := of_decide_eq_false h
        refine And.intro trivial ?_
        refine And.intro rfl (And.intro ?_ (And.intro rfl ?_))
        · show (((bs ++ pre).map rowB).length + 1) * 1 ≤ 140737488355328
          omega
        refine And.intro ?_ rfl
        rw [← hpre, putB_end h]
        have : (bs ++ (pre ++ [IntKind.u8.wrap u])).map rowB = (bs ++ pre).map rowB ++ [rowB (IntKind.u8.wrap u)] := by simp
        rw [this]
        rfl
/-- again. -/
theorem c_wire_again_0 (bs : List Int) (hb : bs.length ≤ 140737488354000) (k : Int) (h1 : 0 ≤ k) (h2 : k ≤ 1000) :
    Tri Try.prog 59 0 [.list .imm (bs.map rowB), .int .i64 k] [] (fun d l => d = .list (.own 1) (bs.map rowB) ∧ l = []) := by
  refine Tri.walk2 (L := LT) (c := {la := false, n := 14, ko := [4, 5], xf := [11]}) [] [0, 1, 4, 5] hLT hmix Try.func59 rfl rfl ⟨rfl, rfl⟩ (by show 2 ≤ 14; decide) (Nat.le_refl _) ?_
  have hw : IntKind.i64.wrap (((bs.map rowB).length : Int) + k) = (bs.length : Int) + k := by
    rw [List.length_map, wrap64 (by omega) (by omega)]
  refine And.intro ?_ ?_
  · show 0 ≤ 0 ∧ (0 : Int) ≤ IntKind.i64.wrap (((bs.map rowB).length : Int) + k) ∧ IntKind.i64.wrap (((bs.map rowB).length : Int) + k) * (1 : Nat) ≤ 2 * (140737488355328 : Nat) ∧ IntKind.i64.wrap (((bs.map rowB).length : Int) + k) ≤ 9223372036854775807 ∧ 0 < 1
    rw [hw]
    omega
  refine And.intro trivial ?_
  refine And.intro rfl (And.intro ?_ (And.intro ?_ ?_))
  · show (0 + (bs.map rowB).length) * 1 ≤ 140737488355328
    simp only [List.length_map]
    omega
  · simp [allLen, rowB]
    intro a _
    rfl
  exact And.intro rfl rfl
/-- Num. -/
theorem c_wire_Num_0 (bs : List Int) (hb : bs.length ≤ 140737488354000) (n : Int) (h1 : -9223372036854775808 ≤ n) (h2 : n ≤ 9223372036854775807) :
    Tri Try.prog 44 0 [.list .imm (bs.map rowB), .int .i64 n] [] (fun d l => d = .list (.own 1) ((bs ++ numB n).map rowB) ∧ l = []) := by
  refine Tri.walk2 (L := LT) (c := {la := false, n := 9, ko := [4]}) [(65, 0, [0])] [0, 1, 4] hLT hmix Try.func44 rfl rfl ⟨rfl, rfl⟩ (by show 2 ≤ 9; decide) (Nat.le_refl _) ?_
  refine ⟨rfl, Nat.le_refl 0, (c_wire_again_0 bs hb 10 (by omega) (by omega)).mono ?_⟩
  rintro d l ⟨rfl, rfl⟩
  refine ⟨rfl, fun _ _ => rfl, rfl, ?_⟩
  refine ⟨rfl, Nat.le_refl 0, (c_wire_put_0 1 (.inr rfl) bs (by omega) n h1 h2).mono ?_⟩
  rintro d l ⟨rfl, rfl⟩
  refine ⟨rfl, fun _ _ => rfl, rfl, ?_⟩
  exact And.intro rfl rfl
noncomputable def sQ (bs : List Int) (u : Int) : DS := ⟨[(5, .list (.own 1) (bs.map rowB)), (6, .int .u64 u), (4, .list (.own 0) [])], [], [], mR 0⟩
theorem c_drayref3_Num_0 (bs : List Int) (hb : bs.length ≤ 140737488355000) (n : Int) :
    Tri Try.prog 52 0 [.list .imm (bs.map rowB), .int .i64 n] [] (fun d l => d = .list (.own 1) ((bs ++ numB n).map rowB) ∧ l = []) := by
  refine Tri.walk2 (L := LT) (c := {la := false, n := 32, ko := [4, 5], xf := [19, 27]}) [] [0, 1, 4, 5, 6, 14, 18] hLT hmix Try.func52 rfl rfl ⟨rfl, rfl⟩ (by show 2 ≤ 32; decide) (Nat.le_refl _) ?_
  have hz := zigU_range n
  refine And.intro trivial ?_
  refine And.intro rfl (And.intro ?_ (And.intro (allLenB bs) ?_))
  · show (0 + (bs.map rowB).length) * 1 ≤ 140737488355328
    simp only [List.length_map]
    omega
  have fin : ∀ (s : DS) (u0 : Int), u0 = zigU n → nmB [5, 6, 4] [] s = sQ bs u0 → ∀ c Q, (∀ f s, (∃ (u : Int) (pre : List Int), 0 ≤ u ∧ u < 128 ^ (f + 1) ∧ pre ++ putB f u = numB n ∧ pre.length + f = 9 ∧ s = sQ (bs ++ pre) u) → wC Try.prog ⟨LT, {la := false, n := 32, ko := [4, 5], xf := [19, 27]}, 0, 0⟩ [] [0, 1, 4, 5, 6, 14, 18] c s (Ex.then (fun s' => ∃ k', k' < f ∧ ∃ (u : Int) (pre : List Int), 0 ≤ u ∧ u < 128 ^ (k' + 1) ∧ pre ++ putB k' u = numB n ∧ pre.length + k' = 9 ∧ nmB [5, 6, 4] [] s' = sQ (bs ++ pre) u) Q)) → Ok Try.prog ⟨LT, {la := false, n := 32, ko := [4, 5], xf := [19, 27]}, 0, 0⟩ (.loop c) s Q := by
    intro s u0 hu0 hs c Q hr
    refine Ok.loopN hLT hmix [] [0, 1, 4, 5, 6, 14, 18] [5, 6, 4] [] (fun f s => ∃ (u : Int) (pre : List Int), 0 ≤ u ∧ u < 128 ^ (f + 1) ∧ pre ++ putB f u = numB n ∧ pre.length + f = 9 ∧ s = sQ (bs ++ pre) u) (n := 9) ⟨zigU n, [], hz.1, ?_, rfl, rfl, ?_⟩ hr
    · have : (128 : Int) ^ (9 + 1) = 1180591620717411303424 := by decide
      omega
    · rw [List.append_nil, ← hu0]
      exact hs
  refine And.intro (fun hn => ?_) (fun hn => ?_)
  · have hn := of_decide_eq_true hn
    show Ok _ _ _ _ _
    refine fin _ (zn (zu n)) (by unfold zigU; rw [if_pos hn]) rfl _ _ ?_
    rintro f s ⟨u, pre, hu0, hu1, hpre, hlen, rfl⟩
    have hroom : ((bs ++ pre).map rowB).length + 1 ≤ 140737488355328 := by
      simp only [List.length_map, List.length_append]
      omega
    refine And.intro (fun h => ?_) (fun h => ?_)
    · have h := of_decide_eq_true h
      cases f with
      | zero => exact absurd h (by simp at hu1; omega)
      | succ f =>
        refine And.intro trivial ?_
        refine And.intro rfl (And.intro ?_ (And.intro rfl ?_))
        · show (((bs ++ pre).map rowB).length + 1) * 1 ≤ 140737488355328
          omega
        have hs7 := sh7_lt hu0 hu1
        refine ⟨f, Nat.lt_succ_self f, sh7 u, pre ++ [orB u], hs7.1, hs7.2, ?_, by simp; omega, ?_⟩
        · rw [← hpre]
          conv => rhs; unfold putB
          rw [if_pos h]
          simp
        · have : (bs ++ (pre ++ [orB u])).map rowB = (bs ++ pre).map rowB ++ [rowB (orB u)] := by simp
          unfold sQ
          rw [this]
          rfl
    · have h := of_decide_eq_false h
      refine And.intro trivial ?_
      refine And.intro rfl (And.intro ?_ (And.intro rfl ?_))
      · show (((bs ++ pre).map rowB).length + 1) * 1 ≤ 140737488355328
        omega
      refine And.intro ?_ rfl
      rw [← hpre, putB_end h]
      have : (bs ++ (pre ++ [IntKind.u8.wrap u])).map rowB = (bs ++ pre).map rowB ++ [rowB (IntKind.u8.wrap u)] := by simp
      rw [this]
      rfl
  · have hn := of_decide_eq_false hn
    show Ok _ _ _ _ _
    refine fin _ (zu n) (by unfold zigU; rw [if_neg hn]) rfl _ _ ?_
    rintro f s ⟨u, pre, hu0, hu1, hpre, hlen, rfl⟩
    have hroom : ((bs ++ pre).map rowB).length + 1 ≤ 140737488355328 := by
      simp only [List.length_map, List.length_append]
      omega
    refine And.intro (fun h => ?_) (fun h => ?_)
    · have h := of_decide_eq_true h
      cases f with
      | zero => exact absurd h (by simp at hu1; omega)
      | succ f =>
        refine And.intro trivial ?_
        refine And.intro rfl (And.intro ?_ (And.intro rfl ?_))
        · show (((bs ++ pre).map rowB).length + 1) * 1 ≤ 140737488355328
          omega
        have hs7 := sh7_lt hu0 hu1
        refine ⟨f, Nat.lt_succ_self f, sh7 u, pre ++ [orB u], hs7.1, hs7.2, ?_, by simp; omega, ?_⟩
        · rw [← hpre]
          conv => rhs; unfold putB
          rw [if_pos h]
          simp
        · have : (bs ++ (pre ++ [orB u])).map rowB = (bs ++ pre).map rowB ++ [rowB (orB u)] := by simp
          unfold sQ
          rw [this]
          rfl
    · have h := of_decide_eq_false h
      refine And.intro trivial ?_
      refine And.intro rfl (And.intro ?_ (And.intro rfl ?_))
      · show (((bs ++ pre).map rowB).length + 1) * 1 ≤ 140737488355328
        omega
      refine And.intro ?_ rfl
      rw [← hpre, putB_end h]
      have : (bs ++ (pre ++ [IntKind.u8.wrap u])).map rowB = (bs ++ pre).map rowB ++ [rowB (IntKind.u8.wrap u)] := by simp
      rw [this]
      rfl
theorem numB_len (n : Int) : (numB n).length ≤ 10 := putB_len 9 _
theorem c_wire_Num (bs : List Int) (hb : bs.length ≤ 140737488354000) (n : Int) (h1 : -9223372036854775808 ≤ n) (h2 : n ≤ 9223372036854775807) {r : Nat} {sto : List Ob} (hr : r ≤ sto.length) :
    Tri Try.prog 44 r [.list .imm (bs.map rowB), .int .i64 n] sto (fun d l => d = .list (.own 1) ((bs ++ numB n).map rowB) ∧ l = sto) :=
  (c_wire_Num_0 bs hb n h1 h2).pure rfl (nrBL_B rfl) rfl (nrBLL_B _) hr
end Go.Lv

namespace Go.Lv
open Go.Proofs

noncomputable def flgB (b : Bool) : List Int := [if b = true then 1 else 0]
noncomputable def stpB (s : Stp) : List Int := numB s.ord ++ flgB s.drop
noncomputable def stsB (l : List Stp) : List Int := (l.map stpB).flatten
noncomputable def hdB (r : Rte) : List Int := numB r.drv ++ (numB (r.st.length : Int) ++ numB r.srv)
noncomputable def rteB (r : Rte) : List Int := hdB r ++ stsB r.st
noncomputable def rtsB (p : Pln) : List Int := (p.map rteB).flatten
noncomputable def plnB (p : Pln) : List Int := numB (p.length : Int) ++ rtsB p
noncomputable def encD (p : Pln) : D := if rightP p = true then .list .imm ((plnB p).map rowB) else .list (.own 0) []
/-- What is known of a right plan's rows. -/
structure okRow (r : Rte) : Prop where
  drv : 1 ≤ r.drv ∧ r.drv ≤ 1000000
  srv : 0 ≤ r.srv ∧ r.srv ≤ 80
  srl : r.srv ≤ (r.st.length : Int)
  len : r.st.length ≤ 80
  st : ∀ s, s ∈ r.st → 1 ≤ s.ord ∧ s.ord ≤ 1000000
theorem stOK_ok : ∀ {l seen : List Stp}, stOK seen l = true → ∀ s, s ∈ l → 1 ≤ s.ord ∧ s.ord ≤ 1000000
  | [], _, _, s, hs => by cases hs
  | x :: l, seen, h, s, hs => by
    unfold stOK at h
    simp only [Bool.and_eq_true, decide_eq_true_eq] at h
    rcases List.mem_cons.1 hs with e | hs
    · subst e; exact ⟨h.1.1, h.1.2.1⟩
    · exact stOK_ok h.2 s hs
theorem rightG_ok : ∀ {p : Pln} {last : Int} {seen : List Stp}, 0 ≤ last → rightG last seen p = true → ∀ r, r ∈ p → okRow r
  | [], _, _, _, _, r, hr => by cases hr
  | x :: p, last, seen, h0, h, r, hr => by
    unfold rightG at h
    simp only [Bool.and_eq_true, decide_eq_true_eq] at h
    obtain ⟨h1, h2, h3⟩ := h
    rcases List.mem_cons.1 hr with e | hr
    · subst e
      exact ⟨⟨by have := h1.1; omega, h1.2.1⟩, ⟨h1.2.2.2.1, by have := h1.2.2.1; have := h1.2.2.2.2; omega⟩, h1.2.2.2.2, h1.2.2.1, stOK_ok h2⟩
    · exact rightG_ok (by have := h1.1; omega) h3 r hr
theorem rightP_ok {p : Pln} (h : rightP p = true) : p.length ≤ 8 ∧ ∀ r, r ∈ p → okRow r := by
  unfold rightP at h
  simp only [Bool.and_eq_true, decide_eq_true_eq] at h
  exact ⟨h.1, rightG_ok (Int.le_refl 0) h.2⟩
theorem stpB_len (s : Stp) : (stpB s).length ≤ 11 := by
  have := numB_len s.ord
  simp only [stpB, flgB, List.length_append, List.length_cons, List.length_nil]
  omega
theorem stsB_len : ∀ l : List Stp, (stsB l).length ≤ 11 * l.length
  | [] => by simp [stsB]
  | s :: l => by
    have h1 := stpB_len s
    have h2 := stsB_len l
    simp only [stsB, List.map_cons, List.flatten_cons, List.length_append, List.length_cons] at h2 ⊢
    omega
theorem hdB_len (r : Rte) : (hdB r).length ≤ 30 := by
  have h1 := numB_len r.drv
  have h2 := numB_len (r.st.length : Int)
  have h3 := numB_len r.srv
  simp only [hdB, List.length_append]
  omega
theorem rtsB_len : ∀ p : Pln, (∀ r, r ∈ p → okRow r) → (rtsB p).length ≤ 910 * p.length
  | [], _ => by simp [rtsB]
  | r :: p, h => by
    have h1 := hdB_len r
    have h2 := stsB_len r.st
    have h3 := (h r (by simp)).len
    have h4 := rtsB_len p (fun x hx => h x (by simp [hx]))
    simp only [rtsB, rteB, List.map_cons, List.flatten_cons, List.length_append, List.length_cons] at h4 ⊢
    omega
theorem stsB_take (l : List Stp) {i : Nat} (hi : i < l.length) : stsB (l.take (i + 1)) = stsB (l.take i) ++ stpB l[i] := by
  unfold stsB
  rw [List.take_succ_eq_append_getElem hi, List.map_append, List.flatten_append]
  simp
theorem rtsB_take (p : Pln) {i : Nat} (hi : i < p.length) : rtsB (p.take (i + 1)) = rtsB (p.take i) ++ rteB p[i] := by
  unfold rtsB
  rw [List.take_succ_eq_append_getElem hi, List.map_append, List.flatten_append]
  simp
set_option maxHeartbeats 2000000 in
theorem c_wire_Flag_0 (bs : List Int) (hb : bs.length ≤ 140737488354000) (b : Bool) :
    Tri Try.prog 45 0 [.list .imm (bs.map rowB), .bool b] [] (fun d l => d = .list (.own 1) ((bs ++ flgB b).map rowB) ∧ l = []) := by
  refine Tri.walk2 (L := LT) (c := {n := 12, ko := [4]}) [] [0, 1, 4, 5, 6] hLT hmix Try.func45 rfl rfl ⟨rfl, rfl⟩ (by show 2 ≤ 12; decide) (by first | exact Nat.zero_le _ | exact Nat.le_refl _ | decide) ?_
  have hroom : ((bs.map rowB).length + 1) * 1 ≤ 140737488355328 := by
    rw [List.length_map]
    omega
  cases b with
  | true =>
    repeat (first | refine And.intro (fun _ => ?_) (fun h => Bool.noConfusion h) | refine And.intro (fun h => Bool.noConfusion h) (fun _ => ?_))
    refine ⟨rfl, (by first | exact Nat.zero_le _ | decide), (c_wire_again_0 bs (by omega) 1 (by omega) (by omega)).mono ?_⟩
    rintro d l ⟨rfl, rfl⟩
    refine ⟨rfl, fun _ _ => rfl, rfl, ?_⟩
    refine And.intro trivial (And.intro rfl (And.intro hroom (And.intro rfl ?_)))
    exact And.intro (by rw [List.map_append]; rfl) rfl
  | false =>
    repeat (first | refine And.intro (fun _ => ?_) (fun h => Bool.noConfusion h) | refine And.intro (fun h => Bool.noConfusion h) (fun _ => ?_))
    refine ⟨rfl, (by first | exact Nat.zero_le _ | decide), (c_wire_again_0 bs (by omega) 1 (by omega) (by omega)).mono ?_⟩
    rintro d l ⟨rfl, rfl⟩
    refine ⟨rfl, fun _ _ => rfl, rfl, ?_⟩
    refine And.intro trivial (And.intro rfl (And.intro hroom (And.intro rfl ?_)))
    exact And.intro (by rw [List.map_append]; rfl) rfl
set_option maxHeartbeats 2000000 in
theorem c_drayref3_Flag_0 (bs : List Int) (hb : bs.length ≤ 140737488354000) (b : Bool) :
    Tri Try.prog 53 0 [.list .imm (bs.map rowB), .bool b] [] (fun d l => d = .list (.own 1) ((bs ++ flgB b).map rowB) ∧ l = []) := by
  refine Tri.walk2 (L := LT) (c := {n := 16, ko := [4]}) [] [0, 1, 4, 5] hLT hmix Try.func53 rfl rfl ⟨rfl, rfl⟩ (by show 2 ≤ 16; decide) (by first | exact Nat.zero_le _ | exact Nat.le_refl _ | decide) ?_
  have hroom : ((bs.map rowB).length + 1) * 1 ≤ 140737488355328 := by
    rw [List.length_map]
    omega
  have hroom0 : (0 + (bs.map rowB).length) * 1 ≤ 140737488355328 := by omega
  cases b with
  | true =>
    repeat (first | refine And.intro (fun _ => ?_) (fun h => Bool.noConfusion h) | refine And.intro (fun h => Bool.noConfusion h) (fun _ => ?_))
    refine And.intro trivial (And.intro rfl (And.intro hroom0 (And.intro (allLenB bs) ?_)))
    refine And.intro trivial (And.intro rfl (And.intro hroom (And.intro rfl ?_)))
    exact And.intro (by rw [List.map_append]; rfl) rfl
  | false =>
    repeat (first | refine And.intro (fun _ => ?_) (fun h => Bool.noConfusion h) | refine And.intro (fun h => Bool.noConfusion h) (fun _ => ?_))
    refine And.intro trivial (And.intro rfl (And.intro hroom0 (And.intro (allLenB bs) ?_)))
    refine And.intro trivial (And.intro rfl (And.intro hroom (And.intro rfl ?_)))
    exact And.intro (by rw [List.map_append]; rfl) rfl
noncomputable def sEi (p : Pln) (bs : List Int) (i : Nat) : DS := ⟨[(3, .list .imm (bs.map rowB)), (14, encP p), (15, .int .i64 (p.length : Int)), (16, .int .i64 (i : Int)), (2, .list (.own 0) [])], [], [], mR 0⟩
noncomputable def sEj (p : Pln) (l : List Stp) (bs : List Int) (i j : Nat) : DS := ⟨[(3, .list .imm (bs.map rowB)), (14, encP p), (15, .int .i64 (p.length : Int)), (16, .int .i64 (i : Int)), (32, .list .imm (l.map rowS)), (33, .int .i64 (l.length : Int)), (34, .int .i64 (j : Int)), (2, .list (.own 0) [])], [], [], mR 0⟩
set_option maxHeartbeats 8000000 in
theorem c_plan_Encode_0 (p : Pln) : Tri Try.prog 21 0 [encP p] [] (fun d k => d = encD p ∧ k = []) := by
  refine Tri.walk2 (L := LT) (c := {n := 48, ko := [2]}) [] [0, 2, 3, 5, 7, 10, 14, 15, 16, 17, 32, 33, 34, 35] hLT hmix Try.func21 rfl rfl ⟨rfl, rfl⟩ (by show 1 ≤ 48; decide) (by first | exact Nat.zero_le _ | exact Nat.le_refl _ | decide) ?_
  unfold encD
  refine ⟨rfl, Nat.zero_le _, (c_plan_Right_0 p).mono ?_⟩
  rintro d l ⟨hd, rfl⟩
  by_cases hr : rightP p = true
  rotate_left
  · rw [Bool.not_eq_true] at hr
    rw [hr] at hd ⊢
    subst hd
    refine ⟨rfl, fun _ _ => rfl, rfl, ?_⟩
    exact And.intro rfl rfl
  obtain ⟨hp8, hrow⟩ := rightP_ok hr
  rw [hr] at hd ⊢
  subst hd
  refine ⟨rfl, fun _ _ => rfl, rfl, ?_⟩
  repeat (first | refine And.intro (fun _ => ?_) (fun h => Bool.noConfusion h) | refine And.intro (fun h => Bool.noConfusion h) (fun _ => ?_))
  have hlen : ((p.map rowR).length : Int) = (p.length : Int) := by rw [List.length_map]
  refine ⟨rfl, (by first | exact Nat.zero_le _ | decide), (c_wire_Num_0 [] (by simp) ((p.map rowR).length : Int) (by omega) (by rw [List.length_map]; omega)).mono ?_⟩
  rintro d l ⟨rfl, rfl⟩
  refine ⟨rfl, fun _ _ => rfl, rfl, ?_⟩
  show Ok _ _ _ _ _
  refine Ok.loopN hLT hmix [] [0, 2, 3, 5, 7, 10, 14, 15, 16, 17, 32, 33, 34, 35] [3,14,15,16,2] [] (fun n s => ∃ (i : Nat), n = p.length - i ∧ i ≤ p.length ∧ s = sEi p (numB (p.length : Int) ++ rtsB (p.take i)) i) (n := p.length) ⟨0, rfl, Nat.zero_le _, by unfold sEi; rw [show rtsB (p.take 0) = [] from rfl, List.append_nil, ← hlen]; rfl⟩ ?_
  rintro n s ⟨i, rfl, hi, rfl⟩
  refine And.intro (fun h1 => ?_) (fun h1 => ?_)
  · have h1 : ((i : Nat) : Int) < (p.length : Int) := of_decide_eq_true h1
    have hw := wrap_succ (i := i) (n := p.length) (by omega) (by omega)
    have hr := hrow p[i] (List.getElem_mem _)
    have htk := rtsB_take p (i := i) (by omega)
    have hb0 : (numB (p.length : Int) ++ rtsB (p.take i)).length ≤ 10000 := by
      have h2 := numB_len (p.length : Int)
      have h3 := rtsB_len (p.take i) (fun x hx => hrow x (List.mem_of_mem_take hx))
      rw [List.length_take] at h3
      rw [List.length_append]
      omega
    have htk : numB (p.length : Int) ++ rtsB (p.take (i + 1)) = numB (p.length : Int) ++ rtsB (p.take i) ++ rteB p[i] := by
      rw [htk, List.append_assoc]
    refine ⟨(p).map rowR, rowR ((p)[i]'(by omega)), rfl, by omega, row_at' rowR (p) (by omega) (by omega), rfl, of_decide_eq_true rfl, ?_⟩
    generalize p[i] = r at hr htk ⊢
    generalize numB (p.length : Int) ++ rtsB (p.take i) = bs at hb0 htk ⊢
    have hd1 := numB_len r.drv
    have hd2 := numB_len ((r.st.map rowS).length : Int)
    have hd3 := numB_len r.srv
    have hl80 := hr.len
    refine ⟨⟨2047, [0, 0, 2, 5, 0, 16, 32, 72, 0, 256, 640, 2047], [1, 2, 6, 15, 16, 48, 112, 255, 256, 768, 2047, 4095]⟩, by kernel_rfl, ?_⟩
    refine And.intro ?_ trivial
    refine ⟨rfl, (by first | exact Nat.zero_le _ | decide), (c_wire_Num_0 bs (by omega) r.drv (by have := hr.drv; omega) (by have := hr.drv; omega)).mono ?_⟩
    rintro d l ⟨rfl, rfl⟩
    refine ⟨rfl, fun _ _ => rfl, rfl, ?_⟩
    refine And.intro (by repeat (first | exact trivial | refine And.intro ⟨rfl, rfl⟩ ?_)) ?_
    refine And.intro ?_ trivial
    refine ⟨rfl, (by first | exact Nat.zero_le _ | decide), (c_wire_Num_0 (bs ++ numB r.drv) (by rw [List.length_append]; omega) ((r.st.map rowS).length : Int) (by omega) (by rw [List.length_map]; omega)).mono ?_⟩
    rintro d l ⟨rfl, rfl⟩
    refine ⟨rfl, fun _ _ => rfl, rfl, ?_⟩
    refine And.intro (by repeat (first | exact trivial | refine And.intro ⟨rfl, rfl⟩ ?_)) ?_
    refine And.intro ?_ trivial
    refine ⟨rfl, (by first | exact Nat.zero_le _ | decide), (c_wire_Num_0 (bs ++ numB r.drv ++ numB ((r.st.map rowS).length : Int)) (by rw [List.length_append, List.length_append]; omega) r.srv (by have := hr.srv; omega) (by have := hr.srv; omega)).mono ?_⟩
    rintro d l ⟨rfl, rfl⟩
    refine ⟨rfl, fun _ _ => rfl, rfl, ?_⟩
    refine And.intro (by repeat (first | exact trivial | refine And.intro ⟨rfl, rfl⟩ ?_)) ?_
    refine And.intro ?_ trivial
    refine And.intro (by repeat (first | exact trivial | refine And.intro ⟨rfl, rfl⟩ ?_)) ?_
    have hhd : bs ++ numB r.drv ++ numB ((r.st.map rowS).length : Int) ++ numB r.srv = bs ++ hdB r := by
      rw [List.length_map]
      simp only [hdB, List.append_assoc]
    have hhl : (bs ++ hdB r).length ≤ 10030 := by
      have := hdB_len r
      rw [List.length_append]
      omega
    rw [hhd]
    have htk : numB (p.length : Int) ++ rtsB (p.take (i + 1)) = bs ++ hdB r ++ stsB r.st := by
      rw [htk]
      simp only [rteB, List.append_assoc]
    generalize bs ++ hdB r = cs at hhl htk ⊢
    show Ok _ _ _ _ _
    refine Ok.loopN hLT hmix [] [0, 2, 3, 5, 7, 10, 14, 15, 16, 17, 32, 33, 34, 35] [3,14,15,16,32,33,34,2] [] (fun n s => ∃ (j : Nat), n = r.st.length - j ∧ j ≤ r.st.length ∧ s = sEj p r.st (cs ++ stsB (r.st.take j)) i j) (n := r.st.length) ⟨0, rfl, Nat.zero_le _, by rw [List.take_zero, show cs ++ stsB [] = cs by simp [stsB]]; unfold sEj; rw [← List.length_map (f := rowS)]; rfl⟩ ?_
    rintro n s ⟨j, rfl, hj, rfl⟩
    refine And.intro (fun g1 => ?_) (fun g1 => ?_)
    · have g1 : ((j : Nat) : Int) < (r.st.length : Int) := of_decide_eq_true g1
      have hwj := wrap_succ (i := j) (n := r.st.length) (by omega) (by omega)
      have hs := hr.st r.st[j] (List.getElem_mem _)
      have hcl : (cs ++ stsB (r.st.take j)).length ≤ 11000 := by
        have h3 := stsB_len (r.st.take j)
        rw [List.length_take] at h3
        rw [List.length_append]
        omega
      have hsk : cs ++ stsB (r.st.take (j + 1)) = cs ++ stsB (r.st.take j) ++ stpB r.st[j] := by
        rw [stsB_take r.st (by omega), List.append_assoc]
      refine ⟨(r.st).map rowS, rowS ((r.st)[j]'(by omega)), rfl, by omega, row_at' rowS (r.st) (by omega) (by omega), rfl, of_decide_eq_true rfl, ?_⟩
      generalize r.st[j] = x at hs hsk ⊢
      generalize cs ++ stsB (r.st.take j) = ds at hcl hsk ⊢
      obtain ⟨xo, xd⟩ := x
      have hs : 1 ≤ xo ∧ xo ≤ 1000000 := hs
      have hdx := numB_len xo
      have hsk : cs ++ stsB (r.st.take (j + 1)) = ds ++ numB xo ++ flgB xd := by
        rw [hsk, List.append_assoc]
        rfl
      cases xd
      all_goals
        refine ⟨⟨127, [0, 0, 2, 5, 0, 16, 40, 127], [1, 2, 6, 15, 16, 48, 127, 255]⟩, by kernel_rfl, ?_⟩
        repeat (first | refine And.intro (fun _ => ?_) (fun h => Bool.noConfusion h) | refine And.intro (fun h => Bool.noConfusion h) (fun _ => ?_))
        refine And.intro ?_ trivial
        refine ⟨rfl, (by first | exact Nat.zero_le _ | decide), (c_wire_Num_0 ds (by omega) xo (by omega) (by omega)).mono ?_⟩
        rintro d l ⟨rfl, rfl⟩
        refine ⟨rfl, fun _ _ => rfl, rfl, ?_⟩
        refine And.intro (by repeat (first | exact trivial | refine And.intro ⟨rfl, rfl⟩ ?_)) ?_
        refine And.intro ?_ trivial
        refine ⟨rfl, (by first | exact Nat.zero_le _ | decide), (c_wire_Flag_0 (ds ++ numB xo) (by rw [List.length_append]; omega) _).mono ?_⟩
        rintro d l ⟨rfl, rfl⟩
        refine ⟨rfl, fun _ _ => rfl, rfl, ?_⟩
        refine And.intro (by repeat (first | exact trivial | refine And.intro ⟨rfl, rfl⟩ ?_)) ?_
        refine And.intro ?_ trivial
        refine And.intro (by repeat (first | exact trivial | refine And.intro ⟨rfl, rfl⟩ ?_)) ?_
        refine ⟨r.st.length - (j + 1), by omega, j + 1, rfl, by omega, ?_⟩
        unfold sEj
        rw [hsk, ← hwj]
        rfl
    · have g1 : ¬ ((j : Nat) : Int) < (r.st.length : Int) := of_decide_eq_false g1
      rw [List.take_of_length_le (by omega), ← htk]
      refine ⟨p.length - (i + 1), by omega, i + 1, rfl, by omega, ?_⟩
      unfold sEi
      rw [← hw]
      rfl
  · have h1 : ¬ ((i : Nat) : Int) < (p.length : Int) := of_decide_eq_false h1
    rw [List.take_of_length_le (by omega)]
    exact And.intro rfl rfl
theorem encD_ok (p : Pln) : partsOK (encD p) = true ∧ nrB 0 (encD p) = true := by
  unfold encD
  split
  · exact ⟨rfl, nrBLL_B _⟩
  · exact ⟨rfl, rfl⟩
theorem c_plan_Encode (p : Pln) {r : Nat} {sto : List Ob} (hr : r ≤ sto.length) : Tri Try.prog 21 r [encP p] sto (fun d k => d = encD p ∧ k = sto) :=
  (c_plan_Encode_0 p).pure rfl (nrBL_P rfl) (encD_ok p).1 (encD_ok p).2 hr
noncomputable def sDi (p : Pln) (bs : List Int) (i : Nat) : DS := ⟨[(0, encP p), (3, .list .imm (bs.map rowB)), (4, .int .i64 (i : Int)), (2, .list (.own 0) [])], [], [], mR 0⟩
noncomputable def sDj (p : Pln) (bs : List Int) (i j : Nat) : DS := ⟨[(0, encP p), (3, .list .imm (bs.map rowB)), (4, .int .i64 (i : Int)), (5, .int .i64 (j : Int)), (2, .list (.own 0) [])], [], [], mR 0⟩
set_option maxHeartbeats 8000000 in
theorem c_drayref9_Encode_0 (p : Pln) : Tri Try.prog 31 0 [encP p] [] (fun d k => d = encD p ∧ k = []) := by
  refine Tri.walk2 (L := LT) (c := {n := 70, ko := [2]}) [] [0, 2, 3, 4, 5, 8, 15, 45] hLT hmix Try.func31 rfl rfl ⟨rfl, rfl⟩ (by show 1 ≤ 70; decide) (by first | exact Nat.zero_le _ | exact Nat.le_refl _ | decide) ?_
  unfold encD
  refine ⟨rfl, Nat.zero_le _, (c_drayref9_Right_0 p).mono ?_⟩
  rintro d l ⟨hd, rfl⟩
  by_cases hr : rightP p = true
  rotate_left
  · rw [Bool.not_eq_true] at hr
    rw [hr] at hd ⊢
    subst hd
    refine ⟨rfl, fun _ _ => rfl, rfl, ?_⟩
    exact And.intro rfl rfl
  obtain ⟨hp8, hrow⟩ := rightP_ok hr
  rw [hr] at hd ⊢
  subst hd
  refine ⟨rfl, fun _ _ => rfl, rfl, ?_⟩
  repeat (first | refine And.intro (fun _ => ?_) (fun h => Bool.noConfusion h) | refine And.intro (fun h => Bool.noConfusion h) (fun _ => ?_))
  have hlen : ((p.map rowR).length : Int) = (p.length : Int) := by rw [List.length_map]
  refine ⟨rfl, (by first | exact Nat.zero_le _ | decide), (c_drayref3_Num_0 [] (by simp) ((p.map rowR).length : Int)).mono ?_⟩
  rintro d l ⟨rfl, rfl⟩
  refine ⟨rfl, fun _ _ => rfl, rfl, ?_⟩
  show Ok _ _ _ _ _
  refine Ok.loopN hLT hmix [] [0, 2, 3, 4, 5, 8, 15, 45] [0,3,4,2] [] (fun n s => ∃ (i : Nat), n = p.length - i ∧ i ≤ p.length ∧ s = sDi p (numB (p.length : Int) ++ rtsB (p.take i)) i) (n := p.length) ⟨0, rfl, Nat.zero_le _, by unfold sDi; rw [show rtsB (p.take 0) = [] from rfl, List.append_nil, ← hlen]; rfl⟩ ?_
  rintro n s ⟨i, rfl, hi, rfl⟩
  refine And.intro (fun h1 => ?_) (fun h1 => ?_)
  · have h1 : ((i : Nat) : Int) < ((p.map rowR).length : Int) := of_decide_eq_true h1
    rw [List.length_map] at h1
    have hi1 : i < p.length := by omega
    have hw := wrap_succ (i := i) (n := p.length) (by omega) (by omega)
    have hr := hrow p[i] (List.getElem_mem _)
    have htk := rtsB_take p (i := i) (by omega)
    have hb0 : (numB (p.length : Int) ++ rtsB (p.take i)).length ≤ 10000 := by
      have h2 := numB_len (p.length : Int)
      have h3 := rtsB_len (p.take i) (fun x hx => hrow x (List.mem_of_mem_take hx))
      rw [List.length_take] at h3
      rw [List.length_append]
      omega
    have htk : numB (p.length : Int) ++ rtsB (p.take (i + 1)) = numB (p.length : Int) ++ rtsB (p.take i) ++ rteB p[i] := by
      rw [htk, List.append_assoc]
    generalize numB (p.length : Int) ++ rtsB (p.take i) = bs at hb0 htk ⊢
    have hd1 := numB_len p[i].drv
    have hd2 := numB_len ((p[i].st.map rowS).length : Int)
    have hd3 := numB_len p[i].srv
    have hl80 := hr.len
    refine ⟨⟨1048575, [0, 0, 0, 6, 8, 16, 33, 0, 0, 384, 512, 1024, 2048, 4160, 0, 0, 49152, 65536, 131072, 270336, 1048575], [1, 2, 4, 14, 30, 62, 127, 128, 256, 896, 1920, 3968, 8064, 16383, 16384, 32768, 114688, 245760, 507904, 1048575, 2097151]⟩, by kernel_rfl, ?_⟩
    refine ⟨(p).map rowR, rowR ((p)[i]'(by omega)), rfl, by omega, row_at' rowR (p) (by omega) (by omega), rfl, of_decide_eq_true rfl, ?_⟩
    refine And.intro rfl ?_
    refine ⟨(p).map rowR, rowR ((p)[i]'(by omega)), rfl, by omega, row_at' rowR (p) (by omega) (by omega), rfl, of_decide_eq_true rfl, ?_⟩
    refine And.intro rfl ?_
    refine ⟨(p).map rowR, rowR ((p)[i]'(by omega)), rfl, by omega, row_at' rowR (p) (by omega) (by omega), rfl, of_decide_eq_true rfl, ?_⟩
    refine And.intro rfl ?_
    refine And.intro ?_ trivial
    refine ⟨rfl, (by first | exact Nat.zero_le _ | decide), (c_drayref3_Num_0 bs (by omega) p[i].drv).mono ?_⟩
    rintro d l ⟨rfl, rfl⟩
    refine ⟨rfl, fun _ _ => rfl, rfl, ?_⟩
    refine And.intro (by repeat (first | exact trivial | refine And.intro ⟨rfl, rfl⟩ ?_ | refine And.intro ⟨_, _, rfl, by omega, row_at' _ _ rfl (by omega), rfl, of_decide_eq_true rfl, And.intro rfl (And.intro rfl rfl)⟩ ?_)) ?_
    refine And.intro ?_ trivial
    refine ⟨rfl, (by first | exact Nat.zero_le _ | decide), (c_drayref3_Num_0 (bs ++ numB p[i].drv) (by rw [List.length_append]; omega) ((p[i].st.map rowS).length : Int)).mono ?_⟩
    rintro d l ⟨rfl, rfl⟩
    refine ⟨rfl, fun _ _ => rfl, rfl, ?_⟩
    refine And.intro (by repeat (first | exact trivial | refine And.intro ⟨rfl, rfl⟩ ?_ | refine And.intro ⟨_, _, rfl, by omega, row_at' _ _ rfl (by omega), rfl, of_decide_eq_true rfl, And.intro rfl (And.intro rfl rfl)⟩ ?_)) ?_
    refine And.intro ?_ trivial
    refine ⟨rfl, (by first | exact Nat.zero_le _ | decide), (c_drayref3_Num_0 (bs ++ numB p[i].drv ++ numB ((p[i].st.map rowS).length : Int)) (by rw [List.length_append, List.length_append]; omega) p[i].srv).mono ?_⟩
    rintro d l ⟨rfl, rfl⟩
    refine ⟨rfl, fun _ _ => rfl, rfl, ?_⟩
    refine And.intro (by repeat (first | exact trivial | refine And.intro ⟨rfl, rfl⟩ ?_ | refine And.intro ⟨_, _, rfl, by omega, row_at' _ _ rfl (by omega), rfl, of_decide_eq_true rfl, And.intro rfl (And.intro rfl rfl)⟩ ?_)) ?_
    refine And.intro ?_ trivial
    refine And.intro (by repeat (first | exact trivial | refine And.intro ⟨rfl, rfl⟩ ?_ | refine And.intro ⟨_, _, rfl, by omega, row_at' _ _ rfl (by omega), rfl, of_decide_eq_true rfl, And.intro rfl (And.intro rfl rfl)⟩ ?_)) ?_
    have hhd : bs ++ numB p[i].drv ++ numB ((p[i].st.map rowS).length : Int) ++ numB p[i].srv = bs ++ hdB p[i] := by
      rw [List.length_map]
      simp only [hdB, List.append_assoc]
    have hhl : (bs ++ hdB p[i]).length ≤ 10030 := by
      have := hdB_len p[i]
      rw [List.length_append]
      omega
    rw [hhd]
    have htk : numB (p.length : Int) ++ rtsB (p.take (i + 1)) = bs ++ hdB p[i] ++ stsB p[i].st := by
      rw [htk]
      simp only [rteB, List.append_assoc]
    generalize bs ++ hdB p[i] = cs at hhl htk ⊢
    show Ok _ _ _ _ _
    refine Ok.loopN hLT hmix [] [0, 2, 3, 4, 5, 8, 15, 45] [0,3,4,5,2] [] (fun n s => ∃ (j : Nat), n = p[i].st.length - j ∧ j ≤ p[i].st.length ∧ s = sDj p (cs ++ stsB (p[i].st.take j)) i j) (n := p[i].st.length) ⟨0, rfl, Nat.zero_le _, by rw [show stsB (p[i].st.take 0) = [] from rfl, List.append_nil]; rfl⟩ ?_
    rintro n s ⟨j, rfl, hj, rfl⟩
    refine ⟨(p).map rowR, rowR ((p)[i]'(by omega)), rfl, by omega, row_at' rowR (p) (by omega) (by omega), rfl, of_decide_eq_true rfl, ?_⟩
    refine And.intro (fun g1 => ?_) (fun g1 => ?_)
    · have g1 : ((j : Nat) : Int) < ((p[i].st.map rowS).length : Int) := of_decide_eq_true g1
      rw [List.length_map] at g1
      have hwj := wrap_succ (i := j) (n := p[i].st.length) (by omega) (by omega)
      have hcl : (cs ++ stsB (p[i].st.take j)).length ≤ 11000 := by
        have h3 := stsB_len (p[i].st.take j)
        rw [List.length_take] at h3
        rw [List.length_append]
        omega
      have hsk : cs ++ stsB (p[i].st.take (j + 1)) = cs ++ stsB (p[i].st.take j) ++ stpB p[i].st[j] := by
        rw [stsB_take p[i].st (by omega), List.append_assoc]
      generalize cs ++ stsB (p[i].st.take j) = ds at hcl hsk ⊢
      have hdx := numB_len p[i].st[j].ord
      refine ⟨⟨2097151, [0, 0, 0, 6, 8, 16, 0, 96, 128, 256, 513, 0, 0, 6144, 8192, 16384, 0, 98304, 131072, 262144, 525312, 2097151], [1, 2, 4, 14, 30, 62, 64, 254, 510, 1022, 2047, 2048, 4096, 14336, 30720, 63488, 65536, 260096, 522240, 1046528, 2097151, 4194303]⟩, by kernel_rfl, ?_⟩
      refine ⟨(p).map rowR, rowR ((p)[i]'(by omega)), rfl, by omega, row_at' rowR (p) (by omega) (by omega), rfl, of_decide_eq_true rfl, ?_⟩
      refine And.intro rfl ?_
      refine ⟨(p[i].st).map rowS, rowS ((p[i].st)[j]'(by omega)), rfl, by omega, row_at' rowS (p[i].st) (by omega) (by omega), rfl, of_decide_eq_true rfl, ?_⟩
      refine And.intro rfl ?_
      refine ⟨(p).map rowR, rowR ((p)[i]'(by omega)), rfl, by omega, row_at' rowR (p) (by omega) (by omega), rfl, of_decide_eq_true rfl, ?_⟩
      refine And.intro rfl ?_
      refine ⟨(p[i].st).map rowS, rowS ((p[i].st)[j]'(by omega)), rfl, by omega, row_at' rowS (p[i].st) (by omega) (by omega), rfl, of_decide_eq_true rfl, ?_⟩
      refine And.intro rfl ?_
      have hsk : ∀ b, p[i].st[j].drop = b → cs ++ stsB (p[i].st.take (j + 1)) = ds ++ numB p[i].st[j].ord ++ flgB b := fun b hb => by
        rw [hsk, List.append_assoc, ← hb]
        rfl
      refine And.intro (fun hxd => ?_) (fun hxd => ?_)
      all_goals
        refine And.intro ?_ trivial
        refine ⟨rfl, (by first | exact Nat.zero_le _ | decide), (c_drayref3_Num_0 ds (by omega) p[i].st[j].ord).mono ?_⟩
        rintro d l ⟨rfl, rfl⟩
        refine ⟨rfl, fun _ _ => rfl, rfl, ?_⟩
        refine And.intro (by repeat (first | exact trivial | refine And.intro ⟨rfl, rfl⟩ ?_ | refine And.intro ⟨_, _, rfl, by omega, row_at' _ _ rfl (by omega), rfl, of_decide_eq_true rfl, And.intro rfl (And.intro rfl rfl)⟩ ?_)) ?_
        refine And.intro ?_ trivial
        refine ⟨rfl, (by first | exact Nat.zero_le _ | decide), (c_drayref3_Flag_0 (ds ++ numB p[i].st[j].ord) (by rw [List.length_append]; omega) _).mono ?_⟩
        rintro d l ⟨rfl, rfl⟩
        refine ⟨rfl, fun _ _ => rfl, rfl, ?_⟩
        refine And.intro (by repeat (first | exact trivial | refine And.intro ⟨rfl, rfl⟩ ?_ | refine And.intro ⟨_, _, rfl, by omega, row_at' _ _ rfl (by omega), rfl, of_decide_eq_true rfl, And.intro rfl (And.intro rfl rfl)⟩ ?_)) ?_
        refine And.intro ?_ trivial
        refine And.intro (by repeat (first | exact trivial | refine And.intro ⟨rfl, rfl⟩ ?_ | refine And.intro ⟨_, _, rfl, by omega, row_at' _ _ rfl (by omega), rfl, of_decide_eq_true rfl, And.intro rfl (And.intro rfl rfl)⟩ ?_)) ?_
        refine ⟨p[i].st.length - (j + 1), by omega, j + 1, rfl, by omega, ?_⟩
        unfold sDj
        rw [hsk _ hxd, ← hwj]
        rfl
    · have g1 : ¬ ((j : Nat) : Int) < ((p[i].st.map rowS).length : Int) := of_decide_eq_false g1
      rw [List.length_map] at g1
      rw [List.take_of_length_le (by omega), ← htk]
      refine ⟨p.length - (i + 1), by omega, i + 1, rfl, by omega, ?_⟩
      unfold sDi
      rw [← hw]
      rfl
  · have h1 : ¬ ((i : Nat) : Int) < ((p.map rowR).length : Int) := of_decide_eq_false h1
    rw [List.length_map] at h1
    rw [List.take_of_length_le (by omega)]
    exact And.intro rfl rfl
theorem c_drayref9_Encode (p : Pln) {r : Nat} {sto : List Ob} (hr : r ≤ sto.length) : Tri Try.prog 31 r [encP p] sto (fun d k => d = encD p ∧ k = sto) :=
  (c_drayref9_Encode_0 p).pure rfl (nrBL_P rfl) (encD_ok p).1 (encD_ok p).2 hr
end Go.Lv

namespace Go.Lv
open Go.Proofs

theorem idxA_ge {s : Stp} : ∀ {l : List Stp} {i : Nat}, s ∈ l → idxA s i l ≥ 0
  | [], _, h => by cases h
  | x :: l, i, h => by
    unfold idxA
    split
    · omega
    · rename_i hne
      exact idxA_ge ((List.mem_cons.1 h).resolve_left (fun e => hne e.symm))
theorem idxA_no {s : Stp} : ∀ {l : List Stp} {i : Nat}, s ∉ l → idxA s i l = -1
  | [], _, _ => rfl
  | x :: l, i, h => by
    unfold idxA
    rw [if_neg (fun e => h (by simp [e]))]
    exact idxA_no (fun q => h (by simp [q]))
theorem idxA_at' {s : Stp} : ∀ {a b : List Stp} {i : Nat}, s ∉ a → idxA s i (a ++ s :: b) = ((i + a.length : Nat) : Int)
  | [], b, i, _ => by simp [idxA]
  | x :: a, b, i, h => by
    show (if x = s then (i : Int) else idxA s (i + 1) (a ++ s :: b)) = _
    rw [if_neg (fun e => h (by simp [e])), idxA_at' (fun q => h (by simp [q]))]
    simp only [List.length_cons]
    omega
noncomputable def noO (o : Int) (l : List Stp) : Prop := ∀ s, s ∈ l → s.ord ≠ o
theorem noO_of {o : Int} {l : List Stp} (h1 : ¬ idxS l ⟨o, false⟩ ≥ 0) (h2 : ¬ idxS l ⟨o, true⟩ ≥ 0) : noO o l := by
  rintro ⟨x, d⟩ hs rfl
  cases d
  · exact h1 (idxA_ge hs)
  · exact h2 (idxA_ge hs)
theorem noO_idx {o : Int} {l : List Stp} (h : noO o l) (b : Bool) : idxS l ⟨o, b⟩ = -1 := idxA_no (fun q => h _ q rfl)
theorem findP_none {o : Int} : ∀ {p : Pln}, findP o p = none → ∀ r, r ∈ p → noO o r.st
  | [], _, r, hr => by cases hr
  | x :: p, h, r, hr => by
    unfold findP at h
    split at h
    · cases h
    · rename_i hn
      rcases List.mem_cons.1 hr with e | hr
      · subst e
        exact noO_of (fun q => hn (.inl q)) (fun q => hn (.inr q))
      · exact findP_none h r hr
theorem findP_skip {o : Int} : ∀ {a : Pln} {p : Pln}, (∀ r, r ∈ a → noO o r.st) → findP o (a ++ p) = findP o p
  | [], p, _ => rfl
  | x :: a, p, h => by
    have hx := h x (by simp)
    show (if idxS x.st ⟨o, false⟩ ≥ 0 ∨ idxS x.st ⟨o, true⟩ ≥ 0 then _ else findP o (a ++ p)) = _
    rw [noO_idx hx false, noO_idx hx true, if_neg (by omega)]
    exact findP_skip (fun r hr => h r (by simp [hr]))
/-- What With answers, taken apart. -/
structure Put1 (p q : Pln) (o : Int) (s : Spt) (a : Pln) (r : Rte) (b : Pln) : Prop where
  p : p = a ++ r :: b
  q : q = a ++ inR r o s :: b
  drv : r.drv = s.drv
  ok : okIn r s
theorem goW_some {p0 q : Pln} {o : Int} {s : Spt} : ∀ (p a : Pln), p0 = a ++ p → goW p0 o s a.length p = some q → ∃ a r b, Put1 p0 q o s a r b
  | [], a, _, h => by cases h
  | r :: p, a, hp, h => by
    unfold goW at h
    split at h
    · rename_i hd
      split at h
      · rename_i hok
        cases h
        refine ⟨a, r, p, hp, ?_, hd, hok⟩
        rw [hp, List.set_append_right _ _ (Nat.le_refl _), Nat.sub_self]
        rfl
      · cases h
    · exact goW_some p (a ++ [r]) (by rw [hp]; simp) (by simpa using h)
theorem withP_some {p q : Pln} {o : Int} {s : Spt} (h : withP p o s = some q) : (rightP p = true ∧ 1 ≤ o ∧ o ≤ 1000000 ∧ findP o p = none) ∧ ∃ a r b, Put1 p q o s a r b := by
  unfold withP at h
  split at h
  · rename_i hc
    exact ⟨hc, goW_some p [] rfl h⟩
  · cases h
/-! ### Right -/
noncomputable def stops (p : Pln) : List Stp := (p.map Rte.st).flatten
noncomputable def hdG (last : Int) : Pln → Prop
  | [] => True
  | r :: p => hdOK last r ∧ hdG r.drv p
theorem stOK_iff : ∀ {l seen : List Stp}, stOK seen l = true ↔ (∀ s, s ∈ l → 1 ≤ s.ord ∧ s.ord ≤ 1000000 ∧ s ∉ seen) ∧ l.Nodup
  | [], seen => by simp [stOK]
  | x :: l, seen => by
    unfold stOK
    rw [Bool.and_eq_true, decide_eq_true_eq, stOK_iff, List.nodup_cons]
    constructor
    · rintro ⟨⟨h1, h2, h3⟩, h4, h5⟩
      refine ⟨fun s hs => ?_, fun hx => (h4 x hx).2.2 (by simp), h5⟩
      rcases List.mem_cons.1 hs with e | hs
      · subst e; exact ⟨h1, h2, h3⟩
      · obtain ⟨q1, q2, q3⟩ := h4 s hs
        exact ⟨q1, q2, fun q => q3 (by simp [q])⟩
    · rintro ⟨h1, h2, h3⟩
      refine ⟨h1 x (by simp), fun s hs => ?_, h3⟩
      obtain ⟨q1, q2, q3⟩ := h1 s (by simp [hs])
      refine ⟨q1, q2, fun q => ?_⟩
      rcases List.mem_append.1 q with q | q
      · exact q3 q
      · rw [List.mem_singleton.1 q] at hs
        exact h2 hs
theorem rightG_iff : ∀ {p : Pln} {last : Int} {seen : List Stp}, rightG last seen p = true ↔ hdG last p ∧ (∀ s, s ∈ stops p → 1 ≤ s.ord ∧ s.ord ≤ 1000000 ∧ s ∉ seen) ∧ (stops p).Nodup
  | [], last, seen => by simp [rightG, hdG, stops]
  | r :: p, last, seen => by
    have ih := rightG_iff (p := p) (last := r.drv) (seen := seen ++ r.st)
    unfold rightG hdG
    rw [Bool.and_eq_true, Bool.and_eq_true, decide_eq_true_eq, stOK_iff, ih]
    have hs : stops (r :: p) = r.st ++ stops p := by simp [stops]
    rw [hs, List.nodup_append]
    constructor
    · rintro ⟨h1, ⟨h2, h3⟩, h4, h5, h6⟩
      refine ⟨⟨h1, h4⟩, fun s hm => ?_, h3, h6, fun a ha b hb e => ?_⟩
      · rcases List.mem_append.1 hm with hm | hm
        · exact h2 s hm
        · obtain ⟨q1, q2, q3⟩ := h5 s hm
          exact ⟨q1, q2, fun q => q3 (by simp [q])⟩
      · subst e
        exact (h5 a hb).2.2 (by simp [ha])
    · rintro ⟨⟨h1, h4⟩, h5, h3, h6, h7⟩
      refine ⟨h1, ⟨fun s hm => h5 s (by simp [hm]), h3⟩, h4, fun s hm => ?_, h6⟩
      obtain ⟨q1, q2, q3⟩ := h5 s (by simp [hm])
      refine ⟨q1, q2, fun q => ?_⟩
      rcases List.mem_append.1 q with q | q
      · exact q3 q
      · exact h7 s q s hm rfl
theorem rightP_iff {p : Pln} : rightP p = true ↔ p.length ≤ 8 ∧ hdG 0 p ∧ (∀ s, s ∈ stops p → 1 ≤ s.ord ∧ s.ord ≤ 1000000) ∧ (stops p).Nodup := by
  unfold rightP
  rw [Bool.and_eq_true, decide_eq_true_eq, rightG_iff]
  simp
theorem insS_perm (l : List Stp) (o : Int) {i j : Nat} (hij : i ≤ j) : (insS l o i j).Perm (⟨o, false⟩ :: ⟨o, true⟩ :: l) := by
  have hl : l = l.take i ++ ((l.drop i).take (j - i) ++ l.drop j) := by
    have : (l.drop i).take (j - i) ++ l.drop j = l.drop i := by
      conv => rhs; rw [← List.take_append_drop (j - i) (l.drop i)]
      rw [List.drop_drop, show i + (j - i) = j by omega]
    rw [this, List.take_append_drop]
  unfold insS
  refine List.Perm.trans List.perm_middle (List.Perm.cons _ ?_)
  rw [← List.append_assoc]
  refine List.Perm.trans List.perm_middle (List.Perm.cons _ ?_)
  rw [List.append_assoc, ← hl]
theorem hdG_put : ∀ {a : Pln} {r r' : Rte} {b : Pln} {last : Int}, hdG last (a ++ r :: b) → r'.drv = r.drv → (∀ last, hdOK last r → hdOK last r') → hdG last (a ++ r' :: b)
  | [], r, r', b, last, h, hd, hh => by
    obtain ⟨h1, h2⟩ := h
    exact ⟨hh _ h1, by rw [hd]; exact h2⟩
  | x :: a, r, r', b, last, h, hd, hh => ⟨h.1, hdG_put h.2 hd hh⟩
theorem insS_len (l : List Stp) (o : Int) {i j : Nat} (hij : i ≤ j) : (insS l o i j).length = l.length + 2 := by
  rw [(insS_perm l o hij).length_eq]
  rfl
section
variable {p q a b : Pln} {r : Rte} {o : Int} {s : Spt}
theorem Put1.stops (h : Put1 p q o s a r b) : (Lv.stops q).Perm (⟨o, false⟩ :: ⟨o, true⟩ :: Lv.stops p) := by
  have hok := h.ok
  rw [h.q, h.p]
  unfold Lv.stops
  simp only [List.map_append, List.map_cons, List.flatten_append, List.flatten_cons]
  have h1 := insS_perm r.st o (i := s.pick.toNat) (j := s.drop.toNat) (by have := hok.2.2.1; omega)
  have h2 : (inR r o s).st = insS r.st o s.pick.toNat s.drop.toNat := rfl
  rw [h2]
  refine List.Perm.trans (List.Perm.append_left _ (List.Perm.append_right _ h1)) ?_
  simp only [List.cons_append]
  refine List.Perm.trans List.perm_middle (List.Perm.cons _ ?_)
  exact List.perm_middle
theorem Put1.right (h : Put1 p q o s a r b) (hr : rightP p = true) (h1 : 1 ≤ o) (h2 : o ≤ 1000000) (hn : findP o p = none) : rightP q = true := by
  rw [rightP_iff] at hr ⊢
  obtain ⟨r1, r2, r3, r4⟩ := hr
  have hst := h.stops
  have hno : ∀ x, x ∈ Lv.stops p → x.ord ≠ o := fun x hx => by
    obtain ⟨l, hl, hx⟩ := List.mem_flatten.1 hx
    obtain ⟨r', hr', rfl⟩ := List.mem_map.1 hl
    exact findP_none hn r' hr' x hx
  have hok := h.ok
  refine ⟨by rw [h.q]; rw [h.p] at r1; simpa using r1, ?_, fun x hx => ?_, ?_⟩
  · rw [h.p] at r2
    rw [h.q]
    refine hdG_put r2 rfl (fun last hh => ?_)
    have hl := insS_len r.st o (i := s.pick.toNat) (j := s.drop.toNat) (by have := hok.2.2.1; omega)
    refine ⟨hh.1, hh.2.1, ?_, hh.2.2.2.1, ?_⟩
    · show (insS r.st o s.pick.toNat s.drop.toNat).length ≤ 80
      have := hok.1
      omega
    · show r.srv ≤ ((insS r.st o s.pick.toNat s.drop.toNat).length : Int)
      have := hh.2.2.2.2
      omega
  · rcases List.mem_cons.1 (hst.mem_iff.1 hx) with e | hx
    · subst e; exact ⟨h1, h2⟩
    · rcases List.mem_cons.1 hx with e | hx
      · subst e; exact ⟨h1, h2⟩
      · exact r3 x hx
  · rw [hst.nodup_iff, List.nodup_cons, List.nodup_cons]
    refine ⟨fun q => ?_, fun q => hno _ q rfl, r4⟩
    rcases List.mem_cons.1 q with e | q
    · cases e
    · exact hno _ q rfl
/-! ### Found there -/
theorem insS_idx {l : List Stp} {o : Int} {i j : Nat} (hl : noO o l) (hij : i ≤ j) (hj : j ≤ l.length) : idxS (insS l o i j) ⟨o, false⟩ = (i : Int) ∧ idxS (insS l o i j) ⟨o, true⟩ = (j : Int) + 1 := by
  have hti : ∀ b, (⟨o, b⟩ : Stp) ∉ l.take i := fun b q => hl _ (List.mem_of_mem_take q) rfl
  unfold idxS insS
  refine ⟨?_, ?_⟩
  · rw [idxA_at' (hti false), List.length_take]
    omega
  · have e : l.take i ++ (⟨o, false⟩ :: ((l.drop i).take (j - i) ++ (⟨o, true⟩ :: l.drop j))) = (l.take i ++ (⟨o, false⟩ :: (l.drop i).take (j - i))) ++ (⟨o, true⟩ :: l.drop j) := by simp
    rw [e, idxA_at' (fun q => by
      rcases List.mem_append.1 q with q | q
      · exact hti true q
      · rcases List.mem_cons.1 q with q | q
        · cases q
        · exact hl _ (List.mem_of_mem_drop (List.mem_of_mem_take q)) rfl)]
    simp only [List.length_append, List.length_cons, List.length_take, List.length_drop]
    omega
theorem Put1.find (h : Put1 p q o s a r b) (hr : rightP p = true) (hn : findP o p = none) : findP o q = some ⟨s.drv, s.pick, s.drop + 1, 0⟩ := by
  have hall := findP_none hn
  have hok := h.ok
  have hsrv : 0 ≤ r.srv := by
    have := (rightP_ok hr).2 r (by rw [h.p]; simp)
    exact this.srv.1
  rw [h.q, findP_skip (fun x hx => hall x (by rw [h.p]; simp [hx]))]
  have h1 := hok.2.1
  have h2 := hok.2.2.1
  have h3 := hok.2.2.2
  obtain ⟨e1, e2⟩ := insS_idx (hall r (by rw [h.p]; simp)) (show s.pick.toNat ≤ s.drop.toNat by omega) (by omega)
  show (if idxS (insS r.st o s.pick.toNat s.drop.toNat) ⟨o, false⟩ ≥ 0 ∨ idxS (insS r.st o s.pick.toNat s.drop.toNat) ⟨o, true⟩ ≥ 0 then some (⟨r.drv, idxS (insS r.st o s.pick.toNat s.drop.toNat) ⟨o, false⟩, idxS (insS r.st o s.pick.toNat s.drop.toNat) ⟨o, true⟩, 0⟩ : Spt) else _) = _
  rw [if_pos (.inl (by omega)), e1, e2, h.drv, show ((s.pick.toNat : Nat) : Int) = s.pick by omega, show ((s.drop.toNat : Nat) : Int) = s.drop by omega]
/-! ### Taken out again -/
theorem begR_no {srv : Int} : ∀ {l : List Stp} {j : Nat}, noO o l → begR srv o j l = false
  | [], _, _ => rfl
  | x :: l, j, h => by
    unfold begR
    rw [begR_no (fun y hy => h y (by simp [hy])), decide_eq_false (h x (by simp))]
    simp
theorem begR_late {srv : Int} : ∀ {l : List Stp} {j : Nat}, srv ≤ (j : Int) → begR srv o j l = false
  | [], _, _ => rfl
  | x :: l, j, h => by
    unfold begR
    rw [begR_late (by omega), decide_eq_false (by omega)]
    simp
theorem begR_app {srv : Int} : ∀ {a b : List Stp} {j : Nat}, begR srv o j (a ++ b) = (begR srv o j a || begR srv o (j + a.length) b)
  | [], b, j => by simp [begR]
  | x :: a, b, j => by
    show ((decide ((j : Int) < srv) && decide (x.ord = o)) || begR srv o (j + 1) (a ++ b)) = (((decide ((j : Int) < srv) && decide (x.ord = o)) || begR srv o (j + 1) a) || _)
    rw [begR_app, Bool.or_assoc]
    congr 3
    simp only [List.length_cons]
    omega
theorem begP_no : ∀ {p : Pln}, (∀ r, r ∈ p → noO o r.st) → begP o p = false
  | [], _ => rfl
  | x :: p, h => by
    unfold begP
    rw [begR_no (h x (by simp)), begP_no (fun r hr => h r (by simp [hr]))]
    rfl
theorem begP_app : ∀ {a b : Pln}, begP o (a ++ b) = (begP o a || begP o b)
  | [], b => by simp [begP]
  | x :: a, b => by
    show (begR x.srv o 0 x.st || begP o (a ++ b)) = _
    rw [begP_app]
    simp [begP, Bool.or_assoc]
theorem Put1.beg (h : Put1 p q o s a r b) (hr : rightP p = true) (hn : findP o p = none) : begP o q = false := by
  have hall := findP_none hn
  have hok := h.ok
  have hro := (rightP_ok hr).2 r (by rw [h.p]; simp)
  have h0 := hro.srv.1
  have h4 := hro.srl
  have h1 := hok.2.1
  rw [h.q, begP_app, begP_no (fun x hx => hall x (by rw [h.p]; simp [hx]))]
  show (false || (begR r.srv o 0 (insS r.st o s.pick.toNat s.drop.toNat) || begP o b)) = false
  rw [begP_no (fun x hx => hall x (by rw [h.p]; simp [hx]))]
  unfold insS
  rw [begR_app, begR_no (fun y hy => hall r (by rw [h.p]; simp) y (List.mem_of_mem_take hy)), begR_late (by rw [List.length_take]; omega)]
  rfl
theorem filter_no {l : List Stp} (h : noO o l) {f : Int → Bool} (hf : ∀ x, f x = decide (x = o)) : l.filter (fun s => !f s.ord) = l := by
  rw [List.filter_eq_self]
  intro x hx
  rw [hf, decide_eq_false (h x hx)]
  rfl
theorem Put1.back (h : Put1 p q o s a r b) (hr : rightP p = true) (hn : findP o p = none) : woP q [o] = p := by
  have hall := findP_none hn
  have hb := h.beg hr hn
  have hf : ∀ x, goneB q [o] x = decide (x = o) := fun x => by
    unfold goneB
    by_cases e : x = o
    · subst e
      rw [hb]
      simp
    · simp [e]
  have keep : ∀ x, noO o x.st → woR q [o] x = x := fun x hx => by
    unfold woR
    rw [filter_no hx hf]
  have hok := h.ok
  have hme : woR q [o] (inR r o s) = r := by
    have hrn := hall r (by rw [h.p]; simp)
    unfold woR inR
    simp only
    have : (insS r.st o s.pick.toNat s.drop.toNat).filter (fun s => !goneB q [o] s.ord) = r.st := by
      unfold insS
      rw [List.filter_append, List.filter_cons, List.filter_append, List.filter_cons]
      simp only [hf, decide_true, Bool.not_true, Bool.false_eq_true, if_false]
      have f1 := filter_no (o := o) (f := fun x => decide (x = o)) (l := r.st.take s.pick.toNat) (fun y hy => hrn y (List.mem_of_mem_take hy)) (fun x => rfl)
      have f2 := filter_no (o := o) (f := fun x => decide (x = o)) (l := (r.st.drop s.pick.toNat).take (s.drop.toNat - s.pick.toNat)) (fun y hy => hrn y (List.mem_of_mem_drop (List.mem_of_mem_take hy))) (fun x => rfl)
      have f3 := filter_no (o := o) (f := fun x => decide (x = o)) (l := r.st.drop s.drop.toNat) (fun y hy => hrn y (List.mem_of_mem_drop hy)) (fun x => rfl)
      rw [f1, f2, f3]
      have : (r.st.drop s.pick.toNat).take (s.drop.toNat - s.pick.toNat) ++ r.st.drop s.drop.toNat = r.st.drop s.pick.toNat := by
        conv => rhs; rw [← List.take_append_drop (s.drop.toNat - s.pick.toNat) (r.st.drop s.pick.toNat)]
        rw [List.drop_drop, show s.pick.toNat + (s.drop.toNat - s.pick.toNat) = s.drop.toNat by have := hok.2.2.1; omega]
      rw [this, List.take_append_drop]
    rw [this]
  unfold woP
  rw [show List.map (woR q [o]) q = List.map (woR q [o]) (a ++ inR r o s :: b) by rw [← h.q], List.map_append, List.map_cons, hme, h.p]
  congr 1
  · rw [List.map_congr_left (g := id) (fun x hx => keep x (hall x (by rw [h.p]; simp [hx]))), List.map_id]
  · congr 1
    rw [List.map_congr_left (g := id) (fun x hx => keep x (hall x (by rw [h.p]; simp [hx]))), List.map_id]
/-! ### Its orders -/
theorem allO_stops (p : Pln) : allO p = (stops p).map Stp.ord := by
  unfold allO Lv.stops
  rw [List.map_flatten, List.map_map]
  rfl
theorem Put1.ords (h : Put1 p q o s a r b) (hn : findP o p = none) : (ordP q).length = (ordP p).length + 1 := by
  have hst := h.stops
  have hno : o ∉ ordP p := fun hm => by
    rw [ordP_mem, allO_stops] at hm
    obtain ⟨x, hx, e⟩ := List.mem_map.1 hm
    obtain ⟨l, hl, hx⟩ := List.mem_flatten.1 hx
    obtain ⟨r', hr', rfl⟩ := List.mem_map.1 hl
    exact findP_none hn r' hr' x hx e
  have nd : ∀ l : List Int, l.Pairwise (· < ·) → l.Nodup := fun l hl => hl.imp (fun h e => by omega)
  have hp : (ordP q).Perm (o :: ordP p) := by
    refine (List.perm_ext_iff_of_nodup (nd _ (ordP_strict q)) (List.nodup_cons.2 ⟨hno, nd _ (ordP_strict p)⟩)).2 (fun x => ?_)
    rw [ordP_mem, allO_stops, (hst.map Stp.ord).mem_iff, List.mem_cons, ordP_mem, allO_stops]
    simp
  rw [hp.length_eq]
  rfl
end
end Go.Lv

namespace Go.Lv
open Go.Proofs

theorem okStop {n : Nat} {x : List D} (h : OkD LT (n + 2) 23 x) : ∃ s : Stp, x = rowS s := by
  obtain ⟨x1, y1, rfl, _, h1, x2, y2, rfl, _, h2, rfl⟩ := h
  obtain ⟨i1, rfl, _⟩ := h1
  obtain ⟨b, rfl⟩ := h2
  exact ⟨⟨i1, b⟩, rfl⟩
theorem okStops {n m : Nat} {x : List D} (h : OkD LT (n + 3) 24 x) (z : SzD LT (m + 1) 24 x) : ∃ l : List Stp, x = [.list .imm (l.map rowS)] ∧ l.length * 16 ≤ 140737488351232 := by
  obtain ⟨xs, rfl, _, h⟩ := h
  obtain ⟨xs', e, z, _⟩ := z
  cases e
  have key : ∀ xs : List (List D), (∀ r, r ∈ xs → r.length = LT.size 23 ∧ OkD LT (n + 2) 23 r) → ∃ l : List Stp, xs = l.map rowS := by
    intro xs
    induction xs with
    | nil => intro _; exact ⟨[], rfl⟩
    | cons x r ih =>
      intro h
      obtain ⟨s, rfl⟩ := okStop (h x (by simp)).2
      obtain ⟨l, rfl⟩ := ih fun y hy => h y (by simp [hy])
      exact ⟨s :: l, rfl⟩
  obtain ⟨l, rfl⟩ := key xs h
  have z : (l.map rowS).length * 16 ≤ 140737488351232 := z
  rw [List.length_map] at z
  exact ⟨l, rfl, z⟩
theorem okRoute {n m : Nat} {x : List D} (h : OkD LT (n + 4) 26 x) (z : SzD LT (m + 2) 26 x) : ∃ r : Rte, x = rowR r ∧ r.st.length * 16 ≤ 140737488351232 := by
  obtain ⟨x1, y1, rfl, l1, h1, x2, y2, rfl, l2, h2, x3, y3, rfl, l3, h3, rfl⟩ := h
  obtain ⟨i1, rfl, _⟩ := h1
  obtain ⟨i2, rfl, _⟩ := h2
  obtain ⟨a1, b1, e1, k1, _, a2, b2, e2, k2, _, a3, b3, e3, k3, z3, e4⟩ := z
  have l3' : x3.length = 1 := l3
  obtain ⟨c, rfl⟩ : ∃ c, x3 = [c] := List.length_eq_one_iff.1 l3'
  have k1' : a1.length = 1 := k1
  have k2' : a2.length = 1 := k2
  have k3' : a3.length = 1 := k3
  obtain ⟨d1, rfl⟩ : ∃ c, a1 = [c] := List.length_eq_one_iff.1 k1'
  obtain ⟨d2, rfl⟩ : ∃ c, a2 = [c] := List.length_eq_one_iff.1 k2'
  obtain ⟨d3, rfl⟩ : ∃ c, a3 = [c] := List.length_eq_one_iff.1 k3'
  subst e4; subst e3; subst e2
  simp only [List.cons_append, List.nil_append, List.cons.injEq] at e1
  obtain ⟨_, _, e, _⟩ := e1
  subst e
  obtain ⟨l, e, hl⟩ := okStops h3 z3
  cases e
  exact ⟨⟨i1, i2, l⟩, rfl, hl⟩
theorem okPlan {n m : Nat} {x : List D} (h : OkD LT (n + 5) 28 x) (z : SzD LT (m + 3) 28 x) : ∃ p : Pln, x = [encP p] ∧ szQ p := by
  obtain ⟨xs, rfl, _, h⟩ := h
  obtain ⟨xs', e, z, z2⟩ := z
  cases e
  have key : ∀ xs : List (List D), (∀ r, r ∈ xs → r.length = LT.size 26 ∧ OkD LT (n + 4) 26 r) → (∀ r, r ∈ xs → SzD LT (m + 2) 26 r) → ∃ p : Pln, xs = p.map rowR ∧ ∀ r, r ∈ p → r.st.length * 16 ≤ 140737488351232 := by
    intro xs
    induction xs with
    | nil => intro _ _; exact ⟨[], rfl, fun r hr => by cases hr⟩
    | cons x r ih =>
      intro h z
      obtain ⟨s, rfl, hs⟩ := okRoute (h x (by simp)).2 (z x (by simp))
      obtain ⟨l, rfl, hl⟩ := ih (fun y hy => h y (by simp [hy])) (fun y hy => z y (by simp [hy]))
      exact ⟨s :: l, rfl, fun r hr => by
        rcases List.mem_cons.1 hr with e | hr
        · rw [e]; exact hs
        · exact hl r hr⟩
  obtain ⟨p, rfl, hp⟩ := key xs h z2
  have z : (p.map rowR).length * 40 ≤ 140737488351232 := z
  rw [List.length_map] at z
  exact ⟨p, rfl, z, hp⟩
end Go.Lv

namespace Go.Lv
open Go.Proofs

theorem okSpot {n : Nat} {x : List D} (h : OkD LT (n + 2) 30 x) : ∃ s : Spt, x = [.int .i64 s.drv, .int .i64 s.pick, .int .i64 s.drop, .int .i64 s.cost] ∧ in64' s.drop := by
  obtain ⟨x1, y1, rfl, _, h1, x2, y2, rfl, _, h2, x3, y3, rfl, _, h3, x4, y4, rfl, _, h4, rfl⟩ := h
  obtain ⟨i1, rfl, _⟩ := h1
  obtain ⟨i2, rfl, _⟩ := h2
  obtain ⟨i3, rfl, q1, q2⟩ := h3
  obtain ⟨i4, rfl, _⟩ := h4
  exact ⟨⟨i1, i2, i3, i4⟩, rfl, q1, q2⟩
theorem stops_len : ∀ {p : Pln}, (∀ r, r ∈ p → r.st.length ≤ 82) → (allO p).length ≤ 82 * p.length
  | [], _ => by simp [allO]
  | r :: p, h => by
    have h1 := h r (by simp)
    have h2 := stops_len (p := p) (fun x hx => h x (by simp [hx]))
    unfold allO at h2 ⊢
    simp only [List.map_cons, List.flatten_cons, List.length_append, List.length_map, List.length_cons]
    omega
set_option maxHeartbeats 8000000 in
theorem l10 (p : Pln) (hp : szQ p) (o : Int) (s : Spt) : Tri Try.prog 10 0 [encP p, .int .i64 o, encSpt s] [] (fun d l => d = .bool true) := by
  refine Tri.walk2 (L := LT) (c := {n := 99, ko := [6], xf := [18, 33, 39]}) [] [0, 1, 2, 5, 6, 7, 8, 9, 10, 11, 13, 14, 15, 26] hLT hmix Try.func10 rfl rfl ⟨rfl, rfl⟩ (by show 3 ≤ 99; decide) (by first | exact Nat.zero_le _ | exact Nat.le_refl _ | decide) ?_
  refine ⟨rfl, Nat.zero_le _, (c_draykeep_Copy_0 p hp).mono ?_⟩
  rintro d l ⟨⟨sz, rfl, hsz⟩, rfl⟩
  refine ⟨rfl, fun _ _ => rfl, rfl, ?_⟩
  refine ⟨rfl, Nat.zero_le _, (c_plan_With_0 p hp.P o s).mono ?_⟩
  rintro d l ⟨hd, rfl⟩
  cases hw : withP p o s with
  | none =>
    rw [hw] at hd
    have hd : d = _ := hd
    subst hd
    refine ⟨rfl, fun _ _ => rfl, rfl, ?_⟩
    repeat (first | refine And.intro (fun _ => ?_) (fun h => Bool.noConfusion h) | refine And.intro (fun h => Bool.noConfusion h) (fun _ => ?_))
    refine ⟨rfl, (by first | exact Nat.zero_le _ | decide), (tRuns).mono ?_⟩
    rintro d l ⟨rfl, rfl⟩
    refine ⟨rfl, fun _ _ => rfl, rfl, ?_⟩
    exact rfl
  | some q =>
    rw [hw] at hd
    obtain ⟨sz2, rfl, hsz2⟩ := hd
    obtain ⟨⟨hr, ho1, ho2, hn⟩, a, r, b, hput⟩ := withP_some hw
    have hrq := hput.right hr ho1 ho2 hn
    have hq8 := (rightP_ok hrq).1
    have hqr := (rightP_ok hrq).2
    have hp8 := (rightP_ok hr).1
    have hpr := (rightP_ok hr).2
    have hqQ := right_szQ hq8 (fun x hx => (hqr x hx).len)
    have cf := c_plan_Find_0 q hqQ.P o
    have cf2 := c_plan_Find_0 p hp.P o
    have cw := c_plan_Without_0 q hqQ [o] (by simp)
    have crt := c_plan_Right_0 q
    have cro := c_draykeep_Routes_0 p p hp.P hp.P
    have co := c_plan_Orders_0 q hqQ.P (by have := stops_len (p := q) (fun x hx => by have := (hqr x hx).len; omega); omega)
    have co2 := c_plan_Orders_0 p hp.P (by have := stops_len (p := p) (fun x hx => by have := (hpr x hx).len; omega); omega)
    have hords := hput.ords hn
    rw [hput.back hr hn] at cw
    unfold findD at cf cf2
    rw [hput.find hr hn] at cf
    rw [hn] at cf2
    rw [hrq] at crt
    rw [decide_eq_true rfl] at cro
    have hok := hput.ok
    have hwd : IntKind.i64.wrap (s.drop + 1) = s.drop + 1 := by
      have h0 := (hpr r (by rw [hput.p]; simp)).srv.1
      have h1 := (hpr r (by rw [hput.p]; simp)).len
      have h2 := hok.2.1
      have h3 := hok.2.2.1
      have h4 := hok.2.2.2
      exact wrap64 (by omega) (by omega)
    refine ⟨rfl, fun _ _ => rfl, rfl, ?_⟩
    repeat (first | refine And.intro (fun _ => ?_) (fun h => Bool.noConfusion h) | refine And.intro (fun h => Bool.noConfusion h) (fun _ => ?_))
    refine ⟨rfl, (by first | exact Nat.zero_le _ | decide), (cf).mono ?_⟩
    rintro d l ⟨rfl, rfl⟩
    refine ⟨rfl, fun _ _ => rfl, rfl, ?_⟩
    refine ⟨rfl, (by first | exact Nat.zero_le _ | decide), (cf2).mono ?_⟩
    rintro d l ⟨rfl, rfl⟩
    refine ⟨rfl, fun _ _ => rfl, rfl, ?_⟩
    refine ⟨rfl, Nat.zero_le _, cw.mono ?_⟩
    rintro d l ⟨⟨sz3, rfl, hsz3⟩, rfl⟩
    refine ⟨rfl, fun _ _ => rfl, rfl, ?_⟩
    repeat (first | refine And.intro (fun _ => ?_) (fun h => Bool.noConfusion h) | refine And.intro (fun h => Bool.noConfusion h) (fun _ => ?_))
    refine And.intro (fun _ => ?_) (fun h => absurd rfl (of_decide_eq_false h))
    repeat (first | refine And.intro (fun _ => ?_) (fun h => Bool.noConfusion h) | refine And.intro (fun h => Bool.noConfusion h) (fun _ => ?_))
    refine And.intro (fun _ => ?_) (fun h => absurd rfl (of_decide_eq_false h))
    repeat (first | refine And.intro (fun _ => ?_) (fun h => Bool.noConfusion h) | refine And.intro (fun h => Bool.noConfusion h) (fun _ => ?_))
    refine And.intro (fun _ => ?_) (fun h => absurd hwd.symm (of_decide_eq_false h))
    repeat (first | refine And.intro (fun _ => ?_) (fun h => Bool.noConfusion h) | refine And.intro (fun h => Bool.noConfusion h) (fun _ => ?_))
    refine ⟨rfl, (by first | exact Nat.zero_le _ | decide), (crt).mono ?_⟩
    rintro d l ⟨rfl, rfl⟩
    refine ⟨rfl, fun _ _ => rfl, rfl, ?_⟩
    repeat (first | refine And.intro (fun _ => ?_) (fun h => Bool.noConfusion h) | refine And.intro (fun h => Bool.noConfusion h) (fun _ => ?_))
    refine ⟨rfl, (by first | exact Nat.zero_le _ | decide), (cro).mono ?_⟩
    rintro d l ⟨rfl, rfl⟩
    refine ⟨rfl, fun _ _ => rfl, rfl, ?_⟩
    repeat (first | refine And.intro (fun _ => ?_) (fun h => Bool.noConfusion h) | refine And.intro (fun h => Bool.noConfusion h) (fun _ => ?_))
    refine ⟨rfl, Nat.zero_le _, co.mono ?_⟩
    rintro d l ⟨⟨sz4, rfl⟩, rfl⟩
    refine ⟨rfl, fun _ _ => rfl, rfl, ?_⟩
    refine ⟨rfl, Nat.zero_le _, co2.mono ?_⟩
    rintro d l ⟨⟨sz5, rfl⟩, rfl⟩
    refine ⟨rfl, fun _ _ => rfl, rfl, ?_⟩
    have hol : (ordP p).length ≤ 1000 := by
      have h1 : (ordP p).length ≤ (allO p).length := by
        unfold ordP Lib.compact Lib.compactUpTo
        rw [List.length_map]
        refine Nat.le_trans (List.length_filter_le _ _) ?_
        rw [List.length_range, (sortI_perm _).length_eq]
        exact Nat.le_refl _
      have h2 := stops_len (p := p) (fun x hx => by have := (hpr x hx).len; omega)
      omega
    have heq : (((ordP q).map rowI).length : Int) = IntKind.i64.wrap ((((ordP p).map rowI).length : Int) + 1) := by
      rw [List.length_map, List.length_map, hords, wrap64 (by omega) (by omega)]
      omega
    refine And.intro (fun _ => ?_) (fun h => absurd heq (of_decide_eq_false h))
    repeat (first | refine And.intro (fun _ => ?_) (fun h => Bool.noConfusion h) | refine And.intro (fun h => Bool.noConfusion h) (fun _ => ?_))
    refine ⟨rfl, (by first | exact Nat.zero_le _ | decide), (tRuns).mono ?_⟩
    rintro d l ⟨rfl, rfl⟩
    refine ⟨rfl, fun _ _ => rfl, rfl, ?_⟩
    exact rfl
end Go.Lv
