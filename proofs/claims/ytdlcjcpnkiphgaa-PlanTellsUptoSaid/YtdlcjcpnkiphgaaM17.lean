/-
  Part 17 of the texts under the proof: an abstract run of loaded code on data, and what the functions do. No condition.
-/
import Derived.Test.YtdlcjcpnkiphgaaM16
import Derived.Shelf.Sort.Plain
import Derived.Shelf.Slices.CompactI
import Derived.Shelf.Slices.In.SortNone
import Derived.Ground.NamesProg
import Derived.Ground.Names2Prog
import Derived.KernelRfl
set_option linter.all false
set_option maxRecDepth 100000
namespace Go.Proofs
open Go.Shelf
def Try.lays189_ren : Go.Shelf.Ren := ⟨fun | 189 => 36 | 125 => 58 | 257 => 57 | 128 => 79 | 129 => 80 | 294 => 70 | 295 => 71 | 296 => 72 | 297 => 73 | 298 => 74 | 299 => 75 | 216 => 76 | 300 => 77 | 301 => 78 | 328 => 86 | 329 => 87 | 330 => 88 | 331 => 89 | 332 => 90 | 215 => 91 | 343 => 93 | n => n, fun | 28 => 34 | 3 => 3 | 46 => 83 | 0 => 0 | 51 => 104 | 53 => 90 | 4 => 4 | 183 => 96 | 182 => 95 | 131 => 101 | 5 => 5 | 9 => 9 | 218 => 111 | 222 => 115 | 228 => 118 | 229 => 119 | n => n, fun | n => n⟩
theorem Try.lays189 : Go.Proofs.Lays.n189 Try.prog Try.lays189_ren := {
  mixed := by kernel_rfl
  f125 := Try.func58.trans (congrArg some (by kernel_rfl))
  f128 := Try.func79.trans (congrArg some (by kernel_rfl))
  f129 := Try.func80.trans (congrArg some (by kernel_rfl))
  f189 := Try.func36.trans (congrArg some (by kernel_rfl))
  f215 := Try.func91.trans (congrArg some (by kernel_rfl))
  f216 := Try.func76.trans (congrArg some (by kernel_rfl))
  f257 := Try.func57.trans (congrArg some (by kernel_rfl))
  f294 := Try.func70.trans (congrArg some (by kernel_rfl))
  f295 := Try.func71.trans (congrArg some (by kernel_rfl))
  f296 := Try.func72.trans (congrArg some (by kernel_rfl))
  f297 := Try.func73.trans (congrArg some (by kernel_rfl))
  f298 := Try.func74.trans (congrArg some (by kernel_rfl))
  f299 := Try.func75.trans (congrArg some (by kernel_rfl))
  f300 := Try.func77.trans (congrArg some (by kernel_rfl))
  f301 := Try.func78.trans (congrArg some (by kernel_rfl))
  f328 := Try.func86.trans (congrArg some (by kernel_rfl))
  f329 := Try.func87.trans (congrArg some (by kernel_rfl))
  f330 := Try.func88.trans (congrArg some (by kernel_rfl))
  f331 := Try.func89.trans (congrArg some (by kernel_rfl))
  f332 := Try.func90.trans (congrArg some (by kernel_rfl))
  f343 := Try.func93.trans (congrArg some (by kernel_rfl))
  t0 := Try.underlying0
  a0 := Try.isAgg0
  z0 := Try.sizeOf0
  v0 := Try.zeroValue0
  t3 := Try.underlying3
  a3 := Try.isAgg3
  z3 := Try.sizeOf3
  v3 := Try.zeroValue3
  t4 := Try.underlying4
  a4 := Try.isAgg4
  z4 := Try.sizeOf4
  v4 := Try.zeroValue4
  t5 := Try.underlying5
  a5 := Try.isAgg5
  z5 := Try.sizeOf5
  v5 := Try.zeroValue5
  t9 := Try.underlying9
  a9 := Try.isAgg9
  z9 := Try.sizeOf9
  v9 := Try.zeroValue9
  t28 := Try.underlying34
  a28 := Try.isAgg34
  z28 := Try.sizeOf34
  v28 := Try.zeroValue34
  t46 := Try.underlying83
  a46 := Try.isAgg83
  z46 := Try.sizeOf83
  v46 := Try.zeroValue83
  t51 := Try.underlying104
  a51 := Try.isAgg104
  z51 := Try.sizeOf104
  v51 := Try.zeroValue104
  t53 := Try.underlying90
  a53 := Try.isAgg90
  z53 := Try.sizeOf90
  v53 := Try.zeroValue90
  t131 := Try.underlying101
  a131 := Try.isAgg101
  z131 := Try.sizeOf101
  v131 := Try.zeroValue101
  t182 := Try.underlying95
  a182 := Try.isAgg95
  z182 := Try.sizeOf95
  v182 := Try.zeroValue95
  t183 := Try.underlying96
  a183 := Try.isAgg96
  z183 := Try.sizeOf96
  v183 := Try.zeroValue96
  t218 := Try.underlying111
  a218 := Try.isAgg111
  z218 := Try.sizeOf111
  v218 := Try.zeroValue111
  t222 := Try.underlying115
  a222 := Try.isAgg115
  z222 := Try.sizeOf115
  v222 := Try.zeroValue115
  t228 := Try.underlying118
  a228 := Try.isAgg118
  z228 := Try.sizeOf118
  v228 := Try.zeroValue118
  t229 := Try.underlying119
  a229 := Try.isAgg119
  z229 := Try.sizeOf119
  v229 := Try.zeroValue119 }
def Try.lays220_ren : Go.Shelf.Ren := ⟨fun | 20 => 37 | n => n, fun | 22 => 34 | 3 => 3 | 4 => 4 | 0 => 0 | n => n, fun | n => n⟩
theorem Try.lays220 : Go.Proofs.Lays2.n20 Try.prog Try.lays220_ren := {
  mixed := by kernel_rfl
  f20 := Try.func37.trans (congrArg some (by kernel_rfl))
  t0 := Try.underlying0
  a0 := Try.isAgg0
  z0 := Try.sizeOf0
  v0 := Try.zeroValue0
  t3 := Try.underlying3
  a3 := Try.isAgg3
  z3 := Try.sizeOf3
  v3 := Try.zeroValue3
  t4 := Try.underlying4
  a4 := Try.isAgg4
  z4 := Try.sizeOf4
  v4 := Try.zeroValue4
  t22 := Try.underlying34
  a22 := Try.isAgg34
  z22 := Try.sizeOf34
  v22 := Try.zeroValue34
  i3 := by kernel_rfl }
end Go.Proofs
namespace Go.Lv
open Go Go.Proofs Go.Sort

theorem sortC : TurnC Try.prog 36 sortI where
  fn := ⟨_, Try.func36, rfl, rfl⟩
  len := fun zs => (sortI_perm zs).length_eq
  nil := fun p cap w => Any.slices_Sort_int_none Try.lays189 p cap w
  some := fun blk off cap zs w hH hb hz => by
    have := Any.slices_Sort_int Try.lays189 blk off cap zs w hH hb hz
    rw [mergeSort_sortI] at this
    exact this
theorem compC : CompC Try.prog 37 where
  fn := ⟨_, Try.func37, rfl, rfl, by decide⟩
  nil := fun p cap w => Any.slices_Compact_int_empty Try.lays220 p cap w
  some := fun blk off cap zs w hH hz hc => Any.slices_Compact_int Try.lays220 blk off cap zs w hH hz hc

noncomputable def E9 : Ev := { L := LT, S := SS, hk := fun f T s o => if f = 36 then some (turnHk sortI T s o) else none, sp := fun f => if f = 37 then some compSp else none }
theorem E9ok : EvOk Try.prog E9 where
  L := hLT
  m := by kernel_rfl
  hk := fun f T s o s' x args tys caps _ _ ho hx h => by
    simp only [E9] at h
    split at h
    · rename_i e
      subst e
      exact turnHk_ok sortC ho hx (Option.some.inj h)
    · cases h
  sp := fun f g h r args sto d sto' hg => by
    simp only [E9] at h
    split at h
    · rename_i e
      subst e
      cases h
      exact compSp_ok compC hg
    · cases h
end Go.Lv

namespace Go.Lv
open Go Go.Proofs Go.Sort
noncomputable def trueR : Rz (D × List Ob) → Bool
  | .ok (.bool b, _) => b
  | _ => false
theorem trueR_tri {n k : Nat} {args : List D} (h : trueR (evF Try.prog E9 n 0 k args []) = true) : Tri Try.prog k 0 args [] (fun d l => d = .bool true ∧ l = []) := by
  unfold trueR at h
  split at h
  · rename_i b l he
    subst h
    exact Tri.forget ((evF_ok E9ok n 0 k args [] _ _ he).1) (fun d l h _ => ⟨0, Nat.zero_le _, Nat.zero_le _, by rw [h.1]; exact .bool _, fun o ho => absurd ho (by simp), h.1, rfl⟩)
  · cases h
theorem tRuns : Tri Try.prog 3 0 [] [] (fun d l => d = .bool true ∧ l = []) := trueR_tri (n := 20) (by kernel_rfl)
end Go.Lv

namespace Go.Lv
open Go.Proofs

theorem hmix : Try.prog.follows .mixedOrders = true := by kernel_rfl
theorem row_at {α : Type} {f : α → List D} (l : List α) {i : Nat} (hi : i < l.length) : (l.map f)[((i : Nat) : Int).toNat]? = some (f l[i]) := by
  rw [Int.toNat_natCast, List.getElem?_map, List.getElem?_eq_getElem hi]
  rfl
theorem wrap_succ {i n : Nat} (hi : i < n) (hn : n ≤ 1000000000000000) : IntKind.i64.wrap ((i : Int) + 1) = ((i + 1 : Nat) : Int) := by
  rw [wrap64 (by omega) (by omega)]
  omega
theorem allLen_mono {n : Nat} {xs ys : List (List D)} (h : allLen n xs = true) (hs : ∀ r, r ∈ ys → r ∈ xs) : allLen n ys = true := by
  unfold allLen at *
  rw [List.all_eq_true] at *
  exact fun r hr => h r (hs r hr)
theorem row_at' {α : Type} (f : α → List D) (l : List α) {n : Int} {i : Nat} (h : n = (i : Int)) (hi : i < l.length) : (l.map f)[n.toNat]? = some (f l[i]) := by
  rw [h]
  exact row_at l hi
theorem nd_true {p : Prop} [Decidable p] (h : (!decide p) = true) : ¬ p := by simpa using h
theorem nd_false {p : Prop} [Decidable p] (h : (!decide p) = false) : p := by simpa using h
noncomputable def in64' (z : Int) : Prop := -9223372036854775808 ≤ z ∧ z ≤ 9223372036854775807
theorem wrapU (z : Int) : IntKind.u64.wrap z = z % 18446744073709551616 := by simp [IntKind.wrap, IntKind.bits, IntKind.signed]
noncomputable def rowB (z : Int) : List D := [.int .u8 z]
theorem allLenB (bs : List Int) : allLen 1 (bs.map rowB) = true := by
  simp [allLen, rowB]
theorem nrBLL_B : ∀ bs : List Int, nrBLL 0 (bs.map rowB) = true
  | [] => rfl
  | b :: r => by
    show (nrBL 0 (rowB b) && nrBLL 0 (r.map rowB)) = true
    rw [nrBLL_B r]
    rfl
theorem nrBL_B {bs : List Int} {d : D} (hd : nrB 0 d = true) : nrBL 0 [.list .imm (bs.map rowB), d] = true := by
  show (nrBLL 0 (bs.map rowB) && (nrB 0 d && true)) = true
  rw [nrBLL_B, hd]
  rfl
theorem allLenB' (bs : List Int) : allLen 1 (bs.map rowB) = true := by
  simp [allLen, rowB]
theorem NR.up {k k' : Nat} (h : k ≤ k') {d : D} (hd : NR k d) : NR k' d := by
  induction hd with
  | gptr j o hj => exact .gptr _ _ (Nat.lt_of_lt_of_le hj h)
  | map j hj => exact .map _ (Nat.lt_of_lt_of_le hj h)
  | fn f ds _ ih => exact .fn _ _ ih
  | list q xs _ ih => exact .list _ _ ih
  | agg cs _ ih => exact .agg _ ih
  | tup cs _ ih => exact .tup _ ih
  | int k n => exact .int _ _
  | bool b => exact .bool _
  | str s => exact .str _
  | nil => exact .nil
  | nilmap => exact .nilmap
  | nilfn => exact .nilfn
  | dead => exact .dead
theorem set_self {sto : List Ob} {p : Nat} {o : Ob} (h : sto[p]? = some o) : sto.set p o = sto := by
  apply List.ext_getElem?
  intro i
  rw [List.getElem?_set]
  split
  · rename_i e
    subst e
    rw [if_pos (List.getElem?_eq_some_iff.1 h).1, h]
  · rfl
/-- A function of one box that holds no pointers, where it lies elsewhere; what is new lies behind. -/
theorem Tri.one {f : Nat} {o : Ob} {R : D → List Ob → Prop} (h : Tri Try.prog f 0 [.gptr 0 0] [o] R) (ho : nrO 0 o = true) (hbx : ([o].drop 0).all boxOK = true)
    (hok : ∀ d l, R d l → partsOK d = true ∧ (l.drop 0).all boxOK = true) {r b : Nat} {sto : List Ob} (hr : r ≤ b) (hb : sto[b]? = some o) (hid : ∀ ρ, renO ρ o = o) :
    Tri Try.prog f r [.gptr b 0] sto (fun d l => ∃ d' l', R d' l' ∧ d = renD (extR (fun _ => b) 1 sto.length) d' ∧ l = backSto (fun _ => b) 1 sto l') := by
  have hlt : b < sto.length := (List.getElem?_eq_some_iff.1 hb).1
  exact Tri.ren (r := r) (sto := sto) (fun _ => b) h (fun i j hi hj e => by
      have hi : i < 1 := hi
      have hj : j < 1 := hj
      omega) (fun i o' hi => by
      match i, hi with
      | 0, hi =>
        have : o' = o := by simpa using hi.symm
        rw [this, hid]
        exact hb
      | i + 1, hi => simp at hi) (fun i hi => ⟨fun h => absurd h (Nat.not_lt_zero _), fun h => by have : b < r := h; omega⟩) (by omega) rfl (fun x hx => by
      have : x = .gptr 0 0 := by simpa using hx
      rw [this]
      exact .gptr _ _ (by show 0 < 1; omega)) (fun o' ho' => by
      have : o' = o := by simpa using ho'
      rw [this]
      have h := nrO_nr (k := 0) ho
      cases o with
      | box cs => exact fun d hd => (h d hd).up (Nat.zero_le _)
      | map es => trivial) hbx hok
theorem okBytes {n m : Nat} {x : List D} (h : OkD LT (n + 2) 44 x) (z : SzD LT (m + 1) 44 x) : ∃ bs : List Int, x = [.list .imm (bs.map rowB)] ∧ bs.length ≤ 140737488351232 ∧ ∀ b, b ∈ bs → 0 ≤ b ∧ b ≤ 255 := by
  obtain ⟨xs, rfl, _, h⟩ := h
  obtain ⟨xs', e, z, _⟩ := z
  cases e
  have key : ∀ xs : List (List D), (∀ r, r ∈ xs → r.length = LT.size 5 ∧ OkD LT (n + 1) 5 r) → ∃ bs : List Int, xs = bs.map rowB ∧ ∀ b, b ∈ bs → 0 ≤ b ∧ b ≤ 255 := by
    intro xs
    induction xs with
    | nil => intro _; exact ⟨[], rfl, fun a ha => by cases ha⟩
    | cons x r ih =>
      intro h
      obtain ⟨i, rfl, h1, h2⟩ := (h x (by simp)).2
      obtain ⟨al, rfl, has⟩ := ih fun y hy => h y (by simp [hy])
      exact ⟨i :: al, rfl, fun b hb => by
        rcases List.mem_cons.1 hb with e | hb
        · rw [e]; exact ⟨h1, h2⟩
        · exact has b hb⟩
  obtain ⟨bs, rfl, hb⟩ := key xs h
  have z : (bs.map rowB).length * 1 ≤ 140737488351232 := z
  rw [List.length_map] at z
  exact ⟨bs, rfl, by omega, hb⟩
theorem c_draybook_Same_int_0 (al bl : List Int) (ha : al.length ≤ 1000000000000000) (hb : bl.length ≤ 1000000000000000) :
    Tri Try.prog 12 0 [.list .imm (al.map rowI), .list .imm (bl.map rowI)] [] (fun d l => d = .bool (decide (al = bl)) ∧ l = []) := by
  refine Tri.walk2 (L := LT) (c := {la := false, n := 26, ko := [4]}) [] [0, 1, 4, 5, 10, 14, 25] hLT hmix Try.func12 rfl rfl ⟨rfl, rfl⟩ (by show 2 ≤ 26; decide) (Nat.le_refl _) ?_
  refine And.intro (fun hn => ?_) (fun hn => ?_)
  · refine And.intro ?_ rfl
    have : ¬ al = bl := by
      rintro rfl
      simp at hn
    rw [decide_eq_false this]
  · have hlen : al.length = bl.length := by
      simp at hn
      omega
    show Ok _ _ _ _ _
    refine Ok.loopN hLT hmix [] [0, 1, 4, 5, 10, 14, 25] [0, 1, 5, 4] [] (fun n s => ∃ i : Nat, n = al.length - i ∧ i ≤ al.length ∧ (∀ j, j < i → al[j]? = bl[j]?) ∧ s = ⟨[(0, .list .imm (al.map rowI)), (1, .list .imm (bl.map rowI)), (5, .int .i64 (i : Int)), (4, .bool false)], [], [], mR 0⟩) (n := al.length) ⟨0, rfl, Nat.zero_le _, fun j hj => absurd hj (Nat.not_lt_zero j), rfl⟩ ?_
    rintro n s ⟨i, rfl, hi, heq, rfl⟩
    refine And.intro (fun h => ?_) (fun h => ?_)
    · have h : ((i : Nat) : Int) < ((al.map rowI).length : Int) := of_decide_eq_true h
      rw [List.length_map] at h
      have hi1 : i < al.length := by omega
      have hi2 : i < bl.length := by omega
      refine ⟨⟨511, [0, 0, 3, 4, 0, 0, 48, 64, 136], [1, 2, 7, 15, 16, 32, 112, 240, 511]⟩, by kernel_rfl, ?_⟩
      refine ⟨al.map rowI, [.int .i64 al[i]], rfl, by omega, by rw [Int.toNat_natCast, List.getElem?_map, List.getElem?_eq_getElem hi1]; rfl, rfl, by decide, ?_⟩
      refine And.intro rfl ?_
      refine ⟨bl.map rowI, [.int .i64 bl[i]], rfl, by omega, by rw [Int.toNat_natCast, List.getElem?_map, List.getElem?_eq_getElem hi2]; rfl, rfl, by decide, ?_⟩
      refine And.intro rfl ?_
      refine And.intro (fun hne => ?_) (fun hne => ?_)
      · refine And.intro ?_ rfl
        have : ¬ al = bl := by
          rintro rfl
          simp at hne
        rw [decide_eq_false this]
      · have hq : al[i] = bl[i] := by simpa using hne
        have hw : IntKind.i64.wrap ((i : Int) + 1) = ((i + 1 : Nat) : Int) := by
          rw [wrap64 (by omega) (by omega)]
          omega
        refine ⟨al.length - (i + 1), by omega, i + 1, rfl, by omega, fun j hj => ?_, ?_⟩
        · rcases Nat.lt_or_ge j i with h' | h'
          · exact heq j h'
          · have : j = i := by omega
            subst this
            rw [List.getElem?_eq_getElem hi1, List.getElem?_eq_getElem hi2, hq]
        · rw [← hw]
          rfl
    · have h : ¬ ((i : Nat) : Int) < ((al.map rowI).length : Int) := of_decide_eq_false h
      rw [List.length_map] at h
      refine And.intro ?_ rfl
      have : al = bl := by
        apply List.ext_getElem?
        intro j
        rcases Nat.lt_or_ge j al.length with h' | h'
        · exact heq j (by omega)
        · rw [List.getElem?_eq_none h', List.getElem?_eq_none (by omega)]
      rw [decide_eq_true this]
theorem c_draybook_Same_byte_0 (al bl : List Int) (ha : al.length ≤ 1000000000000000) (hb : bl.length ≤ 1000000000000000) :
    Tri Try.prog 20 0 [.list .imm (al.map rowB), .list .imm (bl.map rowB)] [] (fun d l => d = .bool (decide (al = bl)) ∧ l = []) := by
  refine Tri.walk2 (L := LT) (c := {la := false, n := 26, ko := [4]}) [] [0, 1, 4, 5, 10, 14, 25] hLT hmix Try.func20 rfl rfl ⟨rfl, rfl⟩ (by show 2 ≤ 26; decide) (Nat.le_refl _) ?_
  refine And.intro (fun hn => ?_) (fun hn => ?_)
  · refine And.intro ?_ rfl
    have : ¬ al = bl := by
      rintro rfl
      simp at hn
    rw [decide_eq_false this]
  · have hlen : al.length = bl.length := by
      simp at hn
      omega
    show Ok _ _ _ _ _
    refine Ok.loopN hLT hmix [] [0, 1, 4, 5, 10, 14, 25] [0, 1, 5, 4] [] (fun n s => ∃ i : Nat, n = al.length - i ∧ i ≤ al.length ∧ (∀ j, j < i → al[j]? = bl[j]?) ∧ s = ⟨[(0, .list .imm (al.map rowB)), (1, .list .imm (bl.map rowB)), (5, .int .i64 (i : Int)), (4, .bool false)], [], [], mR 0⟩) (n := al.length) ⟨0, rfl, Nat.zero_le _, fun j hj => absurd hj (Nat.not_lt_zero j), rfl⟩ ?_
    rintro n s ⟨i, rfl, hi, heq, rfl⟩
    refine And.intro (fun h => ?_) (fun h => ?_)
    · have h : ((i : Nat) : Int) < ((al.map rowB).length : Int) := of_decide_eq_true h
      rw [List.length_map] at h
      have hi1 : i < al.length := by omega
      have hi2 : i < bl.length := by omega
      refine ⟨⟨511, [0, 0, 3, 4, 0, 0, 48, 64, 136], [1, 2, 7, 15, 16, 32, 112, 240, 511]⟩, by kernel_rfl, ?_⟩
      refine ⟨al.map rowB, [.int .u8 al[i]], rfl, by omega, by rw [Int.toNat_natCast, List.getElem?_map, List.getElem?_eq_getElem hi1]; rfl, rfl, by decide, ?_⟩
      refine And.intro rfl ?_
      refine ⟨bl.map rowB, [.int .u8 bl[i]], rfl, by omega, by rw [Int.toNat_natCast, List.getElem?_map, List.getElem?_eq_getElem hi2]; rfl, rfl, by decide, ?_⟩
      refine And.intro rfl ?_
      refine And.intro (fun hne => ?_) (fun hne => ?_)
      · refine And.intro ?_ rfl
        have : ¬ al = bl := by
          rintro rfl
          simp at hne
        rw [decide_eq_false this]
      · have hq : al[i] = bl[i] := by simpa using hne
        have hw : IntKind.i64.wrap ((i : Int) + 1) = ((i + 1 : Nat) : Int) := by
          rw [wrap64 (by omega) (by omega)]
          omega
        refine ⟨al.length - (i + 1), by omega, i + 1, rfl, by omega, fun j hj => ?_, ?_⟩
        · rcases Nat.lt_or_ge j i with h' | h'
          · exact heq j h'
          · have : j = i := by omega
            subst this
            rw [List.getElem?_eq_getElem hi1, List.getElem?_eq_getElem hi2, hq]
        · rw [← hw]
          rfl
    · have h : ¬ ((i : Nat) : Int) < ((al.map rowB).length : Int) := of_decide_eq_false h
      rw [List.length_map] at h
      refine And.intro ?_ rfl
      have : al = bl := by
        apply List.ext_getElem?
        intro j
        rcases Nat.lt_or_ge j al.length with h' | h'
        · exact heq j (by omega)
        · rw [List.getElem?_eq_none h', List.getElem?_eq_none (by omega)]
      rw [decide_eq_true this]
theorem nrBLL_I : ∀ l : List Int, nrBLL 0 (l.map rowI) = true
  | [] => rfl
  | b :: r => by
    show (nrBL 0 (rowI b) && nrBLL 0 (r.map rowI)) = true
    rw [nrBLL_I r]
    rfl
theorem c_draybook_Same_int (al bl : List Int) (ha : al.length ≤ 1000000000000000) (hb : bl.length ≤ 1000000000000000) {r : Nat} {sto : List Ob} (hr : r ≤ sto.length) :
    Tri Try.prog 12 r [.list .imm (al.map rowI), .list .imm (bl.map rowI)] sto (fun d l => d = .bool (decide (al = bl)) ∧ l = sto) :=
  (c_draybook_Same_int_0 al bl ha hb).pure rfl (by
    show (nrBLL 0 (al.map rowI) && (nrBLL 0 (bl.map rowI) && true)) = true
    rw [nrBLL_I, nrBLL_I]
    rfl) rfl rfl hr
theorem c_draybook_Same_byte (al bl : List Int) (ha : al.length ≤ 1000000000000000) (hb : bl.length ≤ 1000000000000000) {r : Nat} {sto : List Ob} (hr : r ≤ sto.length) :
    Tri Try.prog 20 r [.list .imm (al.map rowB), .list .imm (bl.map rowB)] sto (fun d l => d = .bool (decide (al = bl)) ∧ l = sto) :=
  (c_draybook_Same_byte_0 al bl ha hb).pure rfl (by
    show (nrBLL 0 (al.map rowB) && (nrBLL 0 (bl.map rowB) && true)) = true
    rw [nrBLL_B, nrBLL_B]
    rfl) rfl rfl hr
end Go.Lv

namespace Go.Lv
open Go.Proofs

structure Stp where
  ord : Int
  drop : Bool
  deriving DecidableEq
structure Rte where
  drv : Int
  srv : Int
  st : List Stp
  deriving DecidableEq
abbrev Pln := List Rte
noncomputable def rowS (s : Stp) : List D := [.int .i64 s.ord, .bool s.drop]
noncomputable def rowR (r : Rte) : List D := [.int .i64 r.drv, .int .i64 r.srv, .list .imm (r.st.map rowS)]
noncomputable def encP (p : Pln) : D := .list .imm (p.map rowR)
theorem nrBLL_S : ∀ l : List Stp, nrBLL 0 (l.map rowS) = true
  | [] => rfl
  | b :: r => by
    show (nrBL 0 (rowS b) && nrBLL 0 (r.map rowS)) = true
    rw [nrBLL_S r]
    rfl
theorem nrBLL_P : ∀ l : Pln, nrBLL 0 (l.map rowR) = true
  | [] => rfl
  | b :: r => by
    show ((true && (true && (nrBLL 0 (b.st.map rowS) && true))) && nrBLL 0 (r.map rowR)) = true
    rw [nrBLL_P r, nrBLL_S]
    rfl
theorem nrBL_S {l : List Stp} {ds : List D} (hd : nrBL 0 ds = true) : nrBL 0 (.list .imm (l.map rowS) :: ds) = true := by
  show (nrBLL 0 (l.map rowS) && nrBL 0 ds) = true
  rw [nrBLL_S, hd]
  rfl
theorem nrBL_P {l : Pln} {ds : List D} (hd : nrBL 0 ds = true) : nrBL 0 (encP l :: ds) = true := by
  show (nrBLL 0 (l.map rowR) && nrBL 0 ds) = true
  rw [nrBLL_P, hd]
  rfl
/-- The number of the first such stop, or -1. -/
noncomputable def idxA (s : Stp) : Nat → List Stp → Int
  | _, [] => -1
  | i, x :: r => if x = s then (i : Int) else idxA s (i + 1) r
noncomputable def idxS (l : List Stp) (s : Stp) : Int := idxA s 0 l
theorem idxA_at {s : Stp} {l : List Stp} {i : Nat} (h : i < l.length) : idxA s i (l.drop i) = if l[i] = s then (i : Int) else idxA s (i + 1) (l.drop (i + 1)) := by
  rw [List.drop_eq_getElem_cons h]
  rfl
theorem stp_eq {a b : Stp} (h : (decide (a.ord = b.ord) && (a.drop == b.drop && true)) = true) : a = b := by
  obtain ⟨x, y⟩ := a
  obtain ⟨z, w⟩ := b
  simp only [Bool.and_true, Bool.and_eq_true, decide_eq_true_eq, beq_iff_eq] at h
  obtain ⟨rfl, rfl⟩ := h
  rfl
theorem stp_ne {a b : Stp} (h : (decide (a.ord = b.ord) && (a.drop == b.drop && true)) = false) : a ≠ b := by
  rintro rfl
  simp at h
noncomputable def sIx (l : List Stp) (v : Stp) (i : Nat) : DS := ⟨[(0, .list .imm (l.map rowS)), (3, .lptr 3 0 0), (7, .int .i64 (l.length : Int)), (8, .int .i64 (i : Int)), (4, .int .i64 0)], [(3, rowS v)], [], mR 0⟩
set_option maxHeartbeats 4000000 in
theorem c_slices_Index_Stop_0 (l : List Stp) (hl : l.length ≤ 1000000000000000) (v : Stp) : Tri Try.prog 35 0 [.list .imm (l.map rowS), .agg (rowS v)] [] (fun d k => d = .int .i64 (idxS l v) ∧ k = []) := by
  refine Tri.walk2 (L := LT) (c := {n := 19, ko := [4]}) [] [0, 1, 3, 4, 5, 7, 8, 9, 16] hLT hmix Try.func35 rfl rfl ⟨rfl, rfl⟩ (by show 2 ≤ 19; decide) (by first | exact Nat.zero_le _ | exact Nat.le_refl _ | decide) ?_
  show Ok _ _ _ _ _
  refine Ok.loopN hLT hmix [] [0, 1, 3, 4, 5, 7, 8, 9, 16] [0,3,7,8,4] [3] (fun n s => ∃ i : Nat, n = l.length - i ∧ i ≤ l.length ∧ idxA v i (l.drop i) = idxS l v ∧ s = sIx l v i) (n := l.length) ⟨0, rfl, Nat.zero_le _, rfl, by unfold sIx; rw [← List.length_map (f := rowS)]; rfl⟩ ?_
  rintro n s ⟨i, rfl, hi, hix, rfl⟩
  refine And.intro (fun h1 => ?_) (fun h1 => ?_)
  · have h1 : ((i : Nat) : Int) < (l.length : Int) := of_decide_eq_true h1
    have hw := wrap_succ (i := i) (n := l.length) (by omega) hl
    rw [idxA_at (by omega)] at hix
    refine ⟨⟨63, [0, 0, 0, 6, 8, 17], [1, 2, 4, 14, 30, 63]⟩, by kernel_rfl, ?_⟩
    refine ⟨(l).map rowS, rowS ((l)[i]'(by omega)), rfl, by omega, row_at' rowS (l) (by omega) (by omega), rfl, of_decide_eq_true rfl, ?_⟩
    refine And.intro rfl ?_
    refine And.intro (fun h2 => ?_) (fun h2 => ?_)
    · have h2 := stp_eq h2
      rw [if_pos h2.symm] at hix
      rw [← hix]
      exact And.intro rfl rfl
    · have h2 := stp_ne h2
      rw [if_neg (fun e => h2 e.symm)] at hix
      refine ⟨l.length - (i + 1), by omega, i + 1, rfl, by omega, hix, ?_⟩
      unfold sIx
      rw [← hw]
      rfl
  · have h1 : ¬ ((i : Nat) : Int) < (l.length : Int) := of_decide_eq_false h1
    rw [List.drop_eq_nil_of_le (by omega)] at hix
    rw [← hix]
    exact And.intro rfl rfl
theorem c_slices_Index_Stop (l : List Stp) (hl : l.length ≤ 1000000000000000) (v : Stp) {r : Nat} {sto : List Ob} (hr : r ≤ sto.length) : Tri Try.prog 35 r [.list .imm (l.map rowS), .agg (rowS v)] sto (fun d k => d = .int .i64 (idxS l v) ∧ k = sto) :=
  (c_slices_Index_Stop_0 l hl v).pure rfl (nrBL_S rfl) rfl rfl hr
noncomputable def sIw (l : List Stp) (v : Stp) (i : Nat) : DS := ⟨[(0, .list .imm (l.map rowS)), (3, .lptr 3 0 0), (5, .int .i64 (i : Int)), (4, .int .i64 0)], [(3, rowS v)], [], mR 0⟩
set_option maxHeartbeats 4000000 in
theorem c_drayref9_where_0 (l : List Stp) (hl : l.length ≤ 1000000000000000) (v : Stp) : Tri Try.prog 46 0 [.list .imm (l.map rowS), .agg (rowS v)] [] (fun d k => d = .int .i64 (idxS l v) ∧ k = []) := by
  refine Tri.walk2 (L := LT) (c := {n := 19, ko := [4]}) [] [0, 1, 3, 4, 5, 9, 17] hLT hmix Try.func46 rfl rfl ⟨rfl, rfl⟩ (by show 2 ≤ 19; decide) (by first | exact Nat.zero_le _ | exact Nat.le_refl _ | decide) ?_
  show Ok _ _ _ _ _
  refine Ok.loopN hLT hmix [] [0, 1, 3, 4, 5, 9, 17] [0,3,5,4] [3] (fun n s => ∃ i : Nat, n = l.length - i ∧ i ≤ l.length ∧ idxA v i (l.drop i) = idxS l v ∧ s = sIw l v i) (n := l.length) ⟨0, rfl, Nat.zero_le _, rfl, rfl⟩ ?_
  rintro n s ⟨i, rfl, hi, hix, rfl⟩
  refine And.intro (fun h1 => ?_) (fun h1 => ?_)
  · have h1 : ((i : Nat) : Int) < ((l.map rowS).length : Int) := of_decide_eq_true h1
    rw [List.length_map] at h1
    have hw := wrap_succ (i := i) (n := l.length) (by omega) hl
    rw [idxA_at (by omega)] at hix
    refine ⟨⟨63, [0, 0, 3, 4, 0, 24], [1, 2, 7, 15, 16, 63]⟩, by kernel_rfl, ?_⟩
    refine ⟨(l).map rowS, rowS ((l)[i]'(by omega)), rfl, by omega, row_at' rowS (l) (by omega) (by omega), rfl, of_decide_eq_true rfl, ?_⟩
    refine And.intro rfl ?_
    refine And.intro (fun h2 => ?_) (fun h2 => ?_)
    · have h2 := stp_eq h2
      rw [if_pos h2] at hix
      rw [← hix]
      exact And.intro rfl rfl
    · have h2 := stp_ne h2
      rw [if_neg h2] at hix
      refine ⟨l.length - (i + 1), by omega, i + 1, rfl, by omega, hix, ?_⟩
      unfold sIw
      rw [← hw]
      rfl
  · have h1 : ¬ ((i : Nat) : Int) < ((l.map rowS).length : Int) := of_decide_eq_false h1
    rw [List.length_map] at h1
    rw [List.drop_eq_nil_of_le (by omega)] at hix
    rw [← hix]
    exact And.intro rfl rfl
theorem c_drayref9_where (l : List Stp) (hl : l.length ≤ 1000000000000000) (v : Stp) {r : Nat} {sto : List Ob} (hr : r ≤ sto.length) : Tri Try.prog 46 r [.list .imm (l.map rowS), .agg (rowS v)] sto (fun d k => d = .int .i64 (idxS l v) ∧ k = sto) :=
  (c_drayref9_where_0 l hl v).pure rfl (nrBL_S rfl) rfl rfl hr

/-! ### Where an order stands -/
structure Spt where
  drv : Int
  pick : Int
  drop : Int
  cost : Int
  deriving DecidableEq
noncomputable def encSpt (s : Spt) : D := .agg [.int .i64 s.drv, .int .i64 s.pick, .int .i64 s.drop, .int .i64 s.cost]
noncomputable def findP (o : Int) : Pln → Option Spt
  | [] => none
  | r :: p => if idxS r.st ⟨o, false⟩ ≥ 0 ∨ idxS r.st ⟨o, true⟩ ≥ 0 then some ⟨r.drv, idxS r.st ⟨o, false⟩, idxS r.st ⟨o, true⟩, 0⟩ else findP o p
noncomputable def findD (o : Int) (p : Pln) : D := match findP o p with
  | some s => .tup [encSpt s, .bool true]
  | none => .tup [encSpt ⟨0, 0, 0, 0⟩, .bool false]
theorem findP_at {o : Int} {p : Pln} {i : Nat} (h : i < p.length) : findP o (p.drop i) = if idxS p[i].st ⟨o, false⟩ ≥ 0 ∨ idxS p[i].st ⟨o, true⟩ ≥ 0 then some ⟨p[i].drv, idxS p[i].st ⟨o, false⟩, idxS p[i].st ⟨o, true⟩, 0⟩ else findP o (p.drop (i + 1)) := by
  rw [List.drop_eq_getElem_cons h]
  rfl
/-- Lists that Go can hold. -/
structure szP (p : Pln) : Prop where
  len : p.length ≤ 1000000000000000
  st : ∀ r, r ∈ p → r.st.length ≤ 1000000000000000
noncomputable def sFi (p : Pln) (o : Int) (i : Nat) : DS := ⟨[(1, .int .i64 o), (9, encP p), (10, .int .i64 (p.length : Int)), (11, .int .i64 (i : Int)), (4, .lptr 4 0 0), (5, .bool false)], [(4, [.int .i64 0, .int .i64 0, .int .i64 0, .int .i64 0])], [], mR 0⟩
set_option maxHeartbeats 4000000 in
theorem c_plan_Find_0 (p : Pln) (hp : szP p) (o : Int) : Tri Try.prog 11 0 [encP p, .int .i64 o] [] (fun d k => d = findD o p ∧ k = []) := by
  refine Tri.walk2 (L := LT) (c := {n := 39, ko := [5], kb := [4]}) [] [0, 1, 4, 5, 7, 8, 9, 10, 11, 12, 35] hLT hmix Try.func11 rfl rfl ⟨rfl, rfl⟩ (by show 2 ≤ 39; decide) (by first | exact Nat.zero_le _ | exact Nat.le_refl _ | decide) ?_
  show Ok _ _ _ _ _
  refine Ok.loopN hLT hmix [] [0, 1, 4, 5, 7, 8, 9, 10, 11, 12, 35] [1,9,10,11,4,5] [4] (fun n s => ∃ i : Nat, n = p.length - i ∧ i ≤ p.length ∧ findP o (p.drop i) = findP o p ∧ s = sFi p o i) (n := p.length) ⟨0, rfl, Nat.zero_le _, rfl, by unfold sFi; rw [← List.length_map (f := rowR)]; rfl⟩ ?_
  rintro n s ⟨i, rfl, hi, hix, rfl⟩
  unfold findD
  refine And.intro (fun h1 => ?_) (fun h1 => ?_)
  · have h1 : ((i : Nat) : Int) < (p.length : Int) := of_decide_eq_true h1
    have hw := wrap_succ (i := i) (n := p.length) (by omega) hp.len
    have hst := hp.st p[i] (List.getElem_mem _)
    rw [findP_at (by omega)] at hix
    refine ⟨(p).map rowR, rowR ((p)[i]'(by omega)), rfl, by omega, row_at' rowR (p) (by omega) (by omega), rfl, of_decide_eq_true rfl, ?_⟩
    refine ⟨⟨16383, [0, 1, 0, 4, 0, 16, 40, 0, 128, 0, 512, 1344, 2114, 0, 16383], [1, 3, 4, 12, 16, 48, 124, 128, 384, 512, 1536, 4092, 8191, 8192, 32767]⟩, by kernel_rfl, ?_⟩
    refine And.intro ?_ (And.intro ?_ trivial)
    rotate_left
    refine And.intro (by repeat (first | exact trivial | refine And.intro ⟨rfl, rfl⟩ ?_)) ?_
    refine And.intro ?_ trivial
    refine ⟨rfl, (by first | exact Nat.zero_le _ | decide), (c_slices_Index_Stop p[i].st hst ⟨o, false⟩ (r := 0) (sto := []) (Nat.le_refl 0)).mono ?_⟩
    rintro d l ⟨rfl, rfl⟩
    refine ⟨rfl, fun _ _ => rfl, rfl, ?_⟩
    refine And.intro (by repeat (first | exact trivial | refine And.intro ⟨rfl, rfl⟩ ?_)) ?_
    refine And.intro ?_ trivial
    refine ⟨rfl, (by first | exact Nat.zero_le _ | decide), (c_slices_Index_Stop p[i].st hst ⟨o, true⟩ (r := 0) (sto := []) (Nat.le_refl 0)).mono ?_⟩
    rintro d l ⟨rfl, rfl⟩
    refine ⟨rfl, fun _ _ => rfl, rfl, ?_⟩
    refine And.intro (by repeat (first | exact trivial | refine And.intro ⟨rfl, rfl⟩ ?_)) ?_
    refine And.intro ?_ trivial
    refine And.intro (by repeat (first | exact trivial | refine And.intro ⟨rfl, rfl⟩ ?_)) ?_
    rotate_left
    refine ⟨rfl, (by first | exact Nat.zero_le _ | decide), (c_slices_Index_Stop p[i].st hst ⟨o, false⟩ (r := 0) (sto := []) (Nat.le_refl 0)).mono ?_⟩
    rintro d l ⟨rfl, rfl⟩
    refine ⟨rfl, fun _ _ => rfl, rfl, ?_⟩
    refine And.intro (by repeat (first | exact trivial | refine And.intro ⟨rfl, rfl⟩ ?_)) ?_
    refine And.intro ?_ (And.intro ?_ trivial)
    rotate_left
    refine And.intro (by repeat (first | exact trivial | refine And.intro ⟨rfl, rfl⟩ ?_)) ?_
    refine And.intro ?_ trivial
    refine ⟨rfl, (by first | exact Nat.zero_le _ | decide), (c_slices_Index_Stop p[i].st hst ⟨o, true⟩ (r := 0) (sto := []) (Nat.le_refl 0)).mono ?_⟩
    rintro d l ⟨rfl, rfl⟩
    refine ⟨rfl, fun _ _ => rfl, rfl, ?_⟩
    refine And.intro (by repeat (first | exact trivial | refine And.intro ⟨rfl, rfl⟩ ?_)) ?_
    refine And.intro ?_ trivial
    refine And.intro (by repeat (first | exact trivial | refine And.intro ⟨rfl, rfl⟩ ?_)) ?_
    rotate_left
    rotate_left
    refine ⟨rfl, (by first | exact Nat.zero_le _ | decide), (c_slices_Index_Stop p[i].st hst ⟨o, true⟩ (r := 0) (sto := []) (Nat.le_refl 0)).mono ?_⟩
    rintro d l ⟨rfl, rfl⟩
    refine ⟨rfl, fun _ _ => rfl, rfl, ?_⟩
    refine And.intro (by repeat (first | exact trivial | refine And.intro ⟨rfl, rfl⟩ ?_)) ?_
    refine And.intro ?_ trivial
    refine And.intro (by repeat (first | exact trivial | refine And.intro ⟨rfl, rfl⟩ ?_)) ?_
    refine And.intro ?_ trivial
    refine And.intro (by repeat (first | exact trivial | refine And.intro ⟨rfl, rfl⟩ ?_)) ?_
    all_goals
      refine And.intro (fun h2 => ?_) (fun h2 => ?_)
      · repeat (first | refine And.intro (fun _ => ?_) (fun h => Bool.noConfusion h) | refine And.intro (fun h => Bool.noConfusion h) (fun _ => ?_))
        have h2 : idxS p[i].st ⟨o, false⟩ ≥ 0 := of_decide_eq_true h2
        rw [if_pos (.inl h2)] at hix
        rw [← hix]
        exact And.intro rfl rfl
      · repeat (first | refine And.intro (fun _ => ?_) (fun h => Bool.noConfusion h) | refine And.intro (fun h => Bool.noConfusion h) (fun _ => ?_))
        have h2 : ¬ idxS p[i].st ⟨o, false⟩ ≥ 0 := of_decide_eq_false h2
        refine And.intro (fun h3 => ?_) (fun h3 => ?_)
        · repeat (first | refine And.intro (fun _ => ?_) (fun h => Bool.noConfusion h) | refine And.intro (fun h => Bool.noConfusion h) (fun _ => ?_))
          have h3 : idxS p[i].st ⟨o, true⟩ ≥ 0 := of_decide_eq_true h3
          rw [if_pos (.inr h3)] at hix
          rw [← hix]
          exact And.intro rfl rfl
        · repeat (first | refine And.intro (fun _ => ?_) (fun h => Bool.noConfusion h) | refine And.intro (fun h => Bool.noConfusion h) (fun _ => ?_))
          have h3 : ¬ idxS p[i].st ⟨o, true⟩ ≥ 0 := of_decide_eq_false h3
          rw [if_neg (fun h => h.elim h2 h3)] at hix
          refine ⟨p.length - (i + 1), by omega, i + 1, rfl, by omega, hix, ?_⟩
          unfold sFi
          rw [← hw]
          rfl
  · have h1 : ¬ ((i : Nat) : Int) < (p.length : Int) := of_decide_eq_false h1
    rw [List.drop_eq_nil_of_le (by omega)] at hix
    rw [← hix]
    exact And.intro rfl rfl
theorem findD_ok (o : Int) (p : Pln) : partsOK (findD o p) = true ∧ nrB 0 (findD o p) = true := by
  unfold findD
  split <;> exact ⟨rfl, rfl⟩
theorem c_plan_Find (p : Pln) (hp : szP p) (o : Int) {r : Nat} {sto : List Ob} (hr : r ≤ sto.length) : Tri Try.prog 11 r [encP p, .int .i64 o] sto (fun d k => d = findD o p ∧ k = sto) :=
  (c_plan_Find_0 p hp o).pure rfl (nrBL_P rfl) (findD_ok o p).1 (findD_ok o p).2 hr
noncomputable def sFw (p : Pln) (o : Int) (i : Nat) : DS := ⟨[(0, encP p), (1, .int .i64 o), (6, .int .i64 (i : Int)), (4, .lptr 4 0 0), (5, .bool false)], [(4, [.int .i64 0, .int .i64 0, .int .i64 0, .int .i64 0])], [], mR 0⟩
set_option maxHeartbeats 4000000 in
theorem c_drayref9_Find_0 (p : Pln) (hp : szP p) (o : Int) : Tri Try.prog 22 0 [encP p, .int .i64 o] [] (fun d k => d = findD o p ∧ k = []) := by
  refine Tri.walk2 (L := LT) (c := {n := 46, ko := [5], kb := [4]}) [] [0, 1, 4, 5, 6, 7, 8, 12, 36] hLT hmix Try.func22 rfl rfl ⟨rfl, rfl⟩ (by show 2 ≤ 46; decide) (by first | exact Nat.zero_le _ | exact Nat.le_refl _ | decide) ?_
  show Ok _ _ _ _ _
  refine Ok.loopN hLT hmix [] [0, 1, 4, 5, 6, 7, 8, 12, 36] [0,1,6,4,5] [4] (fun n s => ∃ i : Nat, n = p.length - i ∧ i ≤ p.length ∧ findP o (p.drop i) = findP o p ∧ s = sFw p o i) (n := p.length) ⟨0, rfl, Nat.zero_le _, rfl, rfl⟩ ?_
  rintro n s ⟨i, rfl, hi, hix, rfl⟩
  unfold findD
  refine And.intro (fun h1 => ?_) (fun h1 => ?_)
  · have h1 : ((i : Nat) : Int) < ((p.map rowR).length : Int) := of_decide_eq_true h1
    rw [List.length_map] at h1
    have hw := wrap_succ (i := i) (n := p.length) (by omega) hp.len
    have hst := hp.st p[i] (List.getElem_mem _)
    rw [findP_at (by omega)] at hix
    refine ⟨(p).map rowR, rowR ((p)[i]'(by omega)), rfl, by omega, row_at' rowR (p) (by omega) (by omega), rfl, of_decide_eq_true rfl, ?_⟩
    refine ⟨rfl, (by first | exact Nat.zero_le _ | decide), (c_drayref9_where p[i].st hst ⟨o, false⟩ (r := 0) (sto := []) (Nat.le_refl 0)).mono ?_⟩
    rintro d l ⟨rfl, rfl⟩
    refine ⟨rfl, fun _ _ => rfl, rfl, ?_⟩
    refine ⟨(p).map rowR, rowR ((p)[i]'(by omega)), rfl, by omega, row_at' rowR (p) (by omega) (by omega), rfl, of_decide_eq_true rfl, ?_⟩
    refine ⟨rfl, (by first | exact Nat.zero_le _ | decide), (c_drayref9_where p[i].st hst ⟨o, true⟩ (r := 0) (sto := []) (Nat.le_refl 0)).mono ?_⟩
    rintro d l ⟨rfl, rfl⟩
    refine ⟨rfl, fun _ _ => rfl, rfl, ?_⟩
    refine And.intro (fun h2 => ?_) (fun h2 => ?_)
    · repeat (first | refine And.intro (fun _ => ?_) (fun h => Bool.noConfusion h) | refine And.intro (fun h => Bool.noConfusion h) (fun _ => ?_))
      have h2 : idxS p[i].st ⟨o, false⟩ ≥ 0 := of_decide_eq_true h2
      rw [if_pos (.inl h2)] at hix
      rw [← hix]
      refine ⟨(p).map rowR, rowR ((p)[i]'(by omega)), rfl, by omega, row_at' rowR (p) (by omega) (by omega), rfl, of_decide_eq_true rfl, ?_⟩
      exact And.intro rfl rfl
    · repeat (first | refine And.intro (fun _ => ?_) (fun h => Bool.noConfusion h) | refine And.intro (fun h => Bool.noConfusion h) (fun _ => ?_))
      have h2 : ¬ idxS p[i].st ⟨o, false⟩ ≥ 0 := of_decide_eq_false h2
      refine And.intro (fun h3 => ?_) (fun h3 => ?_)
      · repeat (first | refine And.intro (fun _ => ?_) (fun h => Bool.noConfusion h) | refine And.intro (fun h => Bool.noConfusion h) (fun _ => ?_))
        have h3 : idxS p[i].st ⟨o, true⟩ ≥ 0 := of_decide_eq_true h3
        rw [if_pos (.inr h3)] at hix
        rw [← hix]
        refine ⟨(p).map rowR, rowR ((p)[i]'(by omega)), rfl, by omega, row_at' rowR (p) (by omega) (by omega), rfl, of_decide_eq_true rfl, ?_⟩
        exact And.intro rfl rfl
      · repeat (first | refine And.intro (fun _ => ?_) (fun h => Bool.noConfusion h) | refine And.intro (fun h => Bool.noConfusion h) (fun _ => ?_))
        have h3 : ¬ idxS p[i].st ⟨o, true⟩ ≥ 0 := of_decide_eq_false h3
        rw [if_neg (fun h => h.elim h2 h3)] at hix
        refine ⟨p.length - (i + 1), by omega, i + 1, rfl, by omega, hix, ?_⟩
        unfold sFw
        rw [← hw]
        rfl
  · have h1 : ¬ ((i : Nat) : Int) < ((p.map rowR).length : Int) := of_decide_eq_false h1
    rw [List.length_map] at h1
    rw [List.drop_eq_nil_of_le (by omega)] at hix
    rw [← hix]
    exact And.intro rfl rfl
theorem c_drayref9_Find (p : Pln) (hp : szP p) (o : Int) {r : Nat} {sto : List Ob} (hr : r ≤ sto.length) : Tri Try.prog 22 r [encP p, .int .i64 o] sto (fun d k => d = findD o p ∧ k = sto) :=
  (c_drayref9_Find_0 p hp o).pure rfl (nrBL_P rfl) (findD_ok o p).1 (findD_ok o p).2 hr
end Go.Lv

namespace Go.Lv
open Go.Proofs

noncomputable def stOK (seen : List Stp) : List Stp → Bool
  | [] => true
  | s :: l => decide (1 ≤ s.ord ∧ s.ord ≤ 1000000 ∧ s ∉ seen) && stOK (seen ++ [s]) l
noncomputable def hdOK (last : Int) (r : Rte) : Prop := last < r.drv ∧ r.drv ≤ 1000000 ∧ r.st.length ≤ 80 ∧ 0 ≤ r.srv ∧ r.srv ≤ r.st.length
noncomputable instance (last : Int) (r : Rte) : Decidable (hdOK last r) := by unfold hdOK; infer_instance
noncomputable def rightG (last : Int) (seen : List Stp) : Pln → Bool
  | [] => true
  | r :: p => decide (hdOK last r) && (stOK seen r.st && rightG r.drv (seen ++ r.st) p)
/-- Is a plan right? -/
noncomputable def rightP (p : Pln) : Bool := decide (p.length ≤ 8) && rightG 0 [] p
noncomputable def encM (seen : List Stp) : List (D × D) := seen.map fun s => (.agg (rowS s), .int .i64 1)
theorem findM (s : Stp) : ∀ seen : List Stp, findE LT 23 (.agg (rowS s)) (encM seen) = some (if s ∈ seen then some (.int .i64 1) else none)
  | [] => rfl
  | x :: r => by
    have ih := findM s r
    have e : eqD LT 23 (.agg (rowS s)) (.agg (rowS x)) = some (decide (s.ord = x.ord) && (s.drop == x.drop && true)) := rfl
    show (match eqD LT 23 (.agg (rowS s)) (.agg (rowS x)) with | some true => some (some (D.int .i64 1)) | some false => findE LT 23 (.agg (rowS s)) (encM r) | none => none) = _
    rw [e]
    cases hb : (decide (s.ord = x.ord) && (s.drop == x.drop && true)) with
    | true => rw [if_pos (by rw [stp_eq hb]; simp)]
    | false =>
      have hn := stp_ne hb
      simp only [ih, List.mem_cons, hn, false_or]
theorem findM_new {s : Stp} {v : D} : ∀ {seen : List Stp}, s ∉ seen → findE LT 23 (.agg (rowS s)) (encM seen ++ [(D.agg (rowS s), v)]) = some (some v)
  | [], _ => by
    have e : eqD LT 23 (.agg (rowS s)) (.agg (rowS s)) = some (decide (s.ord = s.ord) && (s.drop == s.drop && true)) := rfl
    show (match eqD LT 23 (.agg (rowS s)) (.agg (rowS s)) with | some true => some (some v) | some false => some none | none => none) = _
    rw [e]
    simp
  | x :: r, h => by
    have ih := findM_new (v := v) (seen := r) (fun q => h (List.mem_cons_of_mem _ q))
    have e : eqD LT 23 (.agg (rowS s)) (.agg (rowS x)) = some (decide (s.ord = x.ord) && (s.drop == x.drop && true)) := rfl
    show (match eqD LT 23 (.agg (rowS s)) (.agg (rowS x)) with | some true => some (some (D.int .i64 1)) | some false => findE LT 23 (.agg (rowS s)) (encM r ++ [(D.agg (rowS s), v)]) | none => none) = _
    rw [e]
    cases hb : (decide (s.ord = x.ord) && (s.drop == x.drop && true)) with
    | true => exact absurd (by rw [stp_eq hb]; simp) h
    | false => exact ih
theorem findM_no {s : Stp} {seen : List Stp} (h : s ∉ seen) : findE LT 23 (.agg (rowS s)) (encM seen) = some none := by rw [findM, if_neg h]
theorem encM_snoc (seen : List Stp) (s : Stp) : (encM seen ++ [(D.agg (rowS s), D.int .i64 0)]).set (encM seen).length (D.agg (rowS s), D.int .i64 1) = encM (seen ++ [s]) := by
  rw [List.set_append_right _ _ (Nat.le_refl _), Nat.sub_self]
  simp [encM]
theorem stOK_at {seen l : List Stp} {i : Nat} (h : i < l.length) : stOK (seen ++ l.take i) (l.drop i) = (decide (1 ≤ l[i].ord ∧ l[i].ord ≤ 1000000 ∧ l[i] ∉ seen ++ l.take i) && stOK (seen ++ l.take (i + 1)) (l.drop (i + 1))) := by
  rw [List.drop_eq_getElem_cons h]
  show (_ && stOK (seen ++ l.take i ++ [l[i]]) (l.drop (i + 1))) = _
  rw [List.append_assoc, List.take_succ_eq_append_getElem h]
theorem rightG_at {last : Int} {seen : List Stp} {p : Pln} {i : Nat} (h : i < p.length) : rightG last seen (p.drop i) = (decide (hdOK last p[i]) && (stOK seen p[i].st && rightG p[i].drv (seen ++ p[i].st) (p.drop (i + 1)))) := by
  rw [List.drop_eq_getElem_cons h]
  rfl
noncomputable def sRi (p : Pln) (last : Int) (seen : List Stp) (i : Nat) : DS := ⟨[(3, .int .i64 last), (4, .map 0), (13, encP p), (14, .int .i64 (p.length : Int)), (15, .int .i64 (i : Int)), (2, .bool false)], [], [.map (encM seen)], mR 0⟩
noncomputable def sRj (p : Pln) (last : Int) (seen : List Stp) (l : List Stp) (i j : Nat) : DS := ⟨[(3, .int .i64 last), (4, .map 0), (13, encP p), (14, .int .i64 (p.length : Int)), (15, .int .i64 (i : Int)), (50, .list .imm (l.map rowS)), (51, .int .i64 (l.length : Int)), (52, .int .i64 (j : Int)), (2, .bool false)], [], [.map (encM seen)], mR 0⟩
set_option maxHeartbeats 8000000 in
theorem c_plan_Right_1 (p : Pln) : Tri Try.prog 19 0 [encP p] [] (fun d k => d = .bool (rightP p) ∧ (k = [] ∨ ∃ es, k = [.map es])) := by
  refine Tri.walk2 (L := LT) (c := {n := 78, ko := [2]}) [] [0, 2, 3, 4, 6, 8, 11, 13, 14, 15, 16, 46, 50, 51, 52, 53, 69] hLT hmix Try.func19 rfl rfl ⟨rfl, rfl⟩ (by show 1 ≤ 78; decide) (by first | exact Nat.zero_le _ | exact Nat.le_refl _ | decide) ?_
  unfold rightP
  refine And.intro (fun h0 => ?_) (fun h0 => ?_)
  · have h0 : ((p.map rowR).length : Int) > 8 := of_decide_eq_true h0
    rw [List.length_map] at h0
    rw [decide_eq_false (show ¬ p.length ≤ 8 by omega)]
    exact And.intro rfl (.inl rfl)
  · have h0 : ¬ ((p.map rowR).length : Int) > 8 := of_decide_eq_false h0
    rw [List.length_map] at h0
    have hp8 : p.length ≤ 8 := by omega
    rw [decide_eq_true hp8, Bool.true_and]
    show Ok _ _ _ _ _
    refine Ok.loopN hLT hmix [] [0, 2, 3, 4, 6, 8, 11, 13, 14, 15, 16, 46, 50, 51, 52, 53, 69] [3,4,13,14,15,2] [] (fun n s => ∃ (i : Nat) (last : Int) (seen : List Stp), n = p.length - i ∧ i ≤ p.length ∧ rightG last seen (p.drop i) = rightG 0 [] p ∧ s = sRi p last seen i) (n := p.length) ⟨0, 0, [], rfl, Nat.zero_le _, rfl, by unfold sRi; rw [← List.length_map (f := rowR)]; rfl⟩ ?_
    rintro n s ⟨i, last, seen, rfl, hi, hix, rfl⟩
    refine And.intro (fun h1 => ?_) (fun h1 => ?_)
    · have h1 : ((i : Nat) : Int) < (p.length : Int) := of_decide_eq_true h1
      have hw := wrap_succ (i := i) (n := p.length) (by omega) (by omega)
      rw [rightG_at (by omega)] at hix
      refine ⟨(p).map rowR, rowR ((p)[i]'(by omega)), rfl, by omega, row_at' rowR (p) (by omega) (by omega), rfl, of_decide_eq_true rfl, ?_⟩
      generalize p[i] = r at hix ⊢
      have bad : ¬ hdOK last r → false = rightG 0 [] p := fun h => by rw [← hix, decide_eq_false h]; rfl
      refine And.intro (fun q1 => ?_) (fun q1 => ?_)
      · repeat (first | refine And.intro (fun _ => ?_) (fun h => Bool.noConfusion h) | refine And.intro (fun h => Bool.noConfusion h) (fun _ => ?_))
        exact And.intro (congrArg D.bool (bad (fun h => absurd (of_decide_eq_true q1) (by exact Int.not_le.2 h.1)))) (.inr ⟨_, rfl⟩)
      repeat (first | refine And.intro (fun _ => ?_) (fun h => Bool.noConfusion h) | refine And.intro (fun h => Bool.noConfusion h) (fun _ => ?_))
      have q1 := of_decide_eq_false q1
      refine And.intro (fun q2 => ?_) (fun q2 => ?_)
      · repeat (first | refine And.intro (fun _ => ?_) (fun h => Bool.noConfusion h) | refine And.intro (fun h => Bool.noConfusion h) (fun _ => ?_))
        exact And.intro (congrArg D.bool (bad (fun h => absurd (of_decide_eq_true q2) (by exact Int.not_lt.2 h.2.1)))) (.inr ⟨_, rfl⟩)
      repeat (first | refine And.intro (fun _ => ?_) (fun h => Bool.noConfusion h) | refine And.intro (fun h => Bool.noConfusion h) (fun _ => ?_))
      have q2 := of_decide_eq_false q2
      refine And.intro (fun q3 => ?_) (fun q3 => ?_)
      · repeat (first | refine And.intro (fun _ => ?_) (fun h => Bool.noConfusion h) | refine And.intro (fun h => Bool.noConfusion h) (fun _ => ?_))
        exact And.intro (congrArg D.bool (bad (fun h => absurd (of_decide_eq_true q3) (by rw [List.length_map]; have := h.2.2.1; omega)))) (.inr ⟨_, rfl⟩)
      repeat (first | refine And.intro (fun _ => ?_) (fun h => Bool.noConfusion h) | refine And.intro (fun h => Bool.noConfusion h) (fun _ => ?_))
      have q3 := of_decide_eq_false q3
      refine And.intro (fun q4 => ?_) (fun q4 => ?_)
      · repeat (first | refine And.intro (fun _ => ?_) (fun h => Bool.noConfusion h) | refine And.intro (fun h => Bool.noConfusion h) (fun _ => ?_))
        exact And.intro (congrArg D.bool (bad (fun h => absurd (of_decide_eq_true q4) (by exact Int.not_lt.2 h.2.2.2.1)))) (.inr ⟨_, rfl⟩)
      repeat (first | refine And.intro (fun _ => ?_) (fun h => Bool.noConfusion h) | refine And.intro (fun h => Bool.noConfusion h) (fun _ => ?_))
      have q4 := of_decide_eq_false q4
      refine And.intro (fun q5 => ?_) (fun q5 => ?_)
      · repeat (first | refine And.intro (fun _ => ?_) (fun h => Bool.noConfusion h) | refine And.intro (fun h => Bool.noConfusion h) (fun _ => ?_))
        exact And.intro (congrArg D.bool (bad (fun h => absurd (of_decide_eq_true q5) (by rw [List.length_map]; exact Int.not_lt.2 h.2.2.2.2)))) (.inr ⟨_, rfl⟩)
      repeat (first | refine And.intro (fun _ => ?_) (fun h => Bool.noConfusion h) | refine And.intro (fun h => Bool.noConfusion h) (fun _ => ?_))
      have q5 := of_decide_eq_false q5
      rw [List.length_map] at q3 q5
      have hok : hdOK last r := ⟨by omega, by omega, by omega, by omega, by omega⟩
      rw [decide_eq_true hok, Bool.true_and] at hix
      show Ok _ _ _ _ _
      refine Ok.loopN hLT hmix [] [0, 2, 3, 4, 6, 8, 11, 13, 14, 15, 16, 46, 50, 51, 52, 53, 69] [3,4,13,14,15,50,51,52,2] [] (fun n s => ∃ (j : Nat), n = r.st.length - j ∧ j ≤ r.st.length ∧ (stOK (seen ++ r.st.take j) (r.st.drop j) && rightG r.drv (seen ++ r.st) (p.drop (i + 1))) = rightG 0 [] p ∧ s = sRj p r.drv (seen ++ r.st.take j) r.st i j) (n := r.st.length) ⟨0, rfl, Nat.zero_le _, by rw [List.take_zero, List.append_nil]; exact hix, by rw [List.take_zero, List.append_nil]; unfold sRj; rw [← List.length_map (f := rowS)]; rfl⟩ ?_
      rintro n s ⟨j, rfl, hj, hjx, rfl⟩
      refine And.intro (fun g1 => ?_) (fun g1 => ?_)
      · have g1 : ((j : Nat) : Int) < (r.st.length : Int) := of_decide_eq_true g1
        have hwj := wrap_succ (i := j) (n := r.st.length) (by omega) (by omega)
        rw [stOK_at (by omega)] at hjx
        have htk : seen ++ r.st.take (j + 1) = seen ++ r.st.take j ++ [r.st[j]] := by
          rw [List.append_assoc, List.take_succ_eq_append_getElem (by omega)]
        rw [htk] at hjx
        refine ⟨(r.st).map rowS, rowS ((r.st)[j]'(by omega)), rfl, by omega, row_at' rowS (r.st) (by omega) (by omega), rfl, of_decide_eq_true rfl, ?_⟩
        generalize r.st[j] = x at hjx htk ⊢
        generalize seen ++ r.st.take j = sn at hjx htk ⊢
        have badx : ¬ (1 ≤ x.ord ∧ x.ord ≤ 1000000 ∧ x ∉ sn) → false = rightG 0 [] p := fun h => by rw [← hjx, decide_eq_false h]; rfl
        refine And.intro (fun w1 => ?_) (fun w1 => ?_)
        · repeat (first | refine And.intro (fun _ => ?_) (fun h => Bool.noConfusion h) | refine And.intro (fun h => Bool.noConfusion h) (fun _ => ?_))
          exact And.intro (congrArg D.bool (badx (fun h => absurd (of_decide_eq_true w1) (by have := h.1; omega)))) (.inr ⟨_, rfl⟩)
        repeat (first | refine And.intro (fun _ => ?_) (fun h => Bool.noConfusion h) | refine And.intro (fun h => Bool.noConfusion h) (fun _ => ?_))
        have w1 := of_decide_eq_false w1
        refine And.intro (fun w2 => ?_) (fun w2 => ?_)
        · repeat (first | refine And.intro (fun _ => ?_) (fun h => Bool.noConfusion h) | refine And.intro (fun h => Bool.noConfusion h) (fun _ => ?_))
          exact And.intro (congrArg D.bool (badx (fun h => absurd (of_decide_eq_true w2) (by have := h.2.1; omega)))) (.inr ⟨_, rfl⟩)
        repeat (first | refine And.intro (fun _ => ?_) (fun h => Bool.noConfusion h) | refine And.intro (fun h => Bool.noConfusion h) (fun _ => ?_))
        have w2 := of_decide_eq_false w2
        refine And.intro rfl ⟨_, findM x sn, ?_⟩
        by_cases hm : x ∈ sn
        · rw [if_pos hm]
          repeat (first | refine And.intro (fun _ => ?_) (fun h => Bool.noConfusion h) | refine And.intro (fun h => Bool.noConfusion h) (fun _ => ?_))
          exact And.intro (congrArg D.bool (badx (fun h => h.2.2 hm))) (.inr ⟨_, rfl⟩)
        · rw [if_neg hm]
          repeat (first | refine And.intro (fun _ => ?_) (fun h => Bool.noConfusion h) | refine And.intro (fun h => Bool.noConfusion h) (fun _ => ?_))
          have hxok : 1 ≤ x.ord ∧ x.ord ≤ 1000000 ∧ x ∉ sn := ⟨by omega, by omega, hm⟩
          rw [decide_eq_true hxok, Bool.true_and] at hjx
          refine ⟨⟨63, [0, 0, 3, 4, 3, 16, 63], [1, 2, 7, 15, 19, 51, 127]⟩, by kernel_rfl, ?_⟩
          refine And.intro rfl ⟨_, findM x sn, ?_⟩
          rw [if_neg hm]
          refine And.intro rfl ?_
          refine And.intro ?_ trivial
          refine mapEntry_new rfl rfl rfl rfl rfl rfl rfl (findM_no hm) rfl ?_
          refine And.intro (And.intro ⟨rfl, rfl⟩ (And.intro ⟨rfl, _, findM_new hm, And.intro rfl (And.intro rfl rfl)⟩ trivial)) ?_
          refine And.intro ?_ trivial
          refine entryStore_any rfl rfl rfl rfl rfl rfl List.getElem?_concat_length ?_
          refine And.intro trivial ?_
          refine ⟨r.st.length - (j + 1), by omega, j + 1, rfl, by omega, by rw [htk]; exact hjx, ?_⟩
          unfold sRj
          rw [htk, ← encM_snoc, ← hwj]
          rfl
      · have g1 : ¬ ((j : Nat) : Int) < (r.st.length : Int) := of_decide_eq_false g1
        rw [List.drop_eq_nil_of_le (by omega)] at hjx
        have hjx : rightG r.drv (seen ++ r.st) (p.drop (i + 1)) = rightG 0 [] p := hjx
        rw [List.take_of_length_le (by omega)]
        refine ⟨p.length - (i + 1), by omega, i + 1, r.drv, seen ++ r.st, rfl, by omega, hjx, ?_⟩
        unfold sRi
        rw [← hw]
        rfl
    · have h1 : ¬ ((i : Nat) : Int) < (p.length : Int) := of_decide_eq_false h1
      rw [List.drop_eq_nil_of_le (by omega)] at hix
      rw [← hix]
      exact And.intro rfl (.inr ⟨_, rfl⟩)
theorem c_plan_Right_0 (p : Pln) : Tri Try.prog 19 0 [encP p] [] (fun d k => d = .bool (rightP p) ∧ k = []) :=
  Tri.forget (c_plan_Right_1 p) (fun d l h _ => ⟨0, Nat.zero_le _, Nat.zero_le _, by rw [h.1]; exact .bool _, fun o ho => absurd ho (by simp), h.1, rfl⟩)
theorem c_plan_Right (p : Pln) {r : Nat} {sto : List Ob} (hr : r ≤ sto.length) : Tri Try.prog 19 r [encP p] sto (fun d k => d = .bool (rightP p) ∧ k = sto) :=
  (c_plan_Right_0 p).pure rfl (nrBL_P rfl) rfl rfl hr
noncomputable def sTi (p : Pln) (seen : List Stp) (sz i : Nat) : DS := ⟨[(0, encP p), (3, .list (.own sz) (seen.map rowS)), (4, .int .i64 (i : Int)), (2, .bool false)], [], [], mR 0⟩
noncomputable def sTk (p : Pln) (r : Rte) (seen : List Stp) (sz i k : Nat) : DS := ⟨[(0, encP p), (3, .list (.own sz) (seen.map rowS)), (4, .int .i64 (i : Int)), (5, .lptr 5 0 0), (6, .int .i64 (k : Int)), (2, .bool false)], [(5, rowR r)], [], mR 0⟩
noncomputable def sTj (p : Pln) (r : Rte) (s : Stp) (seen : List Stp) (sz i k j : Nat) : DS := ⟨[(0, encP p), (3, .list (.own sz) (seen.map rowS)), (4, .int .i64 (i : Int)), (5, .lptr 5 0 0), (6, .int .i64 (k : Int)), (7, .lptr 7 0 0), (8, .int .i64 (j : Int)), (2, .bool false)], [(5, rowR r), (7, rowS s)], [], mR 0⟩
noncomputable def lastP (p : Pln) (i : Nat) : Int := if h : 0 < i ∧ i - 1 < p.length then p[i - 1].drv else 0
theorem lastP_succ {p : Pln} {i : Nat} (h : i < p.length) : lastP p (i + 1) = p[i].drv := by
  unfold lastP
  rw [dif_pos ⟨by omega, by omega⟩]
  rfl
set_option maxHeartbeats 8000000 in
theorem c_drayref9_Right_0 (p : Pln) : Tri Try.prog 23 0 [encP p] [] (fun d k => d = .bool (rightP p) ∧ k = []) := by
  refine Tri.walk2 (L := LT) (c := {n := 100, ko := [2, 3], xf := [96]}) [] [0, 2, 3, 4, 5, 6, 7, 8, 11, 15, 63, 68, 83, 87, 95] hLT hmix Try.func23 rfl rfl ⟨rfl, rfl⟩ (by show 1 ≤ 100; decide) (by first | exact Nat.zero_le _ | exact Nat.le_refl _ | decide) ?_
  unfold rightP
  refine And.intro (fun h0 => ?_) (fun h0 => ?_)
  · have h0 : ((p.map rowR).length : Int) > 8 := of_decide_eq_true h0
    rw [List.length_map] at h0
    rw [decide_eq_false (show ¬ p.length ≤ 8 by omega)]
    exact And.intro rfl rfl
  have h0 : ¬ ((p.map rowR).length : Int) > 8 := of_decide_eq_false h0
  rw [List.length_map] at h0
  have hp8 : p.length ≤ 8 := by omega
  rw [decide_eq_true hp8, Bool.true_and]
  show Ok _ _ _ _ _
  refine Ok.loopN hLT hmix [] [0, 2, 3, 4, 5, 6, 7, 8, 11, 15, 63, 68, 83, 87, 95] [0,3,4,2] [] (fun n s => ∃ (i sz : Nat) (seen : List Stp), n = p.length - i ∧ i ≤ p.length ∧ (sz = 0 ∨ sz = 2) ∧ seen.length ≤ 80 * i ∧ 0 ≤ lastP p i ∧ rightG (lastP p i) seen (p.drop i) = rightG 0 [] p ∧ s = sTi p seen sz i) (n := p.length) ⟨0, 0, [], rfl, Nat.zero_le _, .inl rfl, Nat.zero_le _, Int.le_refl 0, rfl, rfl⟩ ?_
  rintro n s ⟨i, sz, seen, rfl, hi, hsz, hsl, hla, hix, rfl⟩
  refine And.intro (fun h1 => ?_) (fun h1 => ?_)
  · have h1 : ((i : Nat) : Int) < ((p.map rowR).length : Int) := of_decide_eq_true h1
    rw [List.length_map] at h1
    have hw := wrap_succ (i := i) (n := p.length) (by omega) (by omega)
    rw [rightG_at (by omega)] at hix
    have hls := lastP_succ (p := p) (i := i) (by omega)
    refine ⟨(p).map rowR, rowR ((p)[i]'(by omega)), rfl, by omega, row_at' rowR (p) (by omega) (by omega), rfl, of_decide_eq_true rfl, ?_⟩
    generalize p[i] = r at hix hls ⊢
    have bad : ¬ hdOK (lastP p i) r → false = rightG 0 [] p := fun h => by rw [← hix, decide_eq_false h]; rfl
    refine ⟨⟨4398046511103, [0, 1, 2, 4, 8, 24, 40, 72, 136, 256, 768, 1280, 2048, 2048, 10240, 22528, 34816, 67584, 2048, 264192, 657408, 1050880, 2097408, 4196352, 8388608, 25165824, 41943040, 75497472, 142606336, 276824064, 536870912, 1610612736, 2684354560, 4831838208, 9126805504, 17179869184, 51539607552, 17179869184, 154618822656, 292057776128, 635655159808, 1116691496960], [1, 3, 7, 15, 31, 63, 127, 255, 511, 1023, 2047, 4095, 8191, 12287, 28671, 65535, 131071, 262143, 266239, 790527, 2097151, 4194303, 8388607, 16777215, 33554431, 67108863, 134217727, 268435455, 536870911, 1073741823, 2147483647, 4294967295, 8589934591, 17179869183, 34359738367, 68719476735, 137438953471, 171798691839, 446676598783, 996432412671, 2199023255551, 4398046511103]⟩, by kernel_rfl, ?_⟩
    refine And.intro (fun q1 => ?_) (fun q1 => ?_)
    · repeat (first | refine And.intro (fun _ => ?_) (fun h => Bool.noConfusion h) | refine And.intro (fun h => Bool.noConfusion h) (fun _ => ?_))
      exact And.intro (congrArg D.bool (bad (fun h => absurd (of_decide_eq_true q1) (by have := h.1; omega)))) rfl
    repeat (first | refine And.intro (fun _ => ?_) (fun h => Bool.noConfusion h) | refine And.intro (fun h => Bool.noConfusion h) (fun _ => ?_))
    have q1 := of_decide_eq_false q1
    refine And.intro (fun q2 => ?_) (fun q2 => ?_)
    · repeat (first | refine And.intro (fun _ => ?_) (fun h => Bool.noConfusion h) | refine And.intro (fun h => Bool.noConfusion h) (fun _ => ?_))
      exact And.intro (congrArg D.bool (bad (fun h => absurd (of_decide_eq_true q2) (by have := h.2.1; omega)))) rfl
    repeat (first | refine And.intro (fun _ => ?_) (fun h => Bool.noConfusion h) | refine And.intro (fun h => Bool.noConfusion h) (fun _ => ?_))
    have q2 := of_decide_eq_false q2
    refine And.intro (fun q3 => ?_) (fun q3 => ?_)
    · have q3 : ((i : Nat) : Int) > 0 := of_decide_eq_true q3
      repeat (first | refine And.intro (fun _ => ?_) (fun h => Bool.noConfusion h) | refine And.intro (fun h => Bool.noConfusion h) (fun _ => ?_))
      have hwm : IntKind.i64.wrap ((i : Int) - 1) = ((i - 1 : Nat) : Int) := by
        rw [wrap64 (by omega) (by omega)]
        omega
      have hlp : lastP p i = (p[i - 1]'(by omega)).drv := by
        unfold lastP
        rw [dif_pos ⟨by omega, by omega⟩]
      refine ⟨(p).map rowR, rowR ((p)[(i-1)]'(by omega)), rfl, by omega, row_at' rowR (p) (by omega) (by omega), rfl, of_decide_eq_true rfl, ?_⟩
      refine And.intro rfl ?_
      refine And.intro (fun q4 => ?_) (fun q4 => ?_)
      · have q4 : (p[i - 1]'(by omega)).drv ≥ r.drv := of_decide_eq_true q4
        repeat (first | refine And.intro (fun _ => ?_) (fun h => Bool.noConfusion h) | refine And.intro (fun h => Bool.noConfusion h) (fun _ => ?_))
        exact And.intro (congrArg D.bool (bad (fun h => by have := h.1; omega))) rfl
      have q4 : ¬ (p[i - 1]'(by omega)).drv ≥ r.drv := of_decide_eq_false q4
      have hlt : lastP p i < r.drv := by omega
      clear hlp
      repeat (first | refine And.intro (fun _ => ?_) (fun h => Bool.noConfusion h) | refine And.intro (fun h => Bool.noConfusion h) (fun _ => ?_))
      refine And.intro (fun q5 => ?_) (fun q5 => ?_)
      · repeat (first | refine And.intro (fun _ => ?_) (fun h => Bool.noConfusion h) | refine And.intro (fun h => Bool.noConfusion h) (fun _ => ?_))
        exact And.intro (congrArg D.bool (bad (fun h => absurd (of_decide_eq_true q5) (by rw [List.length_map]; have := h.2.2.1; omega)))) rfl
      repeat (first | refine And.intro (fun _ => ?_) (fun h => Bool.noConfusion h) | refine And.intro (fun h => Bool.noConfusion h) (fun _ => ?_))
      have q5 := of_decide_eq_false q5
      refine And.intro (fun q6 => ?_) (fun q6 => ?_)
      · repeat (first | refine And.intro (fun _ => ?_) (fun h => Bool.noConfusion h) | refine And.intro (fun h => Bool.noConfusion h) (fun _ => ?_))
        exact And.intro (congrArg D.bool (bad (fun h => absurd (of_decide_eq_true q6) (by have := h.2.2.2.1; omega)))) rfl
      repeat (first | refine And.intro (fun _ => ?_) (fun h => Bool.noConfusion h) | refine And.intro (fun h => Bool.noConfusion h) (fun _ => ?_))
      have q6 := of_decide_eq_false q6
      refine And.intro (fun q7 => ?_) (fun q7 => ?_)
      · repeat (first | refine And.intro (fun _ => ?_) (fun h => Bool.noConfusion h) | refine And.intro (fun h => Bool.noConfusion h) (fun _ => ?_))
        exact And.intro (congrArg D.bool (bad (fun h => absurd (of_decide_eq_true q7) (by rw [List.length_map]; have := h.2.2.2.2; omega)))) rfl
      repeat (first | refine And.intro (fun _ => ?_) (fun h => Bool.noConfusion h) | refine And.intro (fun h => Bool.noConfusion h) (fun _ => ?_))
      have q7 := of_decide_eq_false q7
      rw [List.length_map] at q5 q7
      have hok : hdOK (lastP p i) r := ⟨hlt, by omega, by omega, by omega, by omega⟩
      rw [decide_eq_true hok, Bool.true_and] at hix
      show Ok _ _ _ _ _
      refine Ok.loopN hLT hmix [] [0, 2, 3, 4, 5, 6, 7, 8, 11, 15, 63, 68, 83, 87, 95] [0,3,4,5,6,2] [5] (fun n s => ∃ (k sz : Nat), n = r.st.length - k ∧ k ≤ r.st.length ∧ (sz = 0 ∨ sz = 2) ∧ (stOK (seen ++ r.st.take k) (r.st.drop k) && rightG r.drv (seen ++ r.st) (p.drop (i + 1))) = rightG 0 [] p ∧ s = sTk p r (seen ++ r.st.take k) sz i k) (n := r.st.length) ⟨0, sz, rfl, Nat.zero_le _, hsz, by rw [List.take_zero, List.append_nil]; exact hix, by rw [List.take_zero, List.append_nil]; rfl⟩ ?_
      rintro n s ⟨k, sz, rfl, hk, hsz, hkx, rfl⟩
      refine And.intro (fun g1 => ?_) (fun g1 => ?_)
      · have g1 : ((k : Nat) : Int) < ((r.st.map rowS).length : Int) := of_decide_eq_true g1
        rw [List.length_map] at g1
        have hwk := wrap_succ (i := k) (n := r.st.length) (by omega) (by omega)
        rw [stOK_at (by omega)] at hkx
        have htk : seen ++ r.st.take (k + 1) = seen ++ r.st.take k ++ [r.st[k]] := by
          rw [List.append_assoc, List.take_succ_eq_append_getElem (by omega)]
        have hsn : (seen ++ r.st.take k).length ≤ 800 := by
          rw [List.length_append, List.length_take]
          omega
        rw [htk] at hkx
        refine ⟨(r.st).map rowS, rowS ((r.st)[k]'(by omega)), rfl, by omega, row_at' rowS (r.st) (by omega) (by omega), rfl, of_decide_eq_true rfl, ?_⟩
        generalize r.st[k] = x at hkx htk ⊢
        generalize seen ++ r.st.take k = sn at hkx htk hsn ⊢
        have badx : ¬ (1 ≤ x.ord ∧ x.ord ≤ 1000000 ∧ x ∉ sn) → false = rightG 0 [] p := fun h => by rw [← hkx, decide_eq_false h]; rfl
        refine And.intro (fun w1 => ?_) (fun w1 => ?_)
        · repeat (first | refine And.intro (fun _ => ?_) (fun h => Bool.noConfusion h) | refine And.intro (fun h => Bool.noConfusion h) (fun _ => ?_))
          exact And.intro (congrArg D.bool (badx (fun h => absurd (of_decide_eq_true w1) (by have := h.1; omega)))) rfl
        repeat (first | refine And.intro (fun _ => ?_) (fun h => Bool.noConfusion h) | refine And.intro (fun h => Bool.noConfusion h) (fun _ => ?_))
        have w1 := of_decide_eq_false w1
        refine And.intro (fun w2 => ?_) (fun w2 => ?_)
        · repeat (first | refine And.intro (fun _ => ?_) (fun h => Bool.noConfusion h) | refine And.intro (fun h => Bool.noConfusion h) (fun _ => ?_))
          exact And.intro (congrArg D.bool (badx (fun h => absurd (of_decide_eq_true w2) (by have := h.2.1; omega)))) rfl
        repeat (first | refine And.intro (fun _ => ?_) (fun h => Bool.noConfusion h) | refine And.intro (fun h => Bool.noConfusion h) (fun _ => ?_))
        have w2 := of_decide_eq_false w2
        show Ok _ _ _ _ _
        refine Ok.loopN hLT hmix [] [0, 2, 3, 4, 5, 6, 7, 8, 11, 15, 63, 68, 83, 87, 95] [0,3,4,5,6,7,8,2] [5,7] (fun n s => ∃ (j : Nat), n = sn.length - j ∧ j ≤ sn.length ∧ x ∉ sn.take j ∧ s = sTj p r x sn sz i k j) (n := sn.length) ⟨0, rfl, Nat.zero_le _, by simp, rfl⟩ ?_
        rintro n s ⟨j, rfl, hj, hjx, rfl⟩
        refine And.intro (fun v1 => ?_) (fun v1 => ?_)
        · have v1 : ((j : Nat) : Int) < ((sn.map rowS).length : Int) := of_decide_eq_true v1
          rw [List.length_map] at v1
          have hwj := wrap_succ (i := j) (n := sn.length) (by omega) (by omega)
          refine ⟨⟨63, [0, 0, 3, 4, 0, 24], [1, 2, 7, 15, 16, 63]⟩, by kernel_rfl, ?_⟩
          refine ⟨(sn).map rowS, rowS ((sn)[j]'(by omega)), rfl, by omega, row_at' rowS (sn) (by omega) (by omega), rfl, of_decide_eq_true rfl, ?_⟩
          refine And.intro rfl ?_
          refine ⟨_, _, rfl, rfl, rfl, ?_⟩
          refine And.intro rfl ?_
          refine And.intro (fun v2 => ?_) (fun v2 => ?_)
          · have v2 := stp_eq v2
            exact And.intro (congrArg D.bool (badx (fun h => h.2.2 (by rw [← v2]; exact List.getElem_mem _)))) rfl
          · have v2 := stp_ne v2
            refine ⟨sn.length - (j + 1), by omega, j + 1, rfl, by omega, ?_, ?_⟩
            · rw [List.take_succ_eq_append_getElem (by omega), List.mem_append]
              rintro (h | h)
              · exact hjx h
              · exact v2 (List.mem_singleton.1 h).symm
            · unfold sTj
              rw [← hwj]
              rfl
        · have v1 : ¬ ((j : Nat) : Int) < ((sn.map rowS).length : Int) := of_decide_eq_false v1
          rw [List.length_map] at v1
          rw [List.take_of_length_le (by omega)] at hjx
          have hxok : 1 ≤ x.ord ∧ x.ord ≤ 1000000 ∧ x ∉ sn := ⟨by omega, by omega, hjx⟩
          rw [decide_eq_true hxok, Bool.true_and] at hkx
          refine And.intro trivial (And.intro (by rcases hsz with rfl | rfl <;> rfl) (And.intro ?_ (And.intro rfl ?_)))
          · show ((sn.map rowS).length + 1) * 16 ≤ 140737488355328
            rw [List.length_map]
            omega
          refine ⟨r.st.length - (k + 1), by omega, k + 1, 2, rfl, by omega, .inr rfl, by rw [htk]; exact hkx, ?_⟩
          unfold sTk
          rw [htk, List.map_append, ← hwk]
          rfl
      · have g1 : ¬ ((k : Nat) : Int) < ((r.st.map rowS).length : Int) := of_decide_eq_false g1
        rw [List.length_map] at g1
        rw [List.drop_eq_nil_of_le (by omega)] at hkx
        have hkx : rightG r.drv (seen ++ r.st) (p.drop (i + 1)) = rightG 0 [] p := hkx
        rw [List.take_of_length_le (by omega)]
        refine ⟨p.length - (i + 1), by omega, i + 1, sz, seen ++ r.st, rfl, by omega, hsz, by rw [List.length_append]; omega, by rw [hls]; omega, by rw [hls]; exact hkx, ?_⟩
        unfold sTi
        rw [← hw]
        rfl
    · have q3 : ¬ ((i : Nat) : Int) > 0 := of_decide_eq_false q3
      have hlt : lastP p i < r.drv := by
        unfold lastP
        rw [dif_neg (by omega)]
        omega
      repeat (first | refine And.intro (fun _ => ?_) (fun h => Bool.noConfusion h) | refine And.intro (fun h => Bool.noConfusion h) (fun _ => ?_))
      refine And.intro (fun q5 => ?_) (fun q5 => ?_)
      · repeat (first | refine And.intro (fun _ => ?_) (fun h => Bool.noConfusion h) | refine And.intro (fun h => Bool.noConfusion h) (fun _ => ?_))
        exact And.intro (congrArg D.bool (bad (fun h => absurd (of_decide_eq_true q5) (by rw [List.length_map]; have := h.2.2.1; omega)))) rfl
      repeat (first | refine And.intro (fun _ => ?_) (fun h => Bool.noConfusion h) | refine And.intro (fun h => Bool.noConfusion h) (fun _ => ?_))
      have q5 := of_decide_eq_false q5
      refine And.intro (fun q6 => ?_) (fun q6 => ?_)
      · repeat (first | refine And.intro (fun _ => ?_) (fun h => Bool.noConfusion h) | refine And.intro (fun h => Bool.noConfusion h) (fun _ => ?_))
        exact And.intro (congrArg D.bool (bad (fun h => absurd (of_decide_eq_true q6) (by have := h.2.2.2.1; omega)))) rfl
      repeat (first | refine And.intro (fun _ => ?_) (fun h => Bool.noConfusion h) | refine And.intro (fun h => Bool.noConfusion h) (fun _ => ?_))
      have q6 := of_decide_eq_false q6
      refine And.intro (fun q7 => ?_) (fun q7 => ?_)
      · repeat (first | refine And.intro (fun _ => ?_) (fun h => Bool.noConfusion h) | refine And.intro (fun h => Bool.noConfusion h) (fun _ => ?_))
        exact And.intro (congrArg D.bool (bad (fun h => absurd (of_decide_eq_true q7) (by rw [List.length_map]; have := h.2.2.2.2; omega)))) rfl
      repeat (first | refine And.intro (fun _ => ?_) (fun h => Bool.noConfusion h) | refine And.intro (fun h => Bool.noConfusion h) (fun _ => ?_))
      have q7 := of_decide_eq_false q7
      rw [List.length_map] at q5 q7
      have hok : hdOK (lastP p i) r := ⟨hlt, by omega, by omega, by omega, by omega⟩
      rw [decide_eq_true hok, Bool.true_and] at hix
      show Ok _ _ _ _ _
      refine Ok.loopN hLT hmix [] [0, 2, 3, 4, 5, 6, 7, 8, 11, 15, 63, 68, 83, 87, 95] [0,3,4,5,6,2] [5] (fun n s => ∃ (k sz : Nat), n = r.st.length - k ∧ k ≤ r.st.length ∧ (sz = 0 ∨ sz = 2) ∧ (stOK (seen ++ r.st.take k) (r.st.drop k) && rightG r.drv (seen ++ r.st) (p.drop (i + 1))) = rightG 0 [] p ∧ s = sTk p r (seen ++ r.st.take k) sz i k) (n := r.st.length) ⟨0, sz, rfl, Nat.zero_le _, hsz, by rw [List.take_zero, List.append_nil]; exact hix, by rw [List.take_zero, List.append_nil]; rfl⟩ ?_
      rintro n s ⟨k, sz, rfl, hk, hsz, hkx, rfl⟩
      refine And.intro (fun g1 => ?_) (fun g1 => ?_)
      · have g1 : ((k : Nat) : Int) < ((r.st.map rowS).length : Int) := of_decide_eq_true g1
        rw [List.length_map] at g1
        have hwk := wrap_succ (i := k) (n := r.st.length) (by omega) (by omega)
        rw [stOK_at (by omega)] at hkx
        have htk : seen ++ r.st.take (k + 1) = seen ++ r.st.take k ++ [r.st[k]] := by
          rw [List.append_assoc, List.take_succ_eq_append_getElem (by omega)]
        have hsn : (seen ++ r.st.take k).length ≤ 800 := by
          rw [List.length_append, List.length_take]
          omega
        rw [htk] at hkx
        refine ⟨(r.st).map rowS, rowS ((r.st)[k]'(by omega)), rfl, by omega, row_at' rowS (r.st) (by omega) (by omega), rfl, of_decide_eq_true rfl, ?_⟩
        generalize r.st[k] = x at hkx htk ⊢
        generalize seen ++ r.st.take k = sn at hkx htk hsn ⊢
        have badx : ¬ (1 ≤ x.ord ∧ x.ord ≤ 1000000 ∧ x ∉ sn) → false = rightG 0 [] p := fun h => by rw [← hkx, decide_eq_false h]; rfl
        refine And.intro (fun w1 => ?_) (fun w1 => ?_)
        · repeat (first | refine And.intro (fun _ => ?_) (fun h => Bool.noConfusion h) | refine And.intro (fun h => Bool.noConfusion h) (fun _ => ?_))
          exact And.intro (congrArg D.bool (badx (fun h => absurd (of_decide_eq_true w1) (by have := h.1; omega)))) rfl
        repeat (first | refine And.intro (fun _ => ?_) (fun h => Bool.noConfusion h) | refine And.intro (fun h => Bool.noConfusion h) (fun _ => ?_))
        have w1 := of_decide_eq_false w1
        refine And.intro (fun w2 => ?_) (fun w2 => ?_)
        · repeat (first | refine And.intro (fun _ => ?_) (fun h => Bool.noConfusion h) | refine And.intro (fun h => Bool.noConfusion h) (fun _ => ?_))
          exact And.intro (congrArg D.bool (badx (fun h => absurd (of_decide_eq_true w2) (by have := h.2.1; omega)))) rfl
        repeat (first | refine And.intro (fun _ => ?_) (fun h => Bool.noConfusion h) | refine And.intro (fun h => Bool.noConfusion h) (fun _ => ?_))
        have w2 := of_decide_eq_false w2
        show Ok _ _ _ _ _
        refine Ok.loopN hLT hmix [] [0, 2, 3, 4, 5, 6, 7, 8, 11, 15, 63, 68, 83, 87, 95] [0,3,4,5,6,7,8,2] [5,7] (fun n s => ∃ (j : Nat), n = sn.length - j ∧ j ≤ sn.length ∧ x ∉ sn.take j ∧ s = sTj p r x sn sz i k j) (n := sn.length) ⟨0, rfl, Nat.zero_le _, by simp, rfl⟩ ?_
        rintro n s ⟨j, rfl, hj, hjx, rfl⟩
        refine And.intro (fun v1 => ?_) (fun v1 => ?_)
        · have v1 : ((j : Nat) : Int) < ((sn.map rowS).length : Int) := of_decide_eq_true v1
          rw [List.length_map] at v1
          have hwj := wrap_succ (i := j) (n := sn.length) (by omega) (by omega)
          refine ⟨⟨63, [0, 0, 3, 4, 0, 24], [1, 2, 7, 15, 16, 63]⟩, by kernel_rfl, ?_⟩
          refine ⟨(sn).map rowS, rowS ((sn)[j]'(by omega)), rfl, by omega, row_at' rowS (sn) (by omega) (by omega), rfl, of_decide_eq_true rfl, ?_⟩
          refine And.intro rfl ?_
          refine ⟨_, _, rfl, rfl, rfl, ?_⟩
          refine And.intro rfl ?_
          refine And.intro (fun v2 => ?_) (fun v2 => ?_)
          · have v2 := stp_eq v2
            exact And.intro (congrArg D.bool (badx (fun h => h.2.2 (by rw [← v2]; exact List.getElem_mem _)))) rfl
          · have v2 := stp_ne v2
            refine ⟨sn.length - (j + 1), by omega, j + 1, rfl, by omega, ?_, ?_⟩
            · rw [List.take_succ_eq_append_getElem (by omega), List.mem_append]
              rintro (h | h)
              · exact hjx h
              · exact v2 (List.mem_singleton.1 h).symm
            · unfold sTj
              rw [← hwj]
              rfl
        · have v1 : ¬ ((j : Nat) : Int) < ((sn.map rowS).length : Int) := of_decide_eq_false v1
          rw [List.length_map] at v1
          rw [List.take_of_length_le (by omega)] at hjx
          have hxok : 1 ≤ x.ord ∧ x.ord ≤ 1000000 ∧ x ∉ sn := ⟨by omega, by omega, hjx⟩
          rw [decide_eq_true hxok, Bool.true_and] at hkx
          refine And.intro trivial (And.intro (by rcases hsz with rfl | rfl <;> rfl) (And.intro ?_ (And.intro rfl ?_)))
          · show ((sn.map rowS).length + 1) * 16 ≤ 140737488355328
            rw [List.length_map]
            omega
          refine ⟨r.st.length - (k + 1), by omega, k + 1, 2, rfl, by omega, .inr rfl, by rw [htk]; exact hkx, ?_⟩
          unfold sTk
          rw [htk, List.map_append, ← hwk]
          rfl
      · have g1 : ¬ ((k : Nat) : Int) < ((r.st.map rowS).length : Int) := of_decide_eq_false g1
        rw [List.length_map] at g1
        rw [List.drop_eq_nil_of_le (by omega)] at hkx
        have hkx : rightG r.drv (seen ++ r.st) (p.drop (i + 1)) = rightG 0 [] p := hkx
        rw [List.take_of_length_le (by omega)]
        refine ⟨p.length - (i + 1), by omega, i + 1, sz, seen ++ r.st, rfl, by omega, hsz, by rw [List.length_append]; omega, by rw [hls]; omega, by rw [hls]; exact hkx, ?_⟩
        unfold sTi
        rw [← hw]
        rfl
  · have h1 : ¬ ((i : Nat) : Int) < ((p.map rowR).length : Int) := of_decide_eq_false h1
    rw [List.length_map] at h1
    rw [List.drop_eq_nil_of_le (by omega)] at hix
    rw [← hix]
    exact And.intro rfl rfl
theorem c_drayref9_Right (p : Pln) {r : Nat} {sto : List Ob} (hr : r ≤ sto.length) : Tri Try.prog 23 r [encP p] sto (fun d k => d = .bool (rightP p) ∧ k = sto) :=
  (c_drayref9_Right_0 p).pure rfl (nrBL_P rfl) rfl rfl hr
end Go.Lv

namespace Go.Lv
open Go.Proofs

/-! ### Strictly rising lists -/
theorem strict_ext : ∀ {l m : List Int}, l.Pairwise (· < ·) → m.Pairwise (· < ·) → (∀ x, x ∈ l ↔ x ∈ m) → l = m
  | [], [], _, _, _ => rfl
  | [], y :: m, _, _, h => absurd ((h y).2 (by simp)) (by simp)
  | x :: l, [], _, _, h => absurd ((h x).1 (by simp)) (by simp)
  | x :: l, y :: m, hl, hm, h => by
    rw [List.pairwise_cons] at hl hm
    have hxy : x = y := by
      rcases List.mem_cons.1 ((h x).1 (by simp)) with e | h1
      · exact e
      · rcases List.mem_cons.1 ((h y).2 (by simp)) with e | h2
        · exact e.symm
        · have := hm.1 x h1
          have := hl.1 y h2
          omega
    subst hxy
    rw [strict_ext hl.2 hm.2 fun z => ?_]
    constructor
    · intro hz
      rcases List.mem_cons.1 ((h z).1 (by simp [hz])) with e | h1
      · have := hl.1 z hz; omega
      · exact h1
    · intro hz
      rcases List.mem_cons.1 ((h z).2 (by simp [hz])) with e | h1
      · have := hm.1 z hz; omega
      · exact h1
theorem compact_upto {zs : List Int} (hs : zs.Pairwise (· ≤ ·)) : ∀ m, m ≤ zs.length → (Lib.compactUpTo zs.toArray m).Pairwise (· < ·) ∧ (∀ x, x ∈ Lib.compactUpTo zs.toArray m ↔ x ∈ zs.take m)
  | 0, _ => by simp [Lib.compactUpTo]
  | m + 1, hm => by
    obtain ⟨h1, h2⟩ := compact_upto hs m (by omega)
    rw [Lib.compactUpTo_succ]
    have hd : zs.toArray[m]! = zs[m] := by simp [getElem!_def, show m < zs.length by omega]
    have hle : ∀ x, x ∈ zs.take m → x ≤ zs[m] := fun x hx => by
      obtain ⟨j, hj, rfl⟩ := List.mem_iff_getElem.1 hx
      rw [List.length_take] at hj
      rw [List.getElem_take]
      exact List.pairwise_iff_getElem.1 hs j m (by omega) (by omega) (by omega)
    rw [List.take_succ_eq_append_getElem (by omega)]
    cases hk : Lib.keeps zs.toArray m with
    | true =>
      rw [if_pos rfl, hd]
      have hlt : ∀ x, x ∈ zs.take m → x < zs[m] := fun x hx => by
        have h3 := hle x hx
        rcases Int.lt_or_eq_of_le h3 with h | h
        · exact h
        · exfalso
          have h0 : 0 < m := by
            rcases Nat.eq_zero_or_pos m with e | e
            · subst e; simp at hx
            · exact e
          have hd1 : zs.toArray[m - 1]! = zs[m - 1] := by simp [getElem!_def, show m - 1 < zs.length by omega]
          have hne : zs[m] ≠ zs[m - 1] := by
            intro e
            rw [Lib.keeps_neg h0 (by rw [hd, hd1]; exact e)] at hk
            cases hk
          obtain ⟨j, hj, e⟩ := List.mem_iff_getElem.1 hx
          rw [List.length_take] at hj
          rw [List.getElem_take] at e
          have h5 : zs[m - 1] ≤ zs[m] := List.pairwise_iff_getElem.1 hs (m - 1) m (by omega) (by omega) (by omega)
          have h6 : zs[j] ≤ zs[m - 1] := by
            rcases Nat.lt_or_ge j (m - 1) with q | q
            · exact List.pairwise_iff_getElem.1 hs j (m - 1) (by omega) (by omega) q
            · have : j = m - 1 := by omega
              subst this
              exact Int.le_refl _
          omega
      refine ⟨List.pairwise_append.2 ⟨h1, by simp, fun x hx y hy => ?_⟩, fun x => by simp only [List.mem_append, h2, List.mem_singleton]⟩
      rw [List.mem_singleton.1 hy]
      exact hlt x ((h2 x).1 hx)
    | false =>
      rw [if_neg (by simp), List.append_nil]
      refine ⟨h1, fun x => ?_⟩
      rw [h2]
      have h0 : 0 < m ∧ zs[m] = zs[m - 1] := by
        refine Classical.byContradiction fun hn => ?_
        have : Lib.keeps zs.toArray m = true := by
          rcases Nat.eq_zero_or_pos m with e | e
          · subst e; exact Lib.keeps_lt_one _ 0 (by omega)
          · refine Lib.keeps_pos ?_
            have hd1 : zs.toArray[m - 1]! = zs[m - 1] := by simp [getElem!_def, show m - 1 < zs.length by omega]
            rw [hd, hd1]
            exact fun q => hn ⟨e, q⟩
        rw [this] at hk
        cases hk
      have hm1 : zs[m - 1] ∈ zs.take m := List.mem_iff_getElem.2 ⟨m - 1, by rw [List.length_take]; omega, by rw [List.getElem_take]⟩
      simp only [List.mem_append, List.mem_singleton]
      constructor
      · exact .inl
      · rintro (h | h)
        · exact h
        · rw [h, h0.2]; exact hm1
theorem compact_sorted {zs : List Int} (hs : zs.Pairwise (· ≤ ·)) : (Lib.compact zs).Pairwise (· < ·) ∧ (∀ x, x ∈ Lib.compact zs ↔ x ∈ zs) := by
  have := compact_upto hs zs.length (Nat.le_refl _)
  rw [List.take_length] at this
  exact this
noncomputable def allO (p : Pln) : List Int := (p.map fun r => r.st.map Stp.ord).flatten
/-- The orders that have a stop, rising. -/
noncomputable def ordP (p : Pln) : List Int := Lib.compact (sortI (allO p))
theorem ordP_strict (p : Pln) : (ordP p).Pairwise (· < ·) := (compact_sorted (sortI_sorted _)).1
theorem ordP_mem (p : Pln) (x : Int) : x ∈ ordP p ↔ x ∈ allO p := by
  unfold ordP
  rw [(compact_sorted (sortI_sorted _)).2, (sortI_perm _).mem_iff]
theorem allO_take {p : Pln} {i : Nat} (h : i < p.length) : allO (p.take (i + 1)) = allO (p.take i) ++ p[i].st.map Stp.ord := by
  unfold allO
  rw [List.take_succ_eq_append_getElem h, List.map_append, List.flatten_append]
  simp
theorem allO_le {p : Pln} (i : Nat) : (allO (p.take i)).length ≤ (allO p).length := by
  have : allO p = allO (p.take i) ++ allO (p.drop i) := by
    unfold allO
    rw [← List.flatten_append, ← List.map_append, List.take_append_drop]
  rw [this, List.length_append]
  omega
theorem intsOf_rows : ∀ l : List Int, intsOf (l.map rowI) = some l
  | [] => rfl
  | x :: l => by
    have ih := intsOf_rows l
    simp only [List.map_cons, intsOf, rowI, intOf] at ih ⊢
    rw [ih]
    rfl
noncomputable def sOi (p : Pln) (acc : List Int) (sz i : Nat) : DS := ⟨[(3, .list (.own sz) (acc.map rowI)), (8, encP p), (9, .int .i64 (p.length : Int)), (10, .int .i64 (i : Int)), (2, .list (.own 0) [])], [], [], mR 0⟩
noncomputable def sOj (p : Pln) (l : List Stp) (acc : List Int) (sz i j : Nat) : DS := ⟨[(3, .list (.own sz) (acc.map rowI)), (8, encP p), (9, .int .i64 (p.length : Int)), (10, .int .i64 (i : Int)), (15, .list .imm (l.map rowS)), (16, .int .i64 (l.length : Int)), (17, .int .i64 (j : Int)), (2, .list (.own 0) [])], [], [], mR 0⟩
noncomputable def ordR (p : Pln) (d : D) : Prop := ∃ sz, d = .list (.own sz) ((ordP p).map rowI)
set_option maxHeartbeats 8000000 in
theorem c_plan_Orders_0 (p : Pln) (hp : szP p) (htot : (allO p).length ≤ 4000000000000) : Tri Try.prog 13 0 [encP p] [] (fun d k => ordR p d ∧ k = []) := by
  refine Tri.walk2 (L := LT) (c := {n := 32, ko := [2, 3], xf := [21, 30]}) [(36,3,[]),(37,0,[0])] [0, 2, 3, 5, 7, 8, 9, 10, 11, 15, 16, 17, 18] hLT hmix Try.func13 rfl rfl ⟨rfl, rfl⟩ (by show 1 ≤ 32; decide) (by first | exact Nat.zero_le _ | exact Nat.le_refl _ | decide) ?_
  have hlen : ((p.map rowR).length : Int) = (p.length : Int) := by rw [List.length_map]
  show Ok _ _ _ _ _
  refine Ok.loopN hLT hmix [(36,3,[]),(37,0,[0])] [0, 2, 3, 5, 7, 8, 9, 10, 11, 15, 16, 17, 18] [3,8,9,10,2] [] (fun n t => ∃ (i sz : Nat), n = p.length - i ∧ i ≤ p.length ∧ ((sz = 0 ∧ allO (p.take i) = []) ∨ sz = 1) ∧ t = sOi p (allO (p.take i)) sz i) (n := p.length) ⟨0, 0, rfl, Nat.zero_le _, .inl ⟨rfl, rfl⟩, by unfold sOi; rw [← hlen]; rfl⟩ ?_
  rintro n t ⟨i, sz, rfl, hi, hsz, rfl⟩
  refine And.intro (fun h1 => ?_) (fun h1 => ?_)
  rotate_left
  · have h1 : ¬ ((i : Nat) : Int) < (p.length : Int) := of_decide_eq_false h1
    rw [List.take_of_length_le (by omega)] at hsz ⊢
    have fin : ∀ zs : List Int, Lib.compact zs = ordP p → ∀ sz, Tri Try.prog 37 0 [.list (.own sz) (zs.map rowI)] [] (fun d k => d = .list (.own sz) ((ordP p).map rowI) ∧ k = []) ∨ zs.length > 9223372036854775807 := fun zs hz sz => by
      by_cases hl : zs.length ≤ 9223372036854775807
      · have := compC_tri compC (intsOf_rows zs) hl (r := 0) (sto := []) (sz := sz) (Nat.le_refl 0)
        rw [hz] at this
        exact .inl this
      · exact .inr (by omega)
    have hsl : (sortI (allO p)).length ≤ 4000000000000 := by rw [(sortI_perm _).length_eq]; exact htot
    rcases hsz with ⟨rfl, he⟩ | rfl
    · have hz : Lib.compact ([] : List Int) = ordP p := by unfold ordP; rw [he]; rfl
      rw [he]
      refine OpOk.turn (zs := []) sortC rfl rfl rfl rfl (fun _ => ?_) (fun h => absurd rfl h)
      refine ⟨rfl, (by first | exact Nat.zero_le _ | decide), (((fin [] hz 0).resolve_right (by simp))).mono ?_⟩
      rintro d l ⟨rfl, rfl⟩
      refine ⟨rfl, fun _ _ => rfl, rfl, ?_⟩
      exact And.intro ⟨0, rfl⟩ rfl
    · have cc := (fin (sortI (allO p)) rfl 1).resolve_right (by omega)
      refine OpOk.turn (zs := allO p) sortC rfl rfl rfl rfl (fun h => ?_) (fun h => ⟨⟨rfl, rfl⟩, rfl, by omega, ?_⟩)
      · rw [h] at cc ⊢
        refine ⟨rfl, (by first | exact Nat.zero_le _ | decide), (cc).mono ?_⟩
        rintro d l ⟨rfl, rfl⟩
        refine ⟨rfl, fun _ _ => rfl, rfl, ?_⟩
        exact And.intro ⟨1, rfl⟩ rfl
      · refine ⟨rfl, (by first | exact Nat.zero_le _ | decide), (cc).mono ?_⟩
        rintro d l ⟨rfl, rfl⟩
        refine ⟨rfl, fun _ _ => rfl, rfl, ?_⟩
        exact And.intro ⟨1, rfl⟩ rfl
  have h1 : ((i : Nat) : Int) < (p.length : Int) := of_decide_eq_true h1
  have hip : i < p.length := by omega
  have hw := wrap_succ (i := i) (n := p.length) (by omega) hp.len
  have hst := hp.st p[i] (List.getElem_mem _)
  have htk := allO_take hip
  have hle := allO_le (p := p) (i + 1)
  refine ⟨(p).map rowR, rowR ((p)[i]'(by omega)), rfl, by omega, row_at' rowR (p) (by omega) (by omega), rfl, of_decide_eq_true rfl, ?_⟩
  generalize p[i] = r at hst htk ⊢
  rw [htk] at hle
  generalize allO (p.take i) = acc at hsz htk hle ⊢
  have hls : ((r.st.map rowS).length : Int) = (r.st.length : Int) := by rw [List.length_map]
  show Ok _ _ _ _ _
  refine Ok.loopN hLT hmix [(36,3,[]),(37,0,[0])] [0, 2, 3, 5, 7, 8, 9, 10, 11, 15, 16, 17, 18] [3,8,9,10,15,16,17,2] [] (fun n t => ∃ (j sz : Nat), n = r.st.length - j ∧ j ≤ r.st.length ∧ ((sz = 0 ∧ acc ++ (r.st.take j).map Stp.ord = []) ∨ sz = 1) ∧ t = sOj p r.st (acc ++ (r.st.take j).map Stp.ord) sz i j) (n := r.st.length) ⟨0, sz, rfl, Nat.zero_le _, by rw [List.take_zero, List.map_nil, List.append_nil]; exact hsz, by rw [List.take_zero, List.map_nil, List.append_nil]; unfold sOj; rw [← hls]; rfl⟩ ?_
  rintro n t ⟨j, sz, rfl, hj, hsz, rfl⟩
  refine And.intro (fun g1 => ?_) (fun g1 => ?_)
  rotate_left
  · have g1 : ¬ ((j : Nat) : Int) < (r.st.length : Int) := of_decide_eq_false g1
    rw [List.take_of_length_le (by omega)] at hsz ⊢
    refine ⟨p.length - (i + 1), by omega, i + 1, sz, rfl, by omega, by rw [htk]; exact hsz, ?_⟩
    unfold sOi
    rw [htk, ← hw]
    rfl
  have g1 : ((j : Nat) : Int) < (r.st.length : Int) := of_decide_eq_true g1
  have hjr : j < r.st.length := by omega
  have hwj := wrap_succ (i := j) (n := r.st.length) (by omega) hst
  have hjk : acc ++ (r.st.take (j + 1)).map Stp.ord = acc ++ (r.st.take j).map Stp.ord ++ [r.st[j].ord] := by
    rw [List.take_succ_eq_append_getElem hjr, List.map_append, List.append_assoc]
    rfl
  have hcl : (acc ++ (r.st.take j).map Stp.ord).length + 1 ≤ 4000000000000 := by
    rw [List.length_append, List.length_map] at hle
    rw [List.length_append, List.length_map, List.length_take]
    omega
  refine ⟨(r.st).map rowS, rowS ((r.st)[j]'(by omega)), rfl, by omega, row_at' rowS (r.st) (by omega) (by omega), rfl, of_decide_eq_true rfl, ?_⟩
  generalize r.st[j] = x at hjk ⊢
  generalize acc ++ (r.st.take j).map Stp.ord = cs at hsz hjk hcl ⊢
  refine And.intro trivial (And.intro (show ((sz == 0 || sz == LT.size 3) && decide (0 < LT.size 3) && decide (0 < LT.bytes 3) && (LT.zero 3).isSome) = true by rcases hsz with ⟨rfl, _⟩ | rfl <;> rfl) (And.intro (show ((cs.map rowI).length + 1) * 8 ≤ 140737488355328 by rw [List.length_map]; omega) (And.intro rfl ?_)))
  refine ⟨r.st.length - (j + 1), by omega, j + 1, 1, rfl, by omega, .inr rfl, ?_⟩
  unfold sOj
  rw [hjk, ← hwj, List.map_append]
  rfl
theorem ordR_ok {p : Pln} {d : D} (h : ordR p d) : partsOK d = true ∧ nrB 0 d = true := by
  obtain ⟨sz, rfl⟩ := h
  exact ⟨rfl, nrBLL_I _⟩
end Go.Lv

namespace Go.Lv
open Go.Proofs

noncomputable def sIn (l : List Int) (n : Int) (i : Nat) : DS := ⟨[(0, .list .imm (l.map rowI)), (1, .int .i64 n), (5, .int .i64 (i : Int)), (4, .bool false)], [], [], mR 0⟩
set_option maxHeartbeats 4000000 in
theorem c_drayref9_in_0 (l : List Int) (hl : l.length ≤ 1000000000000000) (n : Int) : Tri Try.prog 47 0 [.list .imm (l.map rowI), .int .i64 n] [] (fun d k => d = .bool (decide (n ∈ l)) ∧ k = []) := by
  refine Tri.walk2 (L := LT) (c := {n := 18, ko := [4]}) [] [0, 1, 4, 5, 9, 17] hLT hmix Try.func47 rfl rfl ⟨rfl, rfl⟩ (by show 2 ≤ 18; decide) (by first | exact Nat.zero_le _ | exact Nat.le_refl _ | decide) ?_
  show Ok _ _ _ _ _
  refine Ok.loopN hLT hmix [] [0, 1, 4, 5, 9, 17] [0,1,5,4] [] (fun m t => ∃ i : Nat, m = l.length - i ∧ i ≤ l.length ∧ n ∉ l.take i ∧ t = sIn l n i) (n := l.length) ⟨0, rfl, Nat.zero_le _, by simp, rfl⟩ ?_
  rintro m t ⟨i, rfl, hi, hn, rfl⟩
  refine And.intro (fun h1 => ?_) (fun h1 => ?_)
  · have h1 : ((i : Nat) : Int) < ((l.map rowI).length : Int) := of_decide_eq_true h1
    rw [List.length_map] at h1
    have hw := wrap_succ (i := i) (n := l.length) (by omega) hl
    refine ⟨(l).map rowI, rowI ((l)[i]'(by omega)), rfl, by omega, row_at' rowI (l) (by omega) (by omega), rfl, of_decide_eq_true rfl, ?_⟩
    refine And.intro (fun h2 => ?_) (fun h2 => ?_)
    · have h2 : l[i] = n := of_decide_eq_true h2
      rw [decide_eq_true (show n ∈ l by rw [← h2]; exact List.getElem_mem _)]
      exact And.intro rfl rfl
    · have h2 : ¬ l[i] = n := of_decide_eq_false h2
      refine ⟨l.length - (i + 1), by omega, i + 1, rfl, by omega, ?_, ?_⟩
      · rw [List.take_succ_eq_append_getElem (by omega), List.mem_append]
        rintro (h | h)
        · exact hn h
        · exact h2 (List.mem_singleton.1 h).symm
      · unfold sIn
        rw [← hw]
        rfl
  · have h1 : ¬ ((i : Nat) : Int) < ((l.map rowI).length : Int) := of_decide_eq_false h1
    rw [List.length_map] at h1
    rw [List.take_of_length_le (by omega)] at hn
    rw [decide_eq_false hn]
    exact And.intro rfl rfl
/-- Rising, with just these. -/
structure inO (l acc : List Int) : Prop where
  up : l.Pairwise (· < ·)
  mem : ∀ x, x ∈ l ↔ x ∈ acc
  len : l.length ≤ acc.length
noncomputable def sU1 (p : Pln) (l : List Int) (i : Nat) : DS := ⟨[(0, encP p), (3, .list .imm (l.map rowI)), (4, .int .i64 (i : Int)), (2, .list (.own 0) [])], [], [], mR 0⟩
noncomputable def sU2 (p : Pln) (l : List Int) (i k : Nat) : DS := ⟨[(0, encP p), (3, .list .imm (l.map rowI)), (4, .int .i64 (i : Int)), (5, .int .i64 (k : Int)), (2, .list (.own 0) [])], [], [], mR 0⟩
noncomputable def sU3 (p : Pln) (l : List Int) (n : Int) (i k a : Nat) : DS := ⟨[(0, encP p), (3, .list .imm (l.map rowI)), (4, .int .i64 (i : Int)), (5, .int .i64 (k : Int)), (6, .int .i64 n), (7, .int .i64 (a : Int)), (2, .list (.own 0) [])], [], [], mR 0⟩
theorem allLenI (l : List Int) : allLen 1 (l.map rowI) = true := by simp [allLen, rowI]
theorem allLenITD (l : List Int) (a b : Nat) : allLen 1 (((l.map rowI).drop a).take b) = true := by
  rw [← List.map_drop, ← List.map_take]
  exact allLenI _
theorem inO_ins {l acc : List Int} {n : Int} {a : Nat} (h : inO l acc) (hn : n ∉ l) (ha : a ≤ l.length) (hlt : ∀ x, x ∈ l.take a → x < n) (hge : ∀ h : a < l.length, ¬ l[a] < n) : inO (l.take a ++ [n] ++ l.drop a) (acc ++ [n]) := by
  have hgt : ∀ x, x ∈ l.drop a → n < x := fun x hx => by
    obtain ⟨j, hj, rfl⟩ := List.mem_iff_getElem.1 hx
    rw [List.length_drop] at hj
    rw [List.getElem_drop]
    have h0 := hge (by omega)
    have hne : l[a + j] ≠ n := fun e => hn (by rw [← e]; exact List.getElem_mem _)
    rcases Nat.eq_zero_or_pos j with e | e
    · subst e
      simp only [Nat.add_zero] at hne ⊢
      omega
    · have := List.pairwise_iff_getElem.1 h.up a (a + j) (by omega) (by omega) (by omega)
      omega
  refine ⟨?_, fun x => ?_, ?_⟩
  · have hu := h.up
    rw [← List.take_append_drop a l, List.pairwise_append] at hu
    rw [List.pairwise_append, List.pairwise_append]
    refine ⟨⟨hu.1, by simp, fun x hx y hy => by rw [List.mem_singleton.1 hy]; exact hlt x hx⟩, hu.2.1, fun x hx y hy => ?_⟩
    rcases List.mem_append.1 hx with hx | hx
    · exact hu.2.2 x hx y hy
    · rw [List.mem_singleton.1 hx]; exact hgt y hy
  · have : x ∈ l ↔ x ∈ l.take a ∨ x ∈ l.drop a := by
      conv => lhs; rw [← List.take_append_drop a l]
      rw [List.mem_append]
    rw [List.mem_append, List.mem_append, List.mem_append, List.mem_singleton, ← h.mem, this]
    constructor
    · rintro ((h | h) | h)
      · exact .inl (.inl h)
      · exact .inr h
      · exact .inl (.inr h)
    · rintro ((h | h) | h)
      · exact .inl (.inl h)
      · exact .inr h
      · exact .inl (.inr h)
  · have := h.len
    simp only [List.length_append, List.length_take, List.length_drop, List.length_cons, List.length_nil]
    omega
theorem inO_same {l acc : List Int} {n : Int} (h : inO l acc) (hn : n ∈ l) : inO l (acc ++ [n]) := by
  refine ⟨h.up, fun x => ?_, by have := h.len; rw [List.length_append]; omega⟩
  rw [List.mem_append, List.mem_singleton, ← h.mem]
  constructor
  · exact .inl
  · rintro (h | rfl)
    · exact h
    · exact hn
set_option maxHeartbeats 8000000 in
theorem c_drayref9_Orders_0 (p : Pln) (hp : szP p) (htot : (allO p).length ≤ 4000000000000) : Tri Try.prog 24 0 [encP p] [] (fun d k => d = .list .imm ((ordP p).map rowI) ∧ k = []) := by
  refine Tri.walk2 (L := LT) (c := {n := 63, ko := [2]}) [] [0, 2, 3, 4, 5, 6, 7, 11, 21, 35, 47] hLT hmix Try.func24 rfl rfl ⟨rfl, rfl⟩ (by show 1 ≤ 63; decide) (by first | exact Nat.zero_le _ | exact Nat.le_refl _ | decide) ?_
  show Ok _ _ _ _ _
  refine Ok.loopN hLT hmix [] [0, 2, 3, 4, 5, 6, 7, 11, 21, 35, 47] [0,3,4,2] [] (fun n t => ∃ (i : Nat) (l : List Int), n = p.length - i ∧ i ≤ p.length ∧ inO l (allO (p.take i)) ∧ t = sU1 p l i) (n := p.length) ⟨0, [], rfl, Nat.zero_le _, ⟨List.Pairwise.nil, fun x => by simp [allO], by simp⟩, rfl⟩ ?_
  rintro n t ⟨i, l, rfl, hi, hin, rfl⟩
  refine And.intro (fun h1 => ?_) (fun h1 => ?_)
  rotate_left
  · have h1 : ¬ ((i : Nat) : Int) < ((p.map rowR).length : Int) := of_decide_eq_false h1
    rw [List.length_map] at h1
    rw [List.take_of_length_le (by omega)] at hin
    rw [strict_ext hin.up (ordP_strict p) (fun x => by rw [hin.mem, ordP_mem])]
    exact And.intro rfl rfl
  have h1 : ((i : Nat) : Int) < ((p.map rowR).length : Int) := of_decide_eq_true h1
  rw [List.length_map] at h1
  have hip : i < p.length := by omega
  have hw := wrap_succ (i := i) (n := p.length) (by omega) hp.len
  have hst := hp.st p[i] (List.getElem_mem _)
  have htk := allO_take hip
  have hle := allO_le (p := p) (i + 1)
  rw [htk] at hle
  show Ok _ _ _ _ _
  refine Ok.loopN hLT hmix [] [0, 2, 3, 4, 5, 6, 7, 11, 21, 35, 47] [0,3,4,5,2] [] (fun n t => ∃ (k : Nat) (l : List Int), n = p[i].st.length - k ∧ k ≤ p[i].st.length ∧ inO l (allO (p.take i) ++ (p[i].st.take k).map Stp.ord) ∧ t = sU2 p l i k) (n := p[i].st.length) ⟨0, l, rfl, Nat.zero_le _, by rw [List.take_zero, List.map_nil, List.append_nil]; exact hin, rfl⟩ ?_
  clear hin
  rintro n t ⟨k, l, rfl, hk, hin, rfl⟩
  refine ⟨(p).map rowR, rowR ((p)[i]'(by omega)), rfl, by omega, row_at' rowR (p) (by omega) (by omega), rfl, of_decide_eq_true rfl, ?_⟩
  refine And.intro (fun g1 => ?_) (fun g1 => ?_)
  rotate_left
  · have g1 : ¬ ((k : Nat) : Int) < ((p[i].st.map rowS).length : Int) := of_decide_eq_false g1
    rw [List.length_map] at g1
    rw [List.take_of_length_le (show p[i].st.length ≤ k by omega), ← htk] at hin
    refine ⟨p.length - (i + 1), by omega, i + 1, l, rfl, by omega, hin, ?_⟩
    unfold sU1
    rw [← hw]
    rfl
  have g1 : ((k : Nat) : Int) < ((p[i].st.map rowS).length : Int) := of_decide_eq_true g1
  rw [List.length_map] at g1
  have hkr : k < p[i].st.length := by omega
  have hwk := wrap_succ (i := k) (n := p[i].st.length) (by omega) hst
  have hjk : allO (p.take i) ++ (p[i].st.take (k + 1)).map Stp.ord = allO (p.take i) ++ (p[i].st.take k).map Stp.ord ++ [p[i].st[k].ord] := by
    rw [List.take_succ_eq_append_getElem hkr, List.map_append, List.append_assoc]
    rfl
  have hll : l.length + 1 ≤ 4000000000000 := by
    have h9 := hin.len
    rw [List.length_append, List.length_map] at hle
    rw [List.length_append, List.length_map, List.length_take] at h9
    omega
  refine ⟨(p).map rowR, rowR ((p)[i]'(by omega)), rfl, by omega, row_at' rowR (p) (by omega) (by omega), rfl, of_decide_eq_true rfl, ?_⟩
  refine ⟨(p[i].st).map rowS, rowS ((p[i].st)[k]'(by omega)), rfl, by omega, row_at' rowS (p[i].st) (by omega) (by omega), rfl, of_decide_eq_true rfl, ?_⟩
  generalize p[i].st[k] = x at hjk ⊢
  have hsame := fun h => inO_same (n := x.ord) hin h
  have hins := fun (a : Nat) h1 h2 h3 h4 => inO_ins (n := x.ord) (a := a) hin h1 h2 h3 h4
  rw [← hjk] at hsame hins
  refine ⟨rfl, Nat.zero_le _, (c_drayref9_in_0 l (by omega) x.ord).mono ?_⟩
  rintro d l' ⟨hd, rfl⟩
  by_cases hm : x.ord ∈ l
  · rw [decide_eq_true hm] at hd
    subst hd
    refine ⟨rfl, fun _ _ => rfl, rfl, ?_⟩
    refine ⟨p[i].st.length - (k + 1), by omega, k + 1, l, rfl, by omega, hsame hm, ?_⟩
    unfold sU2
    rw [← hwk]
    rfl
  rw [decide_eq_false hm] at hd
  subst hd
  refine ⟨rfl, fun _ _ => rfl, rfl, ?_⟩
  show Ok _ _ _ _ _
  refine Ok.loopN hLT hmix [] [0, 2, 3, 4, 5, 6, 7, 11, 21, 35, 47] [0,3,4,5,6,7,2] [] (fun n t => ∃ (a : Nat), n = l.length - a ∧ a ≤ l.length ∧ (∀ y, y ∈ l.take a → y < x.ord) ∧ t = sU3 p l x.ord i k a) (n := l.length) ⟨0, rfl, Nat.zero_le _, by simp, rfl⟩ ?_
  rintro n t ⟨a, rfl, ha, hlt, rfl⟩
  refine And.intro (fun w1 => ?_) (fun w1 => ?_)
  · have w1 : ((a : Nat) : Int) < ((l.map rowI).length : Int) := of_decide_eq_true w1
    rw [List.length_map] at w1
    have hwa := wrap_succ (i := a) (n := l.length) (by omega) (by omega)
    repeat (first | refine And.intro (fun _ => ?_) (fun h => Bool.noConfusion h) | refine And.intro (fun h => Bool.noConfusion h) (fun _ => ?_))
    refine ⟨(l).map rowI, rowI ((l)[a]'(by omega)), rfl, by omega, row_at' rowI (l) (by omega) (by omega), rfl, of_decide_eq_true rfl, ?_⟩
    refine And.intro (fun w2 => ?_) (fun w2 => ?_)
    · have w2 : l[a] < x.ord := of_decide_eq_true w2
      repeat (first | refine And.intro (fun _ => ?_) (fun h => Bool.noConfusion h) | refine And.intro (fun h => Bool.noConfusion h) (fun _ => ?_))
      refine ⟨l.length - (a + 1), by omega, a + 1, rfl, by omega, fun y hy => ?_, ?_⟩
      · rw [List.take_succ_eq_append_getElem (by omega), List.mem_append] at hy
        rcases hy with hy | hy
        · exact hlt y hy
        · rw [List.mem_singleton.1 hy]; exact w2
      · unfold sU3
        rw [← hwa]
        rfl
    · have w2 : ¬ l[a] < x.ord := of_decide_eq_false w2
      repeat (first | refine And.intro (fun _ => ?_) (fun h => Bool.noConfusion h) | refine And.intro (fun h => Bool.noConfusion h) (fun _ => ?_))
      have hnew := hins a hm ha hlt (fun _ => w2)
      refine ⟨⟨4095, [0, 0, 0, 6, 9, 0, 32, 80, 0, 0, 768, 1152, 4095], [1, 2, 4, 14, 31, 32, 96, 255, 256, 512, 1792, 4095, 8191]⟩, by kernel_rfl, ?_⟩
      refine And.intro ⟨by omega, by rw [List.length_map]; omega⟩ (And.intro (Nat.zero_le _) (And.intro (of_decide_eq_true rfl) (And.intro (allLenI l) (And.intro rfl ?_))))
      refine And.intro (Nat.le_refl _) (And.intro ⟨by omega, by rw [List.length_map]; omega⟩ (And.intro (of_decide_eq_true rfl) (And.intro (allLenI l) (And.intro rfl ?_))))
      refine And.intro ?_ (And.intro ?_ trivial)
      · refine And.intro (by repeat (first | exact trivial | refine And.intro ⟨rfl, rfl⟩ ?_ | refine And.intro (And.intro ⟨by omega, by rw [List.length_map]; omega⟩ (And.intro (Nat.zero_le _) (And.intro (of_decide_eq_true rfl) (And.intro (allLenI l) (And.intro rfl (And.intro rfl rfl)))))) ?_ | refine And.intro (And.intro (Nat.le_refl _) (And.intro ⟨by omega, by rw [List.length_map]; omega⟩ (And.intro (of_decide_eq_true rfl) (And.intro (allLenI l) (And.intro rfl (And.intro rfl rfl)))))) ?_)) ?_
        refine And.intro ?_ (And.intro ?_ trivial)
        · refine And.intro trivial (And.intro rfl (And.intro (by show (_ + _) * 8 ≤ 140737488355328; simp only [List.length_append, List.length_take, List.length_drop, List.length_map, List.length_cons, List.length_nil, rowsOf_len]; omega) (And.intro (allLenITD l _ _) ?_)))
          refine And.intro (by repeat (first | exact trivial | refine And.intro ⟨rfl, rfl⟩ ?_ | refine And.intro (And.intro ⟨by omega, by rw [List.length_map]; omega⟩ (And.intro (Nat.zero_le _) (And.intro (of_decide_eq_true rfl) (And.intro (allLenI l) (And.intro rfl (And.intro rfl rfl)))))) ?_ | refine And.intro (And.intro (Nat.le_refl _) (And.intro ⟨by omega, by rw [List.length_map]; omega⟩ (And.intro (of_decide_eq_true rfl) (And.intro (allLenI l) (And.intro rfl (And.intro rfl rfl)))))) ?_)) ?_
          refine And.intro ?_ trivial
          refine And.intro (by repeat (first | exact trivial | refine And.intro ⟨rfl, rfl⟩ ?_ | refine And.intro (And.intro ⟨by omega, by rw [List.length_map]; omega⟩ (And.intro (Nat.zero_le _) (And.intro (of_decide_eq_true rfl) (And.intro (allLenI l) (And.intro rfl (And.intro rfl rfl)))))) ?_ | refine And.intro (And.intro (Nat.le_refl _) (And.intro ⟨by omega, by rw [List.length_map]; omega⟩ (And.intro (of_decide_eq_true rfl) (And.intro (allLenI l) (And.intro rfl (And.intro rfl rfl)))))) ?_)) ?_
          refine And.intro ?_ trivial
          refine And.intro trivial (And.intro rfl (And.intro (by show (_ + _) * 8 ≤ 140737488355328; simp only [List.length_append, List.length_take, List.length_drop, List.length_map, List.length_cons, List.length_nil, rowsOf_len]; omega) (And.intro rfl ?_)))
          refine And.intro (by repeat (first | exact trivial | refine And.intro ⟨rfl, rfl⟩ ?_ | refine And.intro (And.intro ⟨by omega, by rw [List.length_map]; omega⟩ (And.intro (Nat.zero_le _) (And.intro (of_decide_eq_true rfl) (And.intro (allLenI l) (And.intro rfl (And.intro rfl rfl)))))) ?_ | refine And.intro (And.intro (Nat.le_refl _) (And.intro ⟨by omega, by rw [List.length_map]; omega⟩ (And.intro (of_decide_eq_true rfl) (And.intro (allLenI l) (And.intro rfl (And.intro rfl rfl)))))) ?_)) ?_
          refine And.intro ?_ trivial
          refine And.intro trivial (And.intro rfl (And.intro (by show (_ + _) * 8 ≤ 140737488355328; simp only [List.length_append, List.length_take, List.length_drop, List.length_map, List.length_cons, List.length_nil, rowsOf_len]; omega) (And.intro (allLenITD l _ _) ?_)))
          refine And.intro (by repeat (first | exact trivial | refine And.intro ⟨rfl, rfl⟩ ?_ | refine And.intro (And.intro ⟨by omega, by rw [List.length_map]; omega⟩ (And.intro (Nat.zero_le _) (And.intro (of_decide_eq_true rfl) (And.intro (allLenI l) (And.intro rfl (And.intro rfl rfl)))))) ?_ | refine And.intro (And.intro (Nat.le_refl _) (And.intro ⟨by omega, by rw [List.length_map]; omega⟩ (And.intro (of_decide_eq_true rfl) (And.intro (allLenI l) (And.intro rfl (And.intro rfl rfl)))))) ?_)) ?_
          refine And.intro ?_ trivial
          refine And.intro (by repeat (first | exact trivial | refine And.intro ⟨rfl, rfl⟩ ?_ | refine And.intro (And.intro ⟨by omega, by rw [List.length_map]; omega⟩ (And.intro (Nat.zero_le _) (And.intro (of_decide_eq_true rfl) (And.intro (allLenI l) (And.intro rfl (And.intro rfl rfl)))))) ?_ | refine And.intro (And.intro (Nat.le_refl _) (And.intro ⟨by omega, by rw [List.length_map]; omega⟩ (And.intro (of_decide_eq_true rfl) (And.intro (allLenI l) (And.intro rfl (And.intro rfl rfl)))))) ?_)) ?_
          refine ⟨p[i].st.length - (k + 1), by omega, k + 1, l.take a ++ [x.ord] ++ l.drop a, rfl, by omega, hnew, ?_⟩
          unfold sU2
          rw [← hwk]
          have e : (l.take a ++ [x.ord] ++ l.drop a).map rowI = (([] ++ ((l.map rowI).drop 0).take (((a : Nat) : Int).toNat - 0)) ++ [rowI x.ord]) ++ ((l.map rowI).drop ((a : Nat) : Int).toNat).take ((l.map rowI).length - ((a : Nat) : Int).toNat) := by
            have h9 : ((l.map rowI).drop ((a : Nat) : Int).toNat).take ((l.map rowI).length - ((a : Nat) : Int).toNat) = (l.map rowI).drop ((a : Nat) : Int).toNat := List.take_of_length_le (by rw [List.length_drop]; omega)
            rw [h9, Int.toNat_natCast]
            simp [List.map_take, List.map_drop]
          rw [e]
          rfl
        refine And.intro (by repeat (first | exact trivial | refine And.intro ⟨rfl, rfl⟩ ?_ | refine And.intro (And.intro ⟨by omega, by rw [List.length_map]; omega⟩ (And.intro (Nat.zero_le _) (And.intro (of_decide_eq_true rfl) (And.intro (allLenI l) (And.intro rfl (And.intro rfl rfl)))))) ?_ | refine And.intro (And.intro (Nat.le_refl _) (And.intro ⟨by omega, by rw [List.length_map]; omega⟩ (And.intro (of_decide_eq_true rfl) (And.intro (allLenI l) (And.intro rfl (And.intro rfl rfl)))))) ?_)) ?_
        refine And.intro ?_ trivial
        refine And.intro trivial (And.intro rfl (And.intro (by show (_ + _) * 8 ≤ 140737488355328; simp only [List.length_append, List.length_take, List.length_drop, List.length_map, List.length_cons, List.length_nil, rowsOf_len]; omega) (And.intro (allLenITD l _ _) ?_)))
        refine And.intro (by repeat (first | exact trivial | refine And.intro ⟨rfl, rfl⟩ ?_ | refine And.intro (And.intro ⟨by omega, by rw [List.length_map]; omega⟩ (And.intro (Nat.zero_le _) (And.intro (of_decide_eq_true rfl) (And.intro (allLenI l) (And.intro rfl (And.intro rfl rfl)))))) ?_ | refine And.intro (And.intro (Nat.le_refl _) (And.intro ⟨by omega, by rw [List.length_map]; omega⟩ (And.intro (of_decide_eq_true rfl) (And.intro (allLenI l) (And.intro rfl (And.intro rfl rfl)))))) ?_)) ?_
        refine And.intro ?_ trivial
        refine And.intro trivial (And.intro rfl (And.intro (by show (_ + _) * 8 ≤ 140737488355328; simp only [List.length_append, List.length_take, List.length_drop, List.length_map, List.length_cons, List.length_nil, rowsOf_len]; omega) (And.intro rfl ?_)))
        refine And.intro (by repeat (first | exact trivial | refine And.intro ⟨rfl, rfl⟩ ?_ | refine And.intro (And.intro ⟨by omega, by rw [List.length_map]; omega⟩ (And.intro (Nat.zero_le _) (And.intro (of_decide_eq_true rfl) (And.intro (allLenI l) (And.intro rfl (And.intro rfl rfl)))))) ?_ | refine And.intro (And.intro (Nat.le_refl _) (And.intro ⟨by omega, by rw [List.length_map]; omega⟩ (And.intro (of_decide_eq_true rfl) (And.intro (allLenI l) (And.intro rfl (And.intro rfl rfl)))))) ?_)) ?_
        refine And.intro ?_ trivial
        refine And.intro trivial (And.intro rfl (And.intro (by show (_ + _) * 8 ≤ 140737488355328; simp only [List.length_append, List.length_take, List.length_drop, List.length_map, List.length_cons, List.length_nil, rowsOf_len]; omega) (And.intro (allLenITD l _ _) ?_)))
        refine And.intro (by repeat (first | exact trivial | refine And.intro ⟨rfl, rfl⟩ ?_ | refine And.intro (And.intro ⟨by omega, by rw [List.length_map]; omega⟩ (And.intro (Nat.zero_le _) (And.intro (of_decide_eq_true rfl) (And.intro (allLenI l) (And.intro rfl (And.intro rfl rfl)))))) ?_ | refine And.intro (And.intro (Nat.le_refl _) (And.intro ⟨by omega, by rw [List.length_map]; omega⟩ (And.intro (of_decide_eq_true rfl) (And.intro (allLenI l) (And.intro rfl (And.intro rfl rfl)))))) ?_)) ?_
        refine And.intro ?_ trivial
        refine And.intro (by repeat (first | exact trivial | refine And.intro ⟨rfl, rfl⟩ ?_ | refine And.intro (And.intro ⟨by omega, by rw [List.length_map]; omega⟩ (And.intro (Nat.zero_le _) (And.intro (of_decide_eq_true rfl) (And.intro (allLenI l) (And.intro rfl (And.intro rfl rfl)))))) ?_ | refine And.intro (And.intro (Nat.le_refl _) (And.intro ⟨by omega, by rw [List.length_map]; omega⟩ (And.intro (of_decide_eq_true rfl) (And.intro (allLenI l) (And.intro rfl (And.intro rfl rfl)))))) ?_)) ?_
        refine ⟨p[i].st.length - (k + 1), by omega, k + 1, l.take a ++ [x.ord] ++ l.drop a, rfl, by omega, hnew, ?_⟩
        unfold sU2
        rw [← hwk]
        have e : (l.take a ++ [x.ord] ++ l.drop a).map rowI = (([] ++ ((l.map rowI).drop 0).take (((a : Nat) : Int).toNat - 0)) ++ [rowI x.ord]) ++ ((l.map rowI).drop ((a : Nat) : Int).toNat).take ((l.map rowI).length - ((a : Nat) : Int).toNat) := by
          have h9 : ((l.map rowI).drop ((a : Nat) : Int).toNat).take ((l.map rowI).length - ((a : Nat) : Int).toNat) = (l.map rowI).drop ((a : Nat) : Int).toNat := List.take_of_length_le (by rw [List.length_drop]; omega)
          rw [h9, Int.toNat_natCast]
          simp [List.map_take, List.map_drop]
        rw [e]
        rfl
      refine And.intro (by repeat (first | exact trivial | refine And.intro ⟨rfl, rfl⟩ ?_ | refine And.intro (And.intro ⟨by omega, by rw [List.length_map]; omega⟩ (And.intro (Nat.zero_le _) (And.intro (of_decide_eq_true rfl) (And.intro (allLenI l) (And.intro rfl (And.intro rfl rfl)))))) ?_ | refine And.intro (And.intro (Nat.le_refl _) (And.intro ⟨by omega, by rw [List.length_map]; omega⟩ (And.intro (of_decide_eq_true rfl) (And.intro (allLenI l) (And.intro rfl (And.intro rfl rfl)))))) ?_)) ?_
      refine And.intro ?_ trivial
      refine And.intro (by repeat (first | exact trivial | refine And.intro ⟨rfl, rfl⟩ ?_ | refine And.intro (And.intro ⟨by omega, by rw [List.length_map]; omega⟩ (And.intro (Nat.zero_le _) (And.intro (of_decide_eq_true rfl) (And.intro (allLenI l) (And.intro rfl (And.intro rfl rfl)))))) ?_ | refine And.intro (And.intro (Nat.le_refl _) (And.intro ⟨by omega, by rw [List.length_map]; omega⟩ (And.intro (of_decide_eq_true rfl) (And.intro (allLenI l) (And.intro rfl (And.intro rfl rfl)))))) ?_)) ?_
      refine And.intro ?_ trivial
      refine And.intro trivial (And.intro rfl (And.intro (by show (_ + _) * 8 ≤ 140737488355328; simp only [List.length_append, List.length_take, List.length_drop, List.length_map, List.length_cons, List.length_nil, rowsOf_len]; omega) (And.intro (allLenITD l _ _) ?_)))
      refine And.intro (by repeat (first | exact trivial | refine And.intro ⟨rfl, rfl⟩ ?_ | refine And.intro (And.intro ⟨by omega, by rw [List.length_map]; omega⟩ (And.intro (Nat.zero_le _) (And.intro (of_decide_eq_true rfl) (And.intro (allLenI l) (And.intro rfl (And.intro rfl rfl)))))) ?_ | refine And.intro (And.intro (Nat.le_refl _) (And.intro ⟨by omega, by rw [List.length_map]; omega⟩ (And.intro (of_decide_eq_true rfl) (And.intro (allLenI l) (And.intro rfl (And.intro rfl rfl)))))) ?_)) ?_
      refine And.intro ?_ trivial
      refine And.intro trivial (And.intro rfl (And.intro (by show (_ + _) * 8 ≤ 140737488355328; simp only [List.length_append, List.length_take, List.length_drop, List.length_map, List.length_cons, List.length_nil, rowsOf_len]; omega) (And.intro rfl ?_)))
      refine And.intro (by repeat (first | exact trivial | refine And.intro ⟨rfl, rfl⟩ ?_ | refine And.intro (And.intro ⟨by omega, by rw [List.length_map]; omega⟩ (And.intro (Nat.zero_le _) (And.intro (of_decide_eq_true rfl) (And.intro (allLenI l) (And.intro rfl (And.intro rfl rfl)))))) ?_ | refine And.intro (And.intro (Nat.le_refl _) (And.intro ⟨by omega, by rw [List.length_map]; omega⟩ (And.intro (of_decide_eq_true rfl) (And.intro (allLenI l) (And.intro rfl (And.intro rfl rfl)))))) ?_)) ?_
      refine And.intro ?_ trivial
      refine And.intro trivial (And.intro rfl (And.intro (by show (_ + _) * 8 ≤ 140737488355328; simp only [List.length_append, List.length_take, List.length_drop, List.length_map, List.length_cons, List.length_nil, rowsOf_len]; omega) (And.intro (allLenITD l _ _) ?_)))
      refine And.intro (by repeat (first | exact trivial | refine And.intro ⟨rfl, rfl⟩ ?_ | refine And.intro (And.intro ⟨by omega, by rw [List.length_map]; omega⟩ (And.intro (Nat.zero_le _) (And.intro (of_decide_eq_true rfl) (And.intro (allLenI l) (And.intro rfl (And.intro rfl rfl)))))) ?_ | refine And.intro (And.intro (Nat.le_refl _) (And.intro ⟨by omega, by rw [List.length_map]; omega⟩ (And.intro (of_decide_eq_true rfl) (And.intro (allLenI l) (And.intro rfl (And.intro rfl rfl)))))) ?_)) ?_
      refine And.intro ?_ trivial
      refine And.intro (by repeat (first | exact trivial | refine And.intro ⟨rfl, rfl⟩ ?_ | refine And.intro (And.intro ⟨by omega, by rw [List.length_map]; omega⟩ (And.intro (Nat.zero_le _) (And.intro (of_decide_eq_true rfl) (And.intro (allLenI l) (And.intro rfl (And.intro rfl rfl)))))) ?_ | refine And.intro (And.intro (Nat.le_refl _) (And.intro ⟨by omega, by rw [List.length_map]; omega⟩ (And.intro (of_decide_eq_true rfl) (And.intro (allLenI l) (And.intro rfl (And.intro rfl rfl)))))) ?_)) ?_
      refine ⟨p[i].st.length - (k + 1), by omega, k + 1, l.take a ++ [x.ord] ++ l.drop a, rfl, by omega, hnew, ?_⟩
      unfold sU2
      rw [← hwk]
      have e : (l.take a ++ [x.ord] ++ l.drop a).map rowI = (([] ++ ((l.map rowI).drop 0).take (((a : Nat) : Int).toNat - 0)) ++ [rowI x.ord]) ++ ((l.map rowI).drop ((a : Nat) : Int).toNat).take ((l.map rowI).length - ((a : Nat) : Int).toNat) := by
        have h9 : ((l.map rowI).drop ((a : Nat) : Int).toNat).take ((l.map rowI).length - ((a : Nat) : Int).toNat) = (l.map rowI).drop ((a : Nat) : Int).toNat := List.take_of_length_le (by rw [List.length_drop]; omega)
        rw [h9, Int.toNat_natCast]
        simp [List.map_take, List.map_drop]
      rw [e]
      rfl
  · have w1 : ¬ ((a : Nat) : Int) < ((l.map rowI).length : Int) := of_decide_eq_false w1
    rw [List.length_map] at w1
    repeat (first | refine And.intro (fun _ => ?_) (fun h => Bool.noConfusion h) | refine And.intro (fun h => Bool.noConfusion h) (fun _ => ?_))
    have hnew := hins a hm ha hlt (fun h => absurd h (by omega))
    refine ⟨⟨4095, [0, 0, 0, 6, 9, 0, 32, 80, 0, 0, 768, 1152, 4095], [1, 2, 4, 14, 31, 32, 96, 255, 256, 512, 1792, 4095, 8191]⟩, by kernel_rfl, ?_⟩
    refine And.intro ⟨by omega, by rw [List.length_map]; omega⟩ (And.intro (Nat.zero_le _) (And.intro (of_decide_eq_true rfl) (And.intro (allLenI l) (And.intro rfl ?_))))
    refine And.intro (Nat.le_refl _) (And.intro ⟨by omega, by rw [List.length_map]; omega⟩ (And.intro (of_decide_eq_true rfl) (And.intro (allLenI l) (And.intro rfl ?_))))
    refine And.intro ?_ (And.intro ?_ trivial)
    · refine And.intro (by repeat (first | exact trivial | refine And.intro ⟨rfl, rfl⟩ ?_ | refine And.intro (And.intro ⟨by omega, by rw [List.length_map]; omega⟩ (And.intro (Nat.zero_le _) (And.intro (of_decide_eq_true rfl) (And.intro (allLenI l) (And.intro rfl (And.intro rfl rfl)))))) ?_ | refine And.intro (And.intro (Nat.le_refl _) (And.intro ⟨by omega, by rw [List.length_map]; omega⟩ (And.intro (of_decide_eq_true rfl) (And.intro (allLenI l) (And.intro rfl (And.intro rfl rfl)))))) ?_)) ?_
      refine And.intro ?_ (And.intro ?_ trivial)
      · refine And.intro trivial (And.intro rfl (And.intro (by show (_ + _) * 8 ≤ 140737488355328; simp only [List.length_append, List.length_take, List.length_drop, List.length_map, List.length_cons, List.length_nil, rowsOf_len]; omega) (And.intro (allLenITD l _ _) ?_)))
        refine And.intro (by repeat (first | exact trivial | refine And.intro ⟨rfl, rfl⟩ ?_ | refine And.intro (And.intro ⟨by omega, by rw [List.length_map]; omega⟩ (And.intro (Nat.zero_le _) (And.intro (of_decide_eq_true rfl) (And.intro (allLenI l) (And.intro rfl (And.intro rfl rfl)))))) ?_ | refine And.intro (And.intro (Nat.le_refl _) (And.intro ⟨by omega, by rw [List.length_map]; omega⟩ (And.intro (of_decide_eq_true rfl) (And.intro (allLenI l) (And.intro rfl (And.intro rfl rfl)))))) ?_)) ?_
        refine And.intro ?_ trivial
        refine And.intro (by repeat (first | exact trivial | refine And.intro ⟨rfl, rfl⟩ ?_ | refine And.intro (And.intro ⟨by omega, by rw [List.length_map]; omega⟩ (And.intro (Nat.zero_le _) (And.intro (of_decide_eq_true rfl) (And.intro (allLenI l) (And.intro rfl (And.intro rfl rfl)))))) ?_ | refine And.intro (And.intro (Nat.le_refl _) (And.intro ⟨by omega, by rw [List.length_map]; omega⟩ (And.intro (of_decide_eq_true rfl) (And.intro (allLenI l) (And.intro rfl (And.intro rfl rfl)))))) ?_)) ?_
        refine And.intro ?_ trivial
        refine And.intro trivial (And.intro rfl (And.intro (by show (_ + _) * 8 ≤ 140737488355328; simp only [List.length_append, List.length_take, List.length_drop, List.length_map, List.length_cons, List.length_nil, rowsOf_len]; omega) (And.intro rfl ?_)))
        refine And.intro (by repeat (first | exact trivial | refine And.intro ⟨rfl, rfl⟩ ?_ | refine And.intro (And.intro ⟨by omega, by rw [List.length_map]; omega⟩ (And.intro (Nat.zero_le _) (And.intro (of_decide_eq_true rfl) (And.intro (allLenI l) (And.intro rfl (And.intro rfl rfl)))))) ?_ | refine And.intro (And.intro (Nat.le_refl _) (And.intro ⟨by omega, by rw [List.length_map]; omega⟩ (And.intro (of_decide_eq_true rfl) (And.intro (allLenI l) (And.intro rfl (And.intro rfl rfl)))))) ?_)) ?_
        refine And.intro ?_ trivial
        refine And.intro trivial (And.intro rfl (And.intro (by show (_ + _) * 8 ≤ 140737488355328; simp only [List.length_append, List.length_take, List.length_drop, List.length_map, List.length_cons, List.length_nil, rowsOf_len]; omega) (And.intro (allLenITD l _ _) ?_)))
        refine And.intro (by repeat (first | exact trivial | refine And.intro ⟨rfl, rfl⟩ ?_ | refine And.intro (And.intro ⟨by omega, by rw [List.length_map]; omega⟩ (And.intro (Nat.zero_le _) (And.intro (of_decide_eq_true rfl) (And.intro (allLenI l) (And.intro rfl (And.intro rfl rfl)))))) ?_ | refine And.intro (And.intro (Nat.le_refl _) (And.intro ⟨by omega, by rw [List.length_map]; omega⟩ (And.intro (of_decide_eq_true rfl) (And.intro (allLenI l) (And.intro rfl (And.intro rfl rfl)))))) ?_)) ?_
        refine And.intro ?_ trivial
        refine And.intro (by repeat (first | exact trivial | refine And.intro ⟨rfl, rfl⟩ ?_ | refine And.intro (And.intro ⟨by omega, by rw [List.length_map]; omega⟩ (And.intro (Nat.zero_le _) (And.intro (of_decide_eq_true rfl) (And.intro (allLenI l) (And.intro rfl (And.intro rfl rfl)))))) ?_ | refine And.intro (And.intro (Nat.le_refl _) (And.intro ⟨by omega, by rw [List.length_map]; omega⟩ (And.intro (of_decide_eq_true rfl) (And.intro (allLenI l) (And.intro rfl (And.intro rfl rfl)))))) ?_)) ?_
        refine ⟨p[i].st.length - (k + 1), by omega, k + 1, l.take a ++ [x.ord] ++ l.drop a, rfl, by omega, hnew, ?_⟩
        unfold sU2
        rw [← hwk]
        have e : (l.take a ++ [x.ord] ++ l.drop a).map rowI = (([] ++ ((l.map rowI).drop 0).take (((a : Nat) : Int).toNat - 0)) ++ [rowI x.ord]) ++ ((l.map rowI).drop ((a : Nat) : Int).toNat).take ((l.map rowI).length - ((a : Nat) : Int).toNat) := by
          have h9 : ((l.map rowI).drop ((a : Nat) : Int).toNat).take ((l.map rowI).length - ((a : Nat) : Int).toNat) = (l.map rowI).drop ((a : Nat) : Int).toNat := List.take_of_length_le (by rw [List.length_drop]; omega)
          rw [h9, Int.toNat_natCast]
          simp [List.map_take, List.map_drop]
        rw [e]
        rfl
      refine And.intro (by repeat (first | exact trivial | refine And.intro ⟨rfl, rfl⟩ ?_ | refine And.intro (And.intro ⟨by omega, by rw [List.length_map]; omega⟩ (And.intro (Nat.zero_le _) (And.intro (of_decide_eq_true rfl) (And.intro (allLenI l) (And.intro rfl (And.intro rfl rfl)))))) ?_ | refine And.intro (And.intro (Nat.le_refl _) (And.intro ⟨by omega, by rw [List.length_map]; omega⟩ (And.intro (of_decide_eq_true rfl) (And.intro (allLenI l) (And.intro rfl (And.intro rfl rfl)))))) ?_)) ?_
      refine And.intro ?_ trivial
      refine And.intro trivial (And.intro rfl (And.intro (by show (_ + _) * 8 ≤ 140737488355328; simp only [List.length_append, List.length_take, List.length_drop, List.length_map, List.length_cons, List.length_nil, rowsOf_len]; omega) (And.intro (allLenITD l _ _) ?_)))
      refine And.intro (by repeat (first | exact trivial | refine And.intro ⟨rfl, rfl⟩ ?_ | refine And.intro (And.intro ⟨by omega, by rw [List.length_map]; omega⟩ (And.intro (Nat.zero_le _) (And.intro (of_decide_eq_true rfl) (And.intro (allLenI l) (And.intro rfl (And.intro rfl rfl)))))) ?_ | refine And.intro (And.intro (Nat.le_refl _) (And.intro ⟨by omega, by rw [List.length_map]; omega⟩ (And.intro (of_decide_eq_true rfl) (And.intro (allLenI l) (And.intro rfl (And.intro rfl rfl)))))) ?_)) ?_
      refine And.intro ?_ trivial
      refine And.intro trivial (And.intro rfl (And.intro (by show (_ + _) * 8 ≤ 140737488355328; simp only [List.length_append, List.length_take, List.length_drop, List.length_map, List.length_cons, List.length_nil, rowsOf_len]; omega) (And.intro rfl ?_)))
      refine And.intro (by repeat (first | exact trivial | refine And.intro ⟨rfl, rfl⟩ ?_ | refine And.intro (And.intro ⟨by omega, by rw [List.length_map]; omega⟩ (And.intro (Nat.zero_le _) (And.intro (of_decide_eq_true rfl) (And.intro (allLenI l) (And.intro rfl (And.intro rfl rfl)))))) ?_ | refine And.intro (And.intro (Nat.le_refl _) (And.intro ⟨by omega, by rw [List.length_map]; omega⟩ (And.intro (of_decide_eq_true rfl) (And.intro (allLenI l) (And.intro rfl (And.intro rfl rfl)))))) ?_)) ?_
      refine And.intro ?_ trivial
      refine And.intro trivial (And.intro rfl (And.intro (by show (_ + _) * 8 ≤ 140737488355328; simp only [List.length_append, List.length_take, List.length_drop, List.length_map, List.length_cons, List.length_nil, rowsOf_len]; omega) (And.intro (allLenITD l _ _) ?_)))
      refine And.intro (by repeat (first | exact trivial | refine And.intro ⟨rfl, rfl⟩ ?_ | refine And.intro (And.intro ⟨by omega, by rw [List.length_map]; omega⟩ (And.intro (Nat.zero_le _) (And.intro (of_decide_eq_true rfl) (And.intro (allLenI l) (And.intro rfl (And.intro rfl rfl)))))) ?_ | refine And.intro (And.intro (Nat.le_refl _) (And.intro ⟨by omega, by rw [List.length_map]; omega⟩ (And.intro (of_decide_eq_true rfl) (And.intro (allLenI l) (And.intro rfl (And.intro rfl rfl)))))) ?_)) ?_
      refine And.intro ?_ trivial
      refine And.intro (by repeat (first | exact trivial | refine And.intro ⟨rfl, rfl⟩ ?_ | refine And.intro (And.intro ⟨by omega, by rw [List.length_map]; omega⟩ (And.intro (Nat.zero_le _) (And.intro (of_decide_eq_true rfl) (And.intro (allLenI l) (And.intro rfl (And.intro rfl rfl)))))) ?_ | refine And.intro (And.intro (Nat.le_refl _) (And.intro ⟨by omega, by rw [List.length_map]; omega⟩ (And.intro (of_decide_eq_true rfl) (And.intro (allLenI l) (And.intro rfl (And.intro rfl rfl)))))) ?_)) ?_
      refine ⟨p[i].st.length - (k + 1), by omega, k + 1, l.take a ++ [x.ord] ++ l.drop a, rfl, by omega, hnew, ?_⟩
      unfold sU2
      rw [← hwk]
      have e : (l.take a ++ [x.ord] ++ l.drop a).map rowI = (([] ++ ((l.map rowI).drop 0).take (((a : Nat) : Int).toNat - 0)) ++ [rowI x.ord]) ++ ((l.map rowI).drop ((a : Nat) : Int).toNat).take ((l.map rowI).length - ((a : Nat) : Int).toNat) := by
        have h9 : ((l.map rowI).drop ((a : Nat) : Int).toNat).take ((l.map rowI).length - ((a : Nat) : Int).toNat) = (l.map rowI).drop ((a : Nat) : Int).toNat := List.take_of_length_le (by rw [List.length_drop]; omega)
        rw [h9, Int.toNat_natCast]
        simp [List.map_take, List.map_drop]
      rw [e]
      rfl
    refine And.intro (by repeat (first | exact trivial | refine And.intro ⟨rfl, rfl⟩ ?_ | refine And.intro (And.intro ⟨by omega, by rw [List.length_map]; omega⟩ (And.intro (Nat.zero_le _) (And.intro (of_decide_eq_true rfl) (And.intro (allLenI l) (And.intro rfl (And.intro rfl rfl)))))) ?_ | refine And.intro (And.intro (Nat.le_refl _) (And.intro ⟨by omega, by rw [List.length_map]; omega⟩ (And.intro (of_decide_eq_true rfl) (And.intro (allLenI l) (And.intro rfl (And.intro rfl rfl)))))) ?_)) ?_
    refine And.intro ?_ trivial
    refine And.intro (by repeat (first | exact trivial | refine And.intro ⟨rfl, rfl⟩ ?_ | refine And.intro (And.intro ⟨by omega, by rw [List.length_map]; omega⟩ (And.intro (Nat.zero_le _) (And.intro (of_decide_eq_true rfl) (And.intro (allLenI l) (And.intro rfl (And.intro rfl rfl)))))) ?_ | refine And.intro (And.intro (Nat.le_refl _) (And.intro ⟨by omega, by rw [List.length_map]; omega⟩ (And.intro (of_decide_eq_true rfl) (And.intro (allLenI l) (And.intro rfl (And.intro rfl rfl)))))) ?_)) ?_
    refine And.intro ?_ trivial
    refine And.intro trivial (And.intro rfl (And.intro (by show (_ + _) * 8 ≤ 140737488355328; simp only [List.length_append, List.length_take, List.length_drop, List.length_map, List.length_cons, List.length_nil, rowsOf_len]; omega) (And.intro (allLenITD l _ _) ?_)))
    refine And.intro (by repeat (first | exact trivial | refine And.intro ⟨rfl, rfl⟩ ?_ | refine And.intro (And.intro ⟨by omega, by rw [List.length_map]; omega⟩ (And.intro (Nat.zero_le _) (And.intro (of_decide_eq_true rfl) (And.intro (allLenI l) (And.intro rfl (And.intro rfl rfl)))))) ?_ | refine And.intro (And.intro (Nat.le_refl _) (And.intro ⟨by omega, by rw [List.length_map]; omega⟩ (And.intro (of_decide_eq_true rfl) (And.intro (allLenI l) (And.intro rfl (And.intro rfl rfl)))))) ?_)) ?_
    refine And.intro ?_ trivial
    refine And.intro trivial (And.intro rfl (And.intro (by show (_ + _) * 8 ≤ 140737488355328; simp only [List.length_append, List.length_take, List.length_drop, List.length_map, List.length_cons, List.length_nil, rowsOf_len]; omega) (And.intro rfl ?_)))
    refine And.intro (by repeat (first | exact trivial | refine And.intro ⟨rfl, rfl⟩ ?_ | refine And.intro (And.intro ⟨by omega, by rw [List.length_map]; omega⟩ (And.intro (Nat.zero_le _) (And.intro (of_decide_eq_true rfl) (And.intro (allLenI l) (And.intro rfl (And.intro rfl rfl)))))) ?_ | refine And.intro (And.intro (Nat.le_refl _) (And.intro ⟨by omega, by rw [List.length_map]; omega⟩ (And.intro (of_decide_eq_true rfl) (And.intro (allLenI l) (And.intro rfl (And.intro rfl rfl)))))) ?_)) ?_
    refine And.intro ?_ trivial
    refine And.intro trivial (And.intro rfl (And.intro (by show (_ + _) * 8 ≤ 140737488355328; simp only [List.length_append, List.length_take, List.length_drop, List.length_map, List.length_cons, List.length_nil, rowsOf_len]; omega) (And.intro (allLenITD l _ _) ?_)))
    refine And.intro (by repeat (first | exact trivial | refine And.intro ⟨rfl, rfl⟩ ?_ | refine And.intro (And.intro ⟨by omega, by rw [List.length_map]; omega⟩ (And.intro (Nat.zero_le _) (And.intro (of_decide_eq_true rfl) (And.intro (allLenI l) (And.intro rfl (And.intro rfl rfl)))))) ?_ | refine And.intro (And.intro (Nat.le_refl _) (And.intro ⟨by omega, by rw [List.length_map]; omega⟩ (And.intro (of_decide_eq_true rfl) (And.intro (allLenI l) (And.intro rfl (And.intro rfl rfl)))))) ?_)) ?_
    refine And.intro ?_ trivial
    refine And.intro (by repeat (first | exact trivial | refine And.intro ⟨rfl, rfl⟩ ?_ | refine And.intro (And.intro ⟨by omega, by rw [List.length_map]; omega⟩ (And.intro (Nat.zero_le _) (And.intro (of_decide_eq_true rfl) (And.intro (allLenI l) (And.intro rfl (And.intro rfl rfl)))))) ?_ | refine And.intro (And.intro (Nat.le_refl _) (And.intro ⟨by omega, by rw [List.length_map]; omega⟩ (And.intro (of_decide_eq_true rfl) (And.intro (allLenI l) (And.intro rfl (And.intro rfl rfl)))))) ?_)) ?_
    refine ⟨p[i].st.length - (k + 1), by omega, k + 1, l.take a ++ [x.ord] ++ l.drop a, rfl, by omega, hnew, ?_⟩
    unfold sU2
    rw [← hwk]
    have e : (l.take a ++ [x.ord] ++ l.drop a).map rowI = (([] ++ ((l.map rowI).drop 0).take (((a : Nat) : Int).toNat - 0)) ++ [rowI x.ord]) ++ ((l.map rowI).drop ((a : Nat) : Int).toNat).take ((l.map rowI).length - ((a : Nat) : Int).toNat) := by
      have h9 : ((l.map rowI).drop ((a : Nat) : Int).toNat).take ((l.map rowI).length - ((a : Nat) : Int).toNat) = (l.map rowI).drop ((a : Nat) : Int).toNat := List.take_of_length_le (by rw [List.length_drop]; omega)
      rw [h9, Int.toNat_natCast]
      simp [List.map_take, List.map_drop]
    rw [e]
    rfl
end Go.Lv

namespace Go.Lv
open Go.Proofs

theorem okStopB {n : Nat} {x : List D} (h : OkD LT (n + 2) 23 x) : ∃ s : Stp, x = rowS s := by
  obtain ⟨x1, y1, rfl, _, h1, x2, y2, rfl, _, h2, rfl⟩ := h
  obtain ⟨i1, rfl, _⟩ := h1
  obtain ⟨b, rfl⟩ := h2
  exact ⟨⟨i1, b⟩, rfl⟩
theorem okStopsB {n : Nat} {x : List D} (h : OkD LT (n + 3) 24 x) : ∃ l : List Stp, x = [.list .imm (l.map rowS)] := by
  obtain ⟨xs, rfl, _, h⟩ := h
  have key : ∀ xs : List (List D), (∀ r, r ∈ xs → r.length = LT.size 23 ∧ OkD LT (n + 2) 23 r) → ∃ l : List Stp, xs = l.map rowS := by
    intro xs
    induction xs with
    | nil => intro _; exact ⟨[], rfl⟩
    | cons x r ih =>
      intro h
      obtain ⟨s, rfl⟩ := okStopB (h x (by simp)).2
      obtain ⟨l, rfl⟩ := ih fun y hy => h y (by simp [hy])
      exact ⟨s :: l, rfl⟩
  obtain ⟨l, rfl⟩ := key xs h
  exact ⟨l, rfl⟩
theorem okRouteB {n : Nat} {x : List D} (h : OkD LT (n + 4) 26 x) : ∃ r : Rte, x = rowR r := by
  obtain ⟨x1, y1, rfl, l1, h1, x2, y2, rfl, l2, h2, x3, y3, rfl, l3, h3, rfl⟩ := h
  obtain ⟨i1, rfl, _⟩ := h1
  obtain ⟨i2, rfl, _⟩ := h2
  obtain ⟨l, rfl⟩ := okStopsB h3
  exact ⟨⟨i1, i2, l⟩, rfl⟩
theorem okPlanB {n : Nat} {x : List D} (h : OkD LT (n + 5) 28 x) : ∃ p : Pln, x = [encP p] := by
  obtain ⟨xs, rfl, _, h⟩ := h
  have key : ∀ xs : List (List D), (∀ r, r ∈ xs → r.length = LT.size 26 ∧ OkD LT (n + 4) 26 r) → ∃ p : Pln, xs = p.map rowR := by
    intro xs
    induction xs with
    | nil => intro _; exact ⟨[], rfl⟩
    | cons x r ih =>
      intro h
      obtain ⟨s, rfl⟩ := okRouteB (h x (by simp)).2
      obtain ⟨l, rfl⟩ := ih (fun y hy => h y (by simp [hy]))
      exact ⟨s :: l, rfl⟩
  obtain ⟨p, rfl⟩ := key xs h
  exact ⟨p, rfl⟩
theorem bulk_S : ∀ l : List Stp, bulkLL (l.map rowS) = 2 * l.length
  | [] => by simp [bulkLL]
  | s :: l => by
    simp only [List.map_cons, bulkLL, rowS, bulkL, bulkD, bulk_S l, List.length_cons]
    omega
theorem bulk_P : ∀ p : Pln, (allO p).length ≤ bulkLL (p.map rowR) ∧ p.length ≤ bulkLL (p.map rowR) ∧ ∀ r, r ∈ p → r.st.length ≤ bulkLL (p.map rowR)
  | [] => by simp [allO]
  | r :: p => by
    obtain ⟨h1, h2, h3⟩ := bulk_P p
    have e : bulkLL ((r :: p).map rowR) = 3 + 2 * r.st.length + bulkLL (p.map rowR) := by
      simp only [List.map_cons, bulkLL, rowR, bulkL, bulkD, bulk_S]
      omega
    rw [e]
    refine ⟨?_, ?_, fun x hx => ?_⟩
    · unfold allO at h1 ⊢
      simp only [List.map_cons, List.flatten_cons, List.length_append, List.length_map]
      omega
    · simp only [List.length_cons]
      omega
    · rcases List.mem_cons.1 hx with hx | hx
      · subst hx; omega
      · have := h3 x hx; omega
set_option maxHeartbeats 8000000 in
theorem l4 (p : Pln) (hp : szP p) (htot : (allO p).length ≤ 4000000000000) (o : Int) : Tri Try.prog 4 0 [encP p, .int .i64 o] [] (fun d l => d = .bool true) := by
  refine Tri.walk2 (L := LT) (c := {n := 46, ko := [4], xf := [9, 15]}) [] [0, 1, 4, 5, 6, 7, 8] hLT hmix Try.func4 rfl rfl ⟨rfl, rfl⟩ (by show 2 ≤ 46; decide) (by first | exact Nat.zero_le _ | exact Nat.le_refl _ | decide) ?_
  have c1 := c_plan_Find_0 p hp o
  have c2 := c_drayref9_Find_0 p hp o
  have c3 := c_plan_Right_0 p
  have c4 := c_drayref9_Right_0 p
  have c5 := c_plan_Orders_0 p hp htot
  have c6 := c_drayref9_Orders_0 p hp htot
  have hol : (ordP p).length ≤ 1000000000000000 := by
    have h1 : (ordP p).length ≤ (allO p).length := by
      unfold ordP Lib.compact Lib.compactUpTo
      rw [List.length_map]
      refine Nat.le_trans (List.length_filter_le _ _) ?_
      rw [List.length_range, (sortI_perm _).length_eq]
      exact Nat.le_refl _
    omega
  have c7 := c_draybook_Same_int_0 (ordP p) (ordP p) hol hol
  rw [decide_eq_true rfl] at c7
  unfold findD at c1 c2
  generalize findP o p = f at c1 c2
  generalize rightP p = b at c3 c4
  cases f with
  | none =>
    refine ⟨rfl, (by first | exact Nat.zero_le _ | decide), (c1).mono ?_⟩
    rintro d l ⟨rfl, rfl⟩
    refine ⟨rfl, fun _ _ => rfl, rfl, ?_⟩
    refine ⟨rfl, (by first | exact Nat.zero_le _ | decide), (c2).mono ?_⟩
    rintro d l ⟨rfl, rfl⟩
    refine ⟨rfl, fun _ _ => rfl, rfl, ?_⟩
    cases b
    all_goals
      refine ⟨rfl, (by first | exact Nat.zero_le _ | decide), (c3).mono ?_⟩
      rintro d l ⟨rfl, rfl⟩
      refine ⟨rfl, fun _ _ => rfl, rfl, ?_⟩
      refine ⟨rfl, (by first | exact Nat.zero_le _ | decide), (c4).mono ?_⟩
      rintro d l ⟨rfl, rfl⟩
      refine ⟨rfl, fun _ _ => rfl, rfl, ?_⟩
      repeat (first | refine And.intro (fun _ => ?_) (fun h => Bool.noConfusion h) | refine And.intro (fun h => Bool.noConfusion h) (fun _ => ?_))
      refine ⟨rfl, Nat.zero_le _, c5.mono ?_⟩
      rintro d l ⟨⟨sz, rfl⟩, rfl⟩
      refine ⟨rfl, fun _ _ => rfl, rfl, ?_⟩
      refine ⟨rfl, (by first | exact Nat.zero_le _ | decide), (c6).mono ?_⟩
      rintro d l ⟨rfl, rfl⟩
      refine ⟨rfl, fun _ _ => rfl, rfl, ?_⟩
      refine ⟨rfl, (by first | exact Nat.zero_le _ | decide), (c7).mono ?_⟩
      rintro d l ⟨rfl, rfl⟩
      refine ⟨rfl, fun _ _ => rfl, rfl, ?_⟩
      repeat (first | refine And.intro (fun _ => ?_) (fun h => Bool.noConfusion h) | refine And.intro (fun h => Bool.noConfusion h) (fun _ => ?_))
      refine ⟨rfl, (by first | exact Nat.zero_le _ | decide), (tRuns).mono ?_⟩
      rintro d l ⟨rfl, rfl⟩
      refine ⟨rfl, fun _ _ => rfl, rfl, ?_⟩
      exact rfl
  | some s =>
    refine ⟨rfl, (by first | exact Nat.zero_le _ | decide), (c1).mono ?_⟩
    rintro d l ⟨rfl, rfl⟩
    refine ⟨rfl, fun _ _ => rfl, rfl, ?_⟩
    refine ⟨rfl, (by first | exact Nat.zero_le _ | decide), (c2).mono ?_⟩
    rintro d l ⟨rfl, rfl⟩
    refine ⟨rfl, fun _ _ => rfl, rfl, ?_⟩
    cases b
    all_goals
      refine ⟨rfl, (by first | exact Nat.zero_le _ | decide), (c3).mono ?_⟩
      rintro d l ⟨rfl, rfl⟩
      refine ⟨rfl, fun _ _ => rfl, rfl, ?_⟩
      refine ⟨rfl, (by first | exact Nat.zero_le _ | decide), (c4).mono ?_⟩
      rintro d l ⟨rfl, rfl⟩
      refine ⟨rfl, fun _ _ => rfl, rfl, ?_⟩
      repeat (first | refine And.intro (fun _ => ?_) (fun h => Bool.noConfusion h) | refine And.intro (fun h => Bool.noConfusion h) (fun _ => ?_))
      refine And.intro (fun _ => ?_) (fun h => absurd h (by simp))
      repeat (first | refine And.intro (fun _ => ?_) (fun h => Bool.noConfusion h) | refine And.intro (fun h => Bool.noConfusion h) (fun _ => ?_))
      refine ⟨rfl, Nat.zero_le _, c5.mono ?_⟩
      rintro d l ⟨⟨sz, rfl⟩, rfl⟩
      refine ⟨rfl, fun _ _ => rfl, rfl, ?_⟩
      refine ⟨rfl, (by first | exact Nat.zero_le _ | decide), (c6).mono ?_⟩
      rintro d l ⟨rfl, rfl⟩
      refine ⟨rfl, fun _ _ => rfl, rfl, ?_⟩
      refine ⟨rfl, (by first | exact Nat.zero_le _ | decide), (c7).mono ?_⟩
      rintro d l ⟨rfl, rfl⟩
      refine ⟨rfl, fun _ _ => rfl, rfl, ?_⟩
      repeat (first | refine And.intro (fun _ => ?_) (fun h => Bool.noConfusion h) | refine And.intro (fun h => Bool.noConfusion h) (fun _ => ?_))
      refine ⟨rfl, (by first | exact Nat.zero_le _ | decide), (tRuns).mono ?_⟩
      rintro d l ⟨rfl, rfl⟩
      refine ⟨rfl, fun _ _ => rfl, rfl, ?_⟩
      exact rfl
end Go.Lv
