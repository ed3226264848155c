/-
  Part 16 of the texts under the proof: an abstract run of loaded code on data, and what the functions do. No condition.
-/
import Derived.Test.YtbddalnnhelinaaM15
import Derived.Shelf.SlSortCmp.NoneTotal
import Derived.Ground.SlsfProg
import Derived.Ground.NamesProg
import Derived.KernelRfl
set_option linter.all false
set_option maxRecDepth 100000
namespace Go.Proofs
open Go.Shelf Go.RowKit Go.Lib Go.Sort
def Try.sortOrd_ren : Go.Shelf.Ren := ⟨fun | 6 => 40 | 15 => 59 | 14 => 60 | 28 => 85 | 29 => 86 | 20 => 87 | 21 => 88 | 22 => 89 | 23 => 90 | 24 => 91 | 25 => 92 | 26 => 93 | 27 => 94 | 46 => 111 | 47 => 106 | 48 => 107 | 49 => 112 | 50 => 113 | 57 => 117 | n => n, fun | 22 => 35 | 24 => 31 | 25 => 97 | 3 => 3 | 39 => 121 | 0 => 0 | 53 => 151 | 55 => 153 | 4 => 4 | 46 => 144 | 45 => 143 | 50 => 43 | 5 => 5 | 9 => 9 | 66 => 166 | 70 => 170 | 76 => 179 | 77 => 180 | n => n, fun | n => n⟩
theorem Try.sortOrd : Go.Proofs.SlLaysF0.n6 Try.prog Try.sortOrd_ren := {
  mixed := by kernel_rfl
  f6 := ⟨Try.f40.name, by decide, Try.func40.trans (congrArg some (by kernel_rfl))⟩
  f14 := ⟨Try.f60.name, by decide, Try.func60.trans (congrArg some (by kernel_rfl))⟩
  f15 := Try.func59.trans (congrArg some (by kernel_rfl))
  f20 := ⟨Try.f87.name, by decide, Try.func87.trans (congrArg some (by kernel_rfl))⟩
  f21 := ⟨Try.f88.name, by decide, Try.func88.trans (congrArg some (by kernel_rfl))⟩
  f22 := ⟨Try.f89.name, by decide, Try.func89.trans (congrArg some (by kernel_rfl))⟩
  f23 := ⟨Try.f90.name, by decide, Try.func90.trans (congrArg some (by kernel_rfl))⟩
  f24 := ⟨Try.f91.name, by decide, Try.func91.trans (congrArg some (by kernel_rfl))⟩
  f25 := ⟨Try.f92.name, by decide, Try.func92.trans (congrArg some (by kernel_rfl))⟩
  f26 := ⟨Try.f93.name, by decide, Try.func93.trans (congrArg some (by kernel_rfl))⟩
  f27 := ⟨Try.f94.name, by decide, Try.func94.trans (congrArg some (by kernel_rfl))⟩
  f28 := Try.func85.trans (congrArg some (by kernel_rfl))
  f29 := Try.func86.trans (congrArg some (by kernel_rfl))
  f46 := ⟨Try.f111.name, by decide, Try.func111.trans (congrArg some (by kernel_rfl))⟩
  f47 := Try.func106.trans (congrArg some (by kernel_rfl))
  f48 := Try.func107.trans (congrArg some (by kernel_rfl))
  f49 := ⟨Try.f112.name, by decide, Try.func112.trans (congrArg some (by kernel_rfl))⟩
  f50 := ⟨Try.f113.name, by decide, Try.func113.trans (congrArg some (by kernel_rfl))⟩
  f57 := ⟨Try.f117.name, by decide, Try.func117.trans (congrArg some (by kernel_rfl))⟩
  t0 := Try.underlying0
  a0 := Try.isAgg0
  z0 := Try.sizeOf0
  v0 := Try.zeroValue0
  t3 := Try.underlying3
  a3 := Try.isAgg3
  z3 := Try.sizeOf3
  v3 := Try.zeroValue3
  t4 := Try.underlying4
  a4 := Try.isAgg4
  z4 := Try.sizeOf4
  v4 := Try.zeroValue4
  t5 := Try.underlying5
  a5 := Try.isAgg5
  z5 := Try.sizeOf5
  v5 := Try.zeroValue5
  t9 := Try.underlying9
  a9 := Try.isAgg9
  z9 := Try.sizeOf9
  v9 := Try.zeroValue9
  t22 := Try.underlying35
  a22 := Try.isAgg35
  z22 := Try.sizeOf35
  v22 := Try.zeroValue35
  t25 := Try.underlying97
  a25 := Try.isAgg97
  z25 := Try.sizeOf97
  v25 := Try.zeroValue97
  t39 := Try.underlying121
  a39 := Try.isAgg121
  z39 := Try.sizeOf121
  v39 := Try.zeroValue121
  t45 := Try.underlying143
  a45 := Try.isAgg143
  z45 := Try.sizeOf143
  v45 := Try.zeroValue143
  t46 := Try.underlying144
  a46 := Try.isAgg144
  z46 := Try.sizeOf144
  v46 := Try.zeroValue144
  t50 := Try.underlying43
  a50 := Try.isAgg43
  z50 := Try.sizeOf43
  v50 := Try.zeroValue43
  t53 := Try.underlying151
  a53 := Try.isAgg151
  z53 := Try.sizeOf151
  v53 := Try.zeroValue151
  t55 := Try.underlying153
  a55 := Try.isAgg153
  z55 := Try.sizeOf153
  v55 := Try.zeroValue153
  t66 := Try.underlying166
  a66 := Try.isAgg166
  z66 := Try.sizeOf166
  v66 := Try.zeroValue166
  t70 := Try.underlying170
  a70 := Try.isAgg170
  z70 := Try.sizeOf170
  v70 := Try.zeroValue170
  t76 := Try.underlying179
  a76 := Try.isAgg179
  z76 := Try.sizeOf179
  v76 := Try.zeroValue179
  t77 := Try.underlying180
  a77 := Try.isAgg180
  z77 := Try.sizeOf180
  v77 := Try.zeroValue180 }
set_option maxHeartbeats 1000000 in
theorem Try.closure41 (zx zy : Int) (a1 a2 a3 a4 a5 a6 a7 a8 a9 b1 b2 b3 b4 b5 b6 b7 b8 b9 : Value) (W : World) (h1 : -4611686018427387904 ≤ zx) (h2 : zx ≤ 4611686018427387903) (h3 : -4611686018427387904 ≤ zy) (h4 : zy ≤ 4611686018427387903) :
    Calls Try.prog 41 #[.agg #[.int .i64 zx, a1, a2, a3, a4, a5, a6, a7, a8, a9], .agg #[.int .i64 zy, b1, b2, b3, b4, b5, b6, b7, b8, b9]] W fun e w' => e = .returned (.int .i64 (zx - zy)) ∧ ∃ q os', w' = grow (W.drewN q) os' := by
  go_enter Try.func41, Try.ntmps41
  go_wp2
  go_ret
  exact ⟨rfl, 0, _, by rw [alloc_eq_grow, alloc_eq_grow, grow_grow]; rfl⟩
end Go.Proofs
namespace Go.Lv
open Go Go.Proofs Go.Sort

theorem cmpOK41 : CmpOK Try.prog 41 10 0 := by
  intro x y zx zy hx hy hkx hky h1 h2 h3 h4 W
  match x, y, hx, hy with
  | [c, a1, a2, a3, a4, a5, a6, a7, a8, a9], [e, b1, b2, b3, b4, b5, b6, b7, b8, b9], _, _ =>
    have hc : c = .int .i64 zx := by simpa using hkx
    have he : e = .int .i64 zy := by simpa using hky
    subst hc he
    exact Try.closure41 zx zy a1 a2 a3 a4 a5 a6 a7 a8 a9 b1 b2 b3 b4 b5 b6 b7 b8 b9 W h1 h2 h3 h4
theorem sortOrdC : SortC Try.prog 40 41 10 0 :=
  sortC_of Try.sortOrd (by decide) (fun _ => by kernel_rfl) (fun _ => by kernel_rfl) ⟨_, Try.func40, rfl, rfl⟩ (enters_of Try.func41 (by kernel_rfl) rfl) cmpOK41
end Go.Lv

namespace Go.Lv
open Go.Proofs

theorem hmix : Try.prog.follows .mixedOrders = true := by kernel_rfl
theorem row_at {α : Type} {f : α → List D} (l : List α) {i : Nat} (hi : i < l.length) : (l.map f)[((i : Nat) : Int).toNat]? = some (f l[i]) := by
  rw [Int.toNat_natCast, List.getElem?_map, List.getElem?_eq_getElem hi]
  rfl
theorem wrap_succ {i n : Nat} (hi : i < n) (hn : n ≤ 1000000000000000) : IntKind.i64.wrap ((i : Int) + 1) = ((i + 1 : Nat) : Int) := by
  rw [wrap64 (by omega) (by omega)]
  omega
theorem row_at' {α : Type} (f : α → List D) (l : List α) {n : Int} {i : Nat} (h : n = (i : Int)) (hi : i < l.length) : (l.map f)[n.toNat]? = some (f l[i]) := by
  rw [h]
  exact row_at l hi
theorem nd_true {p : Prop} [Decidable p] (h : (!decide p) = true) : ¬ p := by simpa using h
theorem nd_false {p : Prop} [Decidable p] (h : (!decide p) = false) : p := by simpa using h
theorem NR.up {k k' : Nat} (h : k ≤ k') {d : D} (hd : NR k d) : NR k' d := by
  induction hd with
  | gptr j o hj => exact .gptr _ _ (Nat.lt_of_lt_of_le hj h)
  | map j hj => exact .map _ (Nat.lt_of_lt_of_le hj h)
  | fn f ds _ ih => exact .fn _ _ ih
  | list q xs _ ih => exact .list _ _ ih
  | agg cs _ ih => exact .agg _ ih
  | tup cs _ ih => exact .tup _ ih
  | int k n => exact .int _ _
  | bool b => exact .bool _
  | str s => exact .str _
  | nil => exact .nil
  | nilmap => exact .nilmap
  | nilfn => exact .nilfn
  | dead => exact .dead
theorem Tri.one {f : Nat} {o : Ob} {R : D → List Ob → Prop} (h : Tri Try.prog f 0 [.gptr 0 0] [o] R) (ho : nrO 0 o = true) (hbx : ([o].drop 0).all boxOK = true)
    (hok : ∀ d l, R d l → partsOK d = true ∧ (l.drop 0).all boxOK = true) {r b : Nat} {sto : List Ob} (hr : r ≤ b) (hb : sto[b]? = some o) (hid : ∀ ρ, renO ρ o = o) :
    Tri Try.prog f r [.gptr b 0] sto (fun d l => ∃ d' l', R d' l' ∧ d = renD (extR (fun _ => b) 1 sto.length) d' ∧ l = backSto (fun _ => b) 1 sto l') := by
  have hlt : b < sto.length := (List.getElem?_eq_some_iff.1 hb).1
  exact Tri.ren (r := r) (sto := sto) (fun _ => b) h (fun i j hi hj e => by
      have hi : i < 1 := hi
      have hj : j < 1 := hj
      omega) (fun i o' hi => by
      match i, hi with
      | 0, hi =>
        have : o' = o := by simpa using hi.symm
        rw [this, hid]
        exact hb
      | i + 1, hi => simp at hi) (fun i hi => ⟨fun h => absurd h (Nat.not_lt_zero _), fun h => by have : b < r := h; omega⟩) (by omega) rfl (fun x hx => by
      have : x = .gptr 0 0 := by simpa using hx
      rw [this]
      exact .gptr _ _ (by show 0 < 1; omega)) (fun o' ho' => by
      have : o' = o := by simpa using ho'
      rw [this]
      have h := nrO_nr (k := 0) ho
      cases o with
      | box cs => exact fun d hd => (h d hd).up (Nat.zero_le _)
      | map es => trivial) hbx hok
theorem nrBLL_I : ∀ l : List Int, nrBLL 0 (l.map rowI) = true
  | [] => rfl
  | b :: r => by
    show (nrBL 0 (rowI b) && nrBLL 0 (r.map rowI)) = true
    rw [nrBLL_I r]
    rfl
end Go.Lv

namespace Go.Lv
open Go.Proofs

structure Stp where
  ord : Int
  drop : Bool
  deriving DecidableEq
structure Rte where
  drv : Int
  srv : Int
  st : List Stp
  deriving DecidableEq
abbrev Pln := List Rte
noncomputable def rowS (s : Stp) : List D := [.int .i64 s.ord, .bool s.drop]
noncomputable def rowR (r : Rte) : List D := [.int .i64 r.drv, .int .i64 r.srv, .list .imm (r.st.map rowS)]
noncomputable def encP (p : Pln) : D := .list .imm (p.map rowR)
theorem nrBLL_S : ∀ l : List Stp, nrBLL 0 (l.map rowS) = true
  | [] => rfl
  | b :: r => by
    show (nrBL 0 (rowS b) && nrBLL 0 (r.map rowS)) = true
    rw [nrBLL_S r]
    rfl
theorem nrBLL_P : ∀ l : Pln, nrBLL 0 (l.map rowR) = true
  | [] => rfl
  | b :: r => by
    show ((true && (true && (nrBLL 0 (b.st.map rowS) && true))) && nrBLL 0 (r.map rowR)) = true
    rw [nrBLL_P r, nrBLL_S]
    rfl
theorem nrBL_S {l : List Stp} {ds : List D} (hd : nrBL 0 ds = true) : nrBL 0 (.list .imm (l.map rowS) :: ds) = true := by
  show (nrBLL 0 (l.map rowS) && nrBL 0 ds) = true
  rw [nrBLL_S, hd]
  rfl
theorem nrBL_P {l : Pln} {ds : List D} (hd : nrBL 0 ds = true) : nrBL 0 (encP l :: ds) = true := by
  show (nrBLL 0 (l.map rowR) && nrBL 0 ds) = true
  rw [nrBLL_P, hd]
  rfl
noncomputable def idxA (s : Stp) : Nat → List Stp → Int
  | _, [] => -1
  | i, x :: r => if x = s then (i : Int) else idxA s (i + 1) r
noncomputable def idxS (l : List Stp) (s : Stp) : Int := idxA s 0 l
theorem idxA_at {s : Stp} {l : List Stp} {i : Nat} (h : i < l.length) : idxA s i (l.drop i) = if l[i] = s then (i : Int) else idxA s (i + 1) (l.drop (i + 1)) := by
  rw [List.drop_eq_getElem_cons h]
  rfl
theorem stp_eq {a b : Stp} (h : (decide (a.ord = b.ord) && (a.drop == b.drop && true)) = true) : a = b := by
  obtain ⟨x, y⟩ := a
  obtain ⟨z, w⟩ := b
  simp only [Bool.and_true, Bool.and_eq_true, decide_eq_true_eq, beq_iff_eq] at h
  obtain ⟨rfl, rfl⟩ := h
  rfl
theorem stp_ne {a b : Stp} (h : (decide (a.ord = b.ord) && (a.drop == b.drop && true)) = false) : a ≠ b := by
  rintro rfl
  simp at h
noncomputable def sIx (l : List Stp) (v : Stp) (i : Nat) : DS := ⟨[(0, .list .imm (l.map rowS)), (3, .lptr 3 0 0), (7, .int .i64 (l.length : Int)), (8, .int .i64 (i : Int)), (4, .int .i64 0)], [(3, rowS v)], [], mR 0⟩
set_option maxHeartbeats 4000000 in
theorem c_slices_Index_Stop_0 (l : List Stp) (hl : l.length ≤ 1000000000000000) (v : Stp) : Tri Try.prog 95 0 [.list .imm (l.map rowS), .agg (rowS v)] [] (fun d k => d = .int .i64 (idxS l v) ∧ k = []) := by
  refine Tri.walk2 (L := LT) (c := {n := 19, ko := [4]}) [] [0, 1, 3, 4, 5, 7, 8, 9, 16] hLT hmix Try.func95 rfl rfl ⟨rfl, rfl⟩ (by show 2 ≤ 19; decide) (by first | exact Nat.zero_le _ | exact Nat.le_refl _ | exact Nat.le_succ 1 | decide) ?_
  show Ok _ _ _ _ _
  refine Ok.loopN hLT hmix [] [0, 1, 3, 4, 5, 7, 8, 9, 16] [0,3,7,8,4] [3] (fun n s => ∃ i : Nat, n = l.length - i ∧ i ≤ l.length ∧ idxA v i (l.drop i) = idxS l v ∧ s = sIx l v i) (n := l.length) ⟨0, rfl, Nat.zero_le _, rfl, by unfold sIx; rw [← List.length_map (f := rowS)]; rfl⟩ ?_
  rintro n s ⟨i, rfl, hi, hix, rfl⟩
  refine And.intro (fun h1 => ?_) (fun h1 => ?_)
  · have h1 : ((i : Nat) : Int) < (l.length : Int) := of_decide_eq_true h1
    have hw := wrap_succ (i := i) (n := l.length) (by omega) hl
    rw [idxA_at (by omega)] at hix
    refine ⟨⟨63, [0, 0, 0, 6, 8, 17], [1, 2, 4, 14, 30, 63]⟩, by kernel_rfl, ?_⟩
    refine ⟨(l).map rowS, rowS ((l)[i]'(by omega)), rfl, by omega, row_at' rowS (l) (by omega) (by omega), rfl, of_decide_eq_true rfl, ?_⟩
    refine And.intro rfl ?_
    refine And.intro (fun h2 => ?_) (fun h2 => ?_)
    · have h2 := stp_eq h2
      rw [if_pos h2.symm] at hix
      rw [← hix]
      exact And.intro rfl rfl
    · have h2 := stp_ne h2
      rw [if_neg (fun e => h2 e.symm)] at hix
      refine ⟨l.length - (i + 1), by omega, i + 1, rfl, by omega, hix, ?_⟩
      unfold sIx
      rw [← hw]
      rfl
  · have h1 : ¬ ((i : Nat) : Int) < (l.length : Int) := of_decide_eq_false h1
    rw [List.drop_eq_nil_of_le (by omega)] at hix
    rw [← hix]
    exact And.intro rfl rfl
theorem c_slices_Index_Stop (l : List Stp) (hl : l.length ≤ 1000000000000000) (v : Stp) {r : Nat} {sto : List Ob} (hr : r ≤ sto.length) : Tri Try.prog 95 r [.list .imm (l.map rowS), .agg (rowS v)] sto (fun d k => d = .int .i64 (idxS l v) ∧ k = sto) :=
  (c_slices_Index_Stop_0 l hl v).pure rfl (nrBL_S rfl) rfl rfl hr
structure Spt where
  drv : Int
  pick : Int
  drop : Int
  cost : Int
  deriving DecidableEq
noncomputable def encSpt (s : Spt) : D := .agg [.int .i64 s.drv, .int .i64 s.pick, .int .i64 s.drop, .int .i64 s.cost]
noncomputable def findP (o : Int) : Pln → Option Spt
  | [] => none
  | r :: p => if idxS r.st ⟨o, false⟩ ≥ 0 ∨ idxS r.st ⟨o, true⟩ ≥ 0 then some ⟨r.drv, idxS r.st ⟨o, false⟩, idxS r.st ⟨o, true⟩, 0⟩ else findP o p
noncomputable def findD (o : Int) (p : Pln) : D := match findP o p with
  | some s => .tup [encSpt s, .bool true]
  | none => .tup [encSpt ⟨0, 0, 0, 0⟩, .bool false]
theorem findP_at {o : Int} {p : Pln} {i : Nat} (h : i < p.length) : findP o (p.drop i) = if idxS p[i].st ⟨o, false⟩ ≥ 0 ∨ idxS p[i].st ⟨o, true⟩ ≥ 0 then some ⟨p[i].drv, idxS p[i].st ⟨o, false⟩, idxS p[i].st ⟨o, true⟩, 0⟩ else findP o (p.drop (i + 1)) := by
  rw [List.drop_eq_getElem_cons h]
  rfl
structure szP (p : Pln) : Prop where
  len : p.length ≤ 1000000000000000
  st : ∀ r, r ∈ p → r.st.length ≤ 1000000000000000
noncomputable def sFi (p : Pln) (o : Int) (i : Nat) : DS := ⟨[(1, .int .i64 o), (9, encP p), (10, .int .i64 (p.length : Int)), (11, .int .i64 (i : Int)), (4, .lptr 4 0 0), (5, .bool false)], [(4, [.int .i64 0, .int .i64 0, .int .i64 0, .int .i64 0])], [], mR 0⟩
set_option maxHeartbeats 4000000 in
theorem c_plan_Find_0 (p : Pln) (hp : szP p) (o : Int) : Tri Try.prog 61 0 [encP p, .int .i64 o] [] (fun d k => d = findD o p ∧ k = []) := by
  refine Tri.walk2 (L := LT) (c := {n := 39, ko := [5], kb := [4]}) [] [0, 1, 4, 5, 7, 8, 9, 10, 11, 12, 35] hLT hmix Try.func61 rfl rfl ⟨rfl, rfl⟩ (by show 2 ≤ 39; decide) (by first | exact Nat.zero_le _ | exact Nat.le_refl _ | exact Nat.le_succ 1 | decide) ?_
  show Ok _ _ _ _ _
  refine Ok.loopN hLT hmix [] [0, 1, 4, 5, 7, 8, 9, 10, 11, 12, 35] [1,9,10,11,4,5] [4] (fun n s => ∃ i : Nat, n = p.length - i ∧ i ≤ p.length ∧ findP o (p.drop i) = findP o p ∧ s = sFi p o i) (n := p.length) ⟨0, rfl, Nat.zero_le _, rfl, by unfold sFi; rw [← List.length_map (f := rowR)]; rfl⟩ ?_
  rintro n s ⟨i, rfl, hi, hix, rfl⟩
  unfold findD
  refine And.intro (fun h1 => ?_) (fun h1 => ?_)
  · have h1 : ((i : Nat) : Int) < (p.length : Int) := of_decide_eq_true h1
    have hw := wrap_succ (i := i) (n := p.length) (by omega) hp.len
    have hst := hp.st p[i] (List.getElem_mem _)
    rw [findP_at (by omega)] at hix
    refine ⟨(p).map rowR, rowR ((p)[i]'(by omega)), rfl, by omega, row_at' rowR (p) (by omega) (by omega), rfl, of_decide_eq_true rfl, ?_⟩
    refine ⟨⟨16383, [0, 1, 0, 4, 0, 16, 40, 0, 128, 0, 512, 1344, 2114, 0, 16383], [1, 3, 4, 12, 16, 48, 124, 128, 384, 512, 1536, 4092, 8191, 8192, 32767]⟩, by kernel_rfl, ?_⟩
    refine And.intro ?_ (And.intro ?_ trivial)
    rotate_left
    refine And.intro (by repeat (first | exact trivial | refine And.intro ⟨rfl, rfl⟩ ?_)) ?_
    refine And.intro ?_ trivial
    refine ⟨rfl, (by first | exact Nat.zero_le _ | exact Nat.le_refl _ | exact Nat.le_succ 1 | decide), (c_slices_Index_Stop p[i].st hst ⟨o, false⟩ (r := 0) (sto := []) (Nat.le_refl 0)).mono ?_⟩
    rintro d l ⟨rfl, rfl⟩
    refine ⟨rfl, fun _ _ => rfl, rfl, ?_⟩
    refine And.intro (by repeat (first | exact trivial | refine And.intro ⟨rfl, rfl⟩ ?_)) ?_
    refine And.intro ?_ trivial
    refine ⟨rfl, (by first | exact Nat.zero_le _ | exact Nat.le_refl _ | exact Nat.le_succ 1 | decide), (c_slices_Index_Stop p[i].st hst ⟨o, true⟩ (r := 0) (sto := []) (Nat.le_refl 0)).mono ?_⟩
    rintro d l ⟨rfl, rfl⟩
    refine ⟨rfl, fun _ _ => rfl, rfl, ?_⟩
    refine And.intro (by repeat (first | exact trivial | refine And.intro ⟨rfl, rfl⟩ ?_)) ?_
    refine And.intro ?_ trivial
    refine And.intro (by repeat (first | exact trivial | refine And.intro ⟨rfl, rfl⟩ ?_)) ?_
    rotate_left
    refine ⟨rfl, (by first | exact Nat.zero_le _ | exact Nat.le_refl _ | exact Nat.le_succ 1 | decide), (c_slices_Index_Stop p[i].st hst ⟨o, false⟩ (r := 0) (sto := []) (Nat.le_refl 0)).mono ?_⟩
    rintro d l ⟨rfl, rfl⟩
    refine ⟨rfl, fun _ _ => rfl, rfl, ?_⟩
    refine And.intro (by repeat (first | exact trivial | refine And.intro ⟨rfl, rfl⟩ ?_)) ?_
    refine And.intro ?_ (And.intro ?_ trivial)
    rotate_left
    refine And.intro (by repeat (first | exact trivial | refine And.intro ⟨rfl, rfl⟩ ?_)) ?_
    refine And.intro ?_ trivial
    refine ⟨rfl, (by first | exact Nat.zero_le _ | exact Nat.le_refl _ | exact Nat.le_succ 1 | decide), (c_slices_Index_Stop p[i].st hst ⟨o, true⟩ (r := 0) (sto := []) (Nat.le_refl 0)).mono ?_⟩
    rintro d l ⟨rfl, rfl⟩
    refine ⟨rfl, fun _ _ => rfl, rfl, ?_⟩
    refine And.intro (by repeat (first | exact trivial | refine And.intro ⟨rfl, rfl⟩ ?_)) ?_
    refine And.intro ?_ trivial
    refine And.intro (by repeat (first | exact trivial | refine And.intro ⟨rfl, rfl⟩ ?_)) ?_
    rotate_left
    rotate_left
    refine ⟨rfl, (by first | exact Nat.zero_le _ | exact Nat.le_refl _ | exact Nat.le_succ 1 | decide), (c_slices_Index_Stop p[i].st hst ⟨o, true⟩ (r := 0) (sto := []) (Nat.le_refl 0)).mono ?_⟩
    rintro d l ⟨rfl, rfl⟩
    refine ⟨rfl, fun _ _ => rfl, rfl, ?_⟩
    refine And.intro (by repeat (first | exact trivial | refine And.intro ⟨rfl, rfl⟩ ?_)) ?_
    refine And.intro ?_ trivial
    refine And.intro (by repeat (first | exact trivial | refine And.intro ⟨rfl, rfl⟩ ?_)) ?_
    refine And.intro ?_ trivial
    refine And.intro (by repeat (first | exact trivial | refine And.intro ⟨rfl, rfl⟩ ?_)) ?_
    all_goals
      refine And.intro (fun h2 => ?_) (fun h2 => ?_)
      · repeat (first | refine And.intro (fun _ => ?_) (fun h => Bool.noConfusion h) | refine And.intro (fun h => Bool.noConfusion h) (fun _ => ?_))
        have h2 : idxS p[i].st ⟨o, false⟩ ≥ 0 := of_decide_eq_true h2
        rw [if_pos (.inl h2)] at hix
        rw [← hix]
        exact And.intro rfl rfl
      · repeat (first | refine And.intro (fun _ => ?_) (fun h => Bool.noConfusion h) | refine And.intro (fun h => Bool.noConfusion h) (fun _ => ?_))
        have h2 : ¬ idxS p[i].st ⟨o, false⟩ ≥ 0 := of_decide_eq_false h2
        refine And.intro (fun h3 => ?_) (fun h3 => ?_)
        · repeat (first | refine And.intro (fun _ => ?_) (fun h => Bool.noConfusion h) | refine And.intro (fun h => Bool.noConfusion h) (fun _ => ?_))
          have h3 : idxS p[i].st ⟨o, true⟩ ≥ 0 := of_decide_eq_true h3
          rw [if_pos (.inr h3)] at hix
          rw [← hix]
          exact And.intro rfl rfl
        · repeat (first | refine And.intro (fun _ => ?_) (fun h => Bool.noConfusion h) | refine And.intro (fun h => Bool.noConfusion h) (fun _ => ?_))
          have h3 : ¬ idxS p[i].st ⟨o, true⟩ ≥ 0 := of_decide_eq_false h3
          rw [if_neg (fun h => h.elim h2 h3)] at hix
          refine ⟨p.length - (i + 1), by omega, i + 1, rfl, by omega, hix, ?_⟩
          unfold sFi
          rw [← hw]
          rfl
  · have h1 : ¬ ((i : Nat) : Int) < (p.length : Int) := of_decide_eq_false h1
    rw [List.drop_eq_nil_of_le (by omega)] at hix
    rw [← hix]
    exact And.intro rfl rfl
theorem findD_ok (o : Int) (p : Pln) : partsOK (findD o p) = true ∧ nrB 0 (findD o p) = true := by
  unfold findD
  split <;> exact ⟨rfl, rfl⟩
theorem c_plan_Find (p : Pln) (hp : szP p) (o : Int) {r : Nat} {sto : List Ob} (hr : r ≤ sto.length) : Tri Try.prog 61 r [encP p, .int .i64 o] sto (fun d k => d = findD o p ∧ k = sto) :=
  (c_plan_Find_0 p hp o).pure rfl (nrBL_P rfl) (findD_ok o p).1 (findD_ok o p).2 hr
end Go.Lv

namespace Go.Lv
open Go.Proofs

noncomputable def stOK (seen : List Stp) : List Stp → Bool
  | [] => true
  | s :: l => decide (1 ≤ s.ord ∧ s.ord ≤ 1000000 ∧ s ∉ seen) && stOK (seen ++ [s]) l
noncomputable def hdOK (last : Int) (r : Rte) : Prop := last < r.drv ∧ r.drv ≤ 1000000 ∧ r.st.length ≤ 80 ∧ 0 ≤ r.srv ∧ r.srv ≤ r.st.length
noncomputable instance (last : Int) (r : Rte) : Decidable (hdOK last r) := by unfold hdOK; infer_instance
noncomputable def rightG (last : Int) (seen : List Stp) : Pln → Bool
  | [] => true
  | r :: p => decide (hdOK last r) && (stOK seen r.st && rightG r.drv (seen ++ r.st) p)
noncomputable def rightP (p : Pln) : Bool := decide (p.length ≤ 8) && rightG 0 [] p
noncomputable def encM (seen : List Stp) : List (D × D) := seen.map fun s => (.agg (rowS s), .int .i64 1)
theorem findM (s : Stp) : ∀ seen : List Stp, findE LT 37 (.agg (rowS s)) (encM seen) = some (if s ∈ seen then some (.int .i64 1) else none)
  | [] => rfl
  | x :: r => by
    have ih := findM s r
    have e : eqD LT 37 (.agg (rowS s)) (.agg (rowS x)) = some (decide (s.ord = x.ord) && (s.drop == x.drop && true)) := rfl
    show (match eqD LT 37 (.agg (rowS s)) (.agg (rowS x)) with | some true => some (some (D.int .i64 1)) | some false => findE LT 37 (.agg (rowS s)) (encM r) | none => none) = _
    rw [e]
    cases hb : (decide (s.ord = x.ord) && (s.drop == x.drop && true)) with
    | true => rw [if_pos (by rw [stp_eq hb]; simp)]
    | false =>
      have hn := stp_ne hb
      simp only [ih, List.mem_cons, hn, false_or]
theorem findM_new {s : Stp} {v : D} : ∀ {seen : List Stp}, s ∉ seen → findE LT 37 (.agg (rowS s)) (encM seen ++ [(D.agg (rowS s), v)]) = some (some v)
  | [], _ => by
    have e : eqD LT 37 (.agg (rowS s)) (.agg (rowS s)) = some (decide (s.ord = s.ord) && (s.drop == s.drop && true)) := rfl
    show (match eqD LT 37 (.agg (rowS s)) (.agg (rowS s)) with | some true => some (some v) | some false => some none | none => none) = _
    rw [e]
    simp
  | x :: r, h => by
    have ih := findM_new (v := v) (seen := r) (fun q => h (List.mem_cons_of_mem _ q))
    have e : eqD LT 37 (.agg (rowS s)) (.agg (rowS x)) = some (decide (s.ord = x.ord) && (s.drop == x.drop && true)) := rfl
    show (match eqD LT 37 (.agg (rowS s)) (.agg (rowS x)) with | some true => some (some (D.int .i64 1)) | some false => findE LT 37 (.agg (rowS s)) (encM r ++ [(D.agg (rowS s), v)]) | none => none) = _
    rw [e]
    cases hb : (decide (s.ord = x.ord) && (s.drop == x.drop && true)) with
    | true => exact absurd (by rw [stp_eq hb]; simp) h
    | false => exact ih
theorem findM_no {s : Stp} {seen : List Stp} (h : s ∉ seen) : findE LT 37 (.agg (rowS s)) (encM seen) = some none := by rw [findM, if_neg h]
theorem encM_snoc (seen : List Stp) (s : Stp) : (encM seen ++ [(D.agg (rowS s), D.int .i64 0)]).set (encM seen).length (D.agg (rowS s), D.int .i64 1) = encM (seen ++ [s]) := by
  rw [List.set_append_right _ _ (Nat.le_refl _), Nat.sub_self]
  simp [encM]
theorem stOK_at {seen l : List Stp} {i : Nat} (h : i < l.length) : stOK (seen ++ l.take i) (l.drop i) = (decide (1 ≤ l[i].ord ∧ l[i].ord ≤ 1000000 ∧ l[i] ∉ seen ++ l.take i) && stOK (seen ++ l.take (i + 1)) (l.drop (i + 1))) := by
  rw [List.drop_eq_getElem_cons h]
  show (_ && stOK (seen ++ l.take i ++ [l[i]]) (l.drop (i + 1))) = _
  rw [List.append_assoc, List.take_succ_eq_append_getElem h]
theorem rightG_at {last : Int} {seen : List Stp} {p : Pln} {i : Nat} (h : i < p.length) : rightG last seen (p.drop i) = (decide (hdOK last p[i]) && (stOK seen p[i].st && rightG p[i].drv (seen ++ p[i].st) (p.drop (i + 1)))) := by
  rw [List.drop_eq_getElem_cons h]
  rfl
noncomputable def sRi (p : Pln) (last : Int) (seen : List Stp) (i : Nat) : DS := ⟨[(3, .int .i64 last), (4, .map 0), (13, encP p), (14, .int .i64 (p.length : Int)), (15, .int .i64 (i : Int)), (2, .bool false)], [], [.map (encM seen)], mR 0⟩
noncomputable def sRj (p : Pln) (last : Int) (seen : List Stp) (l : List Stp) (i j : Nat) : DS := ⟨[(3, .int .i64 last), (4, .map 0), (13, encP p), (14, .int .i64 (p.length : Int)), (15, .int .i64 (i : Int)), (50, .list .imm (l.map rowS)), (51, .int .i64 (l.length : Int)), (52, .int .i64 (j : Int)), (2, .bool false)], [], [.map (encM seen)], mR 0⟩
set_option maxHeartbeats 8000000 in
theorem c_plan_Right_1 (p : Pln) : Tri Try.prog 36 0 [encP p] [] (fun d k => d = .bool (rightP p) ∧ (k = [] ∨ ∃ es, k = [.map es])) := by
  refine Tri.walk2 (L := LT) (c := {n := 78, ko := [2]}) [] [0, 2, 3, 4, 6, 8, 11, 13, 14, 15, 16, 46, 50, 51, 52, 53, 69] hLT hmix Try.func36 rfl rfl ⟨rfl, rfl⟩ (by show 1 ≤ 78; decide) (by first | exact Nat.zero_le _ | exact Nat.le_refl _ | exact Nat.le_succ 1 | decide) ?_
  unfold rightP
  refine And.intro (fun h0 => ?_) (fun h0 => ?_)
  · have h0 : ((p.map rowR).length : Int) > 8 := of_decide_eq_true h0
    rw [List.length_map] at h0
    rw [decide_eq_false (show ¬ p.length ≤ 8 by omega)]
    exact And.intro rfl (.inl rfl)
  · have h0 : ¬ ((p.map rowR).length : Int) > 8 := of_decide_eq_false h0
    rw [List.length_map] at h0
    have hp8 : p.length ≤ 8 := by omega
    rw [decide_eq_true hp8, Bool.true_and]
    show Ok _ _ _ _ _
    refine Ok.loopN hLT hmix [] [0, 2, 3, 4, 6, 8, 11, 13, 14, 15, 16, 46, 50, 51, 52, 53, 69] [3,4,13,14,15,2] [] (fun n s => ∃ (i : Nat) (last : Int) (seen : List Stp), n = p.length - i ∧ i ≤ p.length ∧ rightG last seen (p.drop i) = rightG 0 [] p ∧ s = sRi p last seen i) (n := p.length) ⟨0, 0, [], rfl, Nat.zero_le _, rfl, by unfold sRi; rw [← List.length_map (f := rowR)]; rfl⟩ ?_
    rintro n s ⟨i, last, seen, rfl, hi, hix, rfl⟩
    refine And.intro (fun h1 => ?_) (fun h1 => ?_)
    · have h1 : ((i : Nat) : Int) < (p.length : Int) := of_decide_eq_true h1
      have hw := wrap_succ (i := i) (n := p.length) (by omega) (by omega)
      rw [rightG_at (by omega)] at hix
      refine ⟨(p).map rowR, rowR ((p)[i]'(by omega)), rfl, by omega, row_at' rowR (p) (by omega) (by omega), rfl, of_decide_eq_true rfl, ?_⟩
      generalize p[i] = r at hix ⊢
      have bad : ¬ hdOK last r → false = rightG 0 [] p := fun h => by rw [← hix, decide_eq_false h]; rfl
      refine And.intro (fun q1 => ?_) (fun q1 => ?_)
      · repeat (first | refine And.intro (fun _ => ?_) (fun h => Bool.noConfusion h) | refine And.intro (fun h => Bool.noConfusion h) (fun _ => ?_))
        exact And.intro (congrArg D.bool (bad (fun h => absurd (of_decide_eq_true q1) (by exact Int.not_le.2 h.1)))) (.inr ⟨_, rfl⟩)
      repeat (first | refine And.intro (fun _ => ?_) (fun h => Bool.noConfusion h) | refine And.intro (fun h => Bool.noConfusion h) (fun _ => ?_))
      have q1 := of_decide_eq_false q1
      refine And.intro (fun q2 => ?_) (fun q2 => ?_)
      · repeat (first | refine And.intro (fun _ => ?_) (fun h => Bool.noConfusion h) | refine And.intro (fun h => Bool.noConfusion h) (fun _ => ?_))
        exact And.intro (congrArg D.bool (bad (fun h => absurd (of_decide_eq_true q2) (by exact Int.not_lt.2 h.2.1)))) (.inr ⟨_, rfl⟩)
      repeat (first | refine And.intro (fun _ => ?_) (fun h => Bool.noConfusion h) | refine And.intro (fun h => Bool.noConfusion h) (fun _ => ?_))
      have q2 := of_decide_eq_false q2
      refine And.intro (fun q3 => ?_) (fun q3 => ?_)
      · repeat (first | refine And.intro (fun _ => ?_) (fun h => Bool.noConfusion h) | refine And.intro (fun h => Bool.noConfusion h) (fun _ => ?_))
        exact And.intro (congrArg D.bool (bad (fun h => absurd (of_decide_eq_true q3) (by rw [List.length_map]; have := h.2.2.1; omega)))) (.inr ⟨_, rfl⟩)
      repeat (first | refine And.intro (fun _ => ?_) (fun h => Bool.noConfusion h) | refine And.intro (fun h => Bool.noConfusion h) (fun _ => ?_))
      have q3 := of_decide_eq_false q3
      refine And.intro (fun q4 => ?_) (fun q4 => ?_)
      · repeat (first | refine And.intro (fun _ => ?_) (fun h => Bool.noConfusion h) | refine And.intro (fun h => Bool.noConfusion h) (fun _ => ?_))
        exact And.intro (congrArg D.bool (bad (fun h => absurd (of_decide_eq_true q4) (by exact Int.not_lt.2 h.2.2.2.1)))) (.inr ⟨_, rfl⟩)
      repeat (first | refine And.intro (fun _ => ?_) (fun h => Bool.noConfusion h) | refine And.intro (fun h => Bool.noConfusion h) (fun _ => ?_))
      have q4 := of_decide_eq_false q4
      refine And.intro (fun q5 => ?_) (fun q5 => ?_)
      · repeat (first | refine And.intro (fun _ => ?_) (fun h => Bool.noConfusion h) | refine And.intro (fun h => Bool.noConfusion h) (fun _ => ?_))
        exact And.intro (congrArg D.bool (bad (fun h => absurd (of_decide_eq_true q5) (by rw [List.length_map]; exact Int.not_lt.2 h.2.2.2.2)))) (.inr ⟨_, rfl⟩)
      repeat (first | refine And.intro (fun _ => ?_) (fun h => Bool.noConfusion h) | refine And.intro (fun h => Bool.noConfusion h) (fun _ => ?_))
      have q5 := of_decide_eq_false q5
      rw [List.length_map] at q3 q5
      have hok : hdOK last r := ⟨by omega, by omega, by omega, by omega, by omega⟩
      rw [decide_eq_true hok, Bool.true_and] at hix
      show Ok _ _ _ _ _
      refine Ok.loopN hLT hmix [] [0, 2, 3, 4, 6, 8, 11, 13, 14, 15, 16, 46, 50, 51, 52, 53, 69] [3,4,13,14,15,50,51,52,2] [] (fun n s => ∃ (j : Nat), n = r.st.length - j ∧ j ≤ r.st.length ∧ (stOK (seen ++ r.st.take j) (r.st.drop j) && rightG r.drv (seen ++ r.st) (p.drop (i + 1))) = rightG 0 [] p ∧ s = sRj p r.drv (seen ++ r.st.take j) r.st i j) (n := r.st.length) ⟨0, rfl, Nat.zero_le _, by rw [List.take_zero, List.append_nil]; exact hix, by rw [List.take_zero, List.append_nil]; unfold sRj; rw [← List.length_map (f := rowS)]; rfl⟩ ?_
      rintro n s ⟨j, rfl, hj, hjx, rfl⟩
      refine And.intro (fun g1 => ?_) (fun g1 => ?_)
      · have g1 : ((j : Nat) : Int) < (r.st.length : Int) := of_decide_eq_true g1
        have hwj := wrap_succ (i := j) (n := r.st.length) (by omega) (by omega)
        rw [stOK_at (by omega)] at hjx
        have htk : seen ++ r.st.take (j + 1) = seen ++ r.st.take j ++ [r.st[j]] := by
          rw [List.append_assoc, List.take_succ_eq_append_getElem (by omega)]
        rw [htk] at hjx
        refine ⟨(r.st).map rowS, rowS ((r.st)[j]'(by omega)), rfl, by omega, row_at' rowS (r.st) (by omega) (by omega), rfl, of_decide_eq_true rfl, ?_⟩
        generalize r.st[j] = x at hjx htk ⊢
        generalize seen ++ r.st.take j = sn at hjx htk ⊢
        have badx : ¬ (1 ≤ x.ord ∧ x.ord ≤ 1000000 ∧ x ∉ sn) → false = rightG 0 [] p := fun h => by rw [← hjx, decide_eq_false h]; rfl
        refine And.intro (fun w1 => ?_) (fun w1 => ?_)
        · repeat (first | refine And.intro (fun _ => ?_) (fun h => Bool.noConfusion h) | refine And.intro (fun h => Bool.noConfusion h) (fun _ => ?_))
          exact And.intro (congrArg D.bool (badx (fun h => absurd (of_decide_eq_true w1) (by have := h.1; omega)))) (.inr ⟨_, rfl⟩)
        repeat (first | refine And.intro (fun _ => ?_) (fun h => Bool.noConfusion h) | refine And.intro (fun h => Bool.noConfusion h) (fun _ => ?_))
        have w1 := of_decide_eq_false w1
        refine And.intro (fun w2 => ?_) (fun w2 => ?_)
        · repeat (first | refine And.intro (fun _ => ?_) (fun h => Bool.noConfusion h) | refine And.intro (fun h => Bool.noConfusion h) (fun _ => ?_))
          exact And.intro (congrArg D.bool (badx (fun h => absurd (of_decide_eq_true w2) (by have := h.2.1; omega)))) (.inr ⟨_, rfl⟩)
        repeat (first | refine And.intro (fun _ => ?_) (fun h => Bool.noConfusion h) | refine And.intro (fun h => Bool.noConfusion h) (fun _ => ?_))
        have w2 := of_decide_eq_false w2
        refine And.intro rfl ⟨_, findM x sn, ?_⟩
        by_cases hm : x ∈ sn
        · rw [if_pos hm]
          repeat (first | refine And.intro (fun _ => ?_) (fun h => Bool.noConfusion h) | refine And.intro (fun h => Bool.noConfusion h) (fun _ => ?_))
          exact And.intro (congrArg D.bool (badx (fun h => h.2.2 hm))) (.inr ⟨_, rfl⟩)
        · rw [if_neg hm]
          repeat (first | refine And.intro (fun _ => ?_) (fun h => Bool.noConfusion h) | refine And.intro (fun h => Bool.noConfusion h) (fun _ => ?_))
          have hxok : 1 ≤ x.ord ∧ x.ord ≤ 1000000 ∧ x ∉ sn := ⟨by omega, by omega, hm⟩
          rw [decide_eq_true hxok, Bool.true_and] at hjx
          refine ⟨⟨63, [0, 0, 3, 4, 3, 16, 63], [1, 2, 7, 15, 19, 51, 127]⟩, by kernel_rfl, ?_⟩
          refine And.intro rfl ⟨_, findM x sn, ?_⟩
          rw [if_neg hm]
          refine And.intro rfl ?_
          refine And.intro ?_ trivial
          refine mapEntry_new rfl rfl rfl rfl rfl rfl rfl (findM_no hm) rfl ?_
          refine And.intro (And.intro ⟨rfl, rfl⟩ (And.intro ⟨rfl, _, findM_new hm, And.intro rfl (And.intro rfl rfl)⟩ trivial)) ?_
          refine And.intro ?_ trivial
          refine entryStore_any rfl rfl rfl rfl rfl rfl List.getElem?_concat_length ?_
          refine And.intro trivial ?_
          refine ⟨r.st.length - (j + 1), by omega, j + 1, rfl, by omega, by rw [htk]; exact hjx, ?_⟩
          unfold sRj
          rw [htk, ← encM_snoc, ← hwj]
          rfl
      · have g1 : ¬ ((j : Nat) : Int) < (r.st.length : Int) := of_decide_eq_false g1
        rw [List.drop_eq_nil_of_le (by omega)] at hjx
        have hjx : rightG r.drv (seen ++ r.st) (p.drop (i + 1)) = rightG 0 [] p := hjx
        rw [List.take_of_length_le (by omega)]
        refine ⟨p.length - (i + 1), by omega, i + 1, r.drv, seen ++ r.st, rfl, by omega, hjx, ?_⟩
        unfold sRi
        rw [← hw]
        rfl
    · have h1 : ¬ ((i : Nat) : Int) < (p.length : Int) := of_decide_eq_false h1
      rw [List.drop_eq_nil_of_le (by omega)] at hix
      rw [← hix]
      exact And.intro rfl (.inr ⟨_, rfl⟩)
theorem c_plan_Right_0 (p : Pln) : Tri Try.prog 36 0 [encP p] [] (fun d k => d = .bool (rightP p) ∧ k = []) :=
  Tri.forget (c_plan_Right_1 p) (fun d l h _ => ⟨0, Nat.zero_le _, Nat.zero_le _, by rw [h.1]; exact .bool _, fun o ho => absurd ho (by simp), h.1, rfl⟩)
theorem c_plan_Right (p : Pln) {r : Nat} {sto : List Ob} (hr : r ≤ sto.length) : Tri Try.prog 36 r [encP p] sto (fun d k => d = .bool (rightP p) ∧ k = sto) :=
  (c_plan_Right_0 p).pure rfl (nrBL_P rfl) rfl rfl hr
end Go.Lv

namespace Go.Lv
open Go.Proofs

structure Win where
  lo : Int
  hi : Int
  deriving DecidableEq
structure Sit where
  place : Int
  w : Win
  serv : Int
  deriving DecidableEq
structure Ord where
  id : Int
  size : Int
  pick : Sit
  drop : Sit
  deriving DecidableEq
structure Drv where
  id : Int
  room : Int
  home : Int
  w : Win
  ret : Bool
  deriving DecidableEq
structure Mp where
  n : Int
  l : List Int
  deriving DecidableEq
structure okMp (m : Mp) : Prop where
  n1 : 1 ≤ m.n
  n12 : m.n ≤ 12
  len : (m.l.length : Int) = m.n * m.n
  t : ∀ x, x ∈ m.l → 0 ≤ x ∧ x ≤ 1000000
noncomputable def rowW (w : Win) : List D := [.int .i64 w.lo, .int .i64 w.hi]
noncomputable def rowSi (s : Sit) : List D := [.int .i64 s.place, .int .i64 s.w.lo, .int .i64 s.w.hi, .int .i64 s.serv]
noncomputable def rowO (o : Ord) : List D := [.int .i64 o.id, .int .i64 o.size, .int .i64 o.pick.place, .int .i64 o.pick.w.lo, .int .i64 o.pick.w.hi, .int .i64 o.pick.serv, .int .i64 o.drop.place, .int .i64 o.drop.w.lo, .int .i64 o.drop.w.hi, .int .i64 o.drop.serv]
noncomputable def rowDr (d : Drv) : List D := [.int .i64 d.id, .int .i64 d.room, .int .i64 d.home, .int .i64 d.w.lo, .int .i64 d.w.hi, .bool d.ret]
noncomputable def mcs (m : Mp) : List D := [.int .i64 m.n, .list .imm (m.l.map rowI)]
noncomputable def mbox (m : Mp) : Ob := .box (mcs m)
noncomputable def encOs (os : List Ord) : D := .list .imm (os.map rowO)
noncomputable def encDs (ds : List Drv) : D := .list .imm (ds.map rowDr)
theorem nrBLL_O : ∀ l : List Ord, nrBLL 0 (l.map rowO) = true
  | [] => rfl
  | b :: r => by
    show (nrBL 0 (rowO b) && nrBLL 0 (r.map rowO)) = true
    rw [nrBLL_O r]
    rfl
theorem nrBLL_Dr : ∀ l : List Drv, nrBLL 0 (l.map rowDr) = true
  | [] => rfl
  | b :: r => by
    show (nrBL 0 (rowDr b) && nrBLL 0 (r.map rowDr)) = true
    rw [nrBLL_Dr r]
    rfl
theorem nrBL_O {l : List Ord} {ds : List D} (hd : nrBL 0 ds = true) : nrBL 0 (encOs l :: ds) = true := by
  show (nrBLL 0 (l.map rowO) && nrBL 0 ds) = true
  rw [nrBLL_O, hd]
  rfl
theorem nrBL_Dr {l : List Drv} {ds : List D} (hd : nrBL 0 ds = true) : nrBL 0 (encDs l :: ds) = true := by
  show (nrBLL 0 (l.map rowDr) && nrBL 0 ds) = true
  rw [nrBLL_Dr, hd]
  rfl
theorem nr_mcs (m : Mp) : nrBL 0 (mcs m) = true := by
  show (nrBLL 0 (m.l.map rowI) && true) = true
  rw [nrBLL_I]
  rfl
theorem nrBL_up {k : Nat} {ds : List D} (h : nrBL 0 ds = true) (x : D) (hx : x ∈ ds) : NR k x := (nrBL_nr h x hx).up (Nat.zero_le _)
theorem Tri.boxRO {P : Program} {f : Nat} {cs : List D} {args : List D} {R : D → Prop} (h : Tri P f 1 (.gptr 0 0 :: args) [.box cs] (fun d l => R d ∧ l = [.box cs])) (hc : nrBL 0 cs = true) (ha : args.all cellsOK = true) (hn : nrBL 0 args = true) (hd : ∀ d, R d → partsOK d = true ∧ nrB 0 d = true)
    {r b : Nat} {sto : List Ob} (hr : r ≤ sto.length) (hb : sto[b]? = some (.box cs)) (hbr : b < r) : Tri P f r (.gptr b 0 :: args) sto (fun d l => R d ∧ l = sto) := by
  have := Tri.ren (r := r) (sto := sto) (fun _ => b) h (fun i j hi hj e => by
      have hi : i < 1 := hi
      have hj : j < 1 := hj
      omega) (fun i o hi => by
      match i, hi with
      | 0, hi =>
        simp at hi
        subst hi
        show _ = some (Ob.box (renL _ cs))
        rw [renL_id _ hc]
        exact hb
      | i + 1, hi => simp at hi) (fun i hi => by
      have hi : i < 1 := hi
      exact ⟨fun _ => hbr, fun _ => by omega⟩) hr (by show (true && args.all cellsOK) = true; rw [ha]; rfl) (fun x hx => by
      rcases List.mem_cons.1 hx with e | hx
      · rw [e]; exact .gptr _ _ (by show 0 < 1; omega)
      · exact nrBL_up hn x hx) (fun o ho => by
      have : o = .box cs := by simpa using ho
      rw [this]
      exact fun x hx => nrBL_up hc x hx) rfl (fun d l ⟨h1, h2⟩ => by subst h2; exact ⟨(hd _ h1).1, rfl⟩)
  rw [show renL (fun _ => b) (.gptr 0 0 :: args) = .gptr b 0 :: args by show D.gptr b 0 :: renL _ args = _; rw [renL_id _ hn]] at this
  refine this.mono fun d l ⟨d1, l1, ⟨h1, h2⟩, h3, h4⟩ => ?_
  subst h2
  refine ⟨by rw [h3, renD_id _ (hd _ h1).2]; exact h1, ?_⟩
  rw [h4]
  show (sto.set b (.box (renL _ cs))) ++ [] = sto
  rw [renL_id _ hc, List.append_nil]
  apply List.ext_getElem?
  intro i
  rw [List.getElem?_set]
  split
  · rename_i e
    subst e
    rw [if_pos (List.getElem?_eq_some_iff.1 hb).1, hb]
  · rfl

noncomputable def timeM (m : Mp) (a b : Int) : Int := if 0 ≤ a ∧ 0 ≤ b ∧ a < m.n ∧ b < m.n then m.l.getD (a * m.n + b).toNat 0 else 0
noncomputable def inM (m : Mp) (a b : Int) : Bool := decide (0 ≤ a ∧ 0 ≤ b ∧ a < m.n ∧ b < m.n)
noncomputable def timeD (m : Mp) (a b : Int) : D := .tup [.int .i64 (timeM m a b), .bool (inM m a b)]
noncomputable def rightW (w : Win) : Bool := decide (0 ≤ w.lo ∧ w.lo ≤ w.hi ∧ w.hi ≤ 1000000)
noncomputable def beginW (w : Win) (t : Int) : Option Int := if rightW w = true ∧ t ≤ w.hi then some (max t w.lo) else none
noncomputable def beginD (w : Win) (t : Int) : D := match beginW w t with
  | some b => .tup [.int .i64 b, .bool true]
  | none => .tup [.int .i64 0, .bool false]
theorem timeM_le {m : Mp} (h : okMp m) (a b : Int) : 0 ≤ timeM m a b ∧ timeM m a b ≤ 1000000 := by
  unfold timeM
  split
  · rcases Nat.lt_or_ge (a * m.n + b).toNat m.l.length with hl | hl
    · rw [List.getD_eq_getElem?_getD, List.getElem?_eq_getElem hl]
      exact h.t _ (List.getElem_mem _)
    · rw [List.getD_eq_getElem?_getD, List.getElem?_eq_none hl]
      exact ⟨Int.le_refl _, by decide⟩
  · exact ⟨Int.le_refl _, by decide⟩
theorem idx_lt {n a b : Int} (h1 : 0 ≤ a) (h2 : 0 ≤ b) (h3 : a < n) (h4 : b < n) : 0 ≤ a * n + b ∧ a * n + b < n * n := by
  have h5 : 0 ≤ a * n := Int.mul_nonneg h1 (by omega)
  have h6 : a * n ≤ (n - 1) * n := Int.mul_le_mul_of_nonneg_right (by omega) (by omega)
  rw [Int.sub_mul] at h6
  omega
end Go.Lv

namespace Go.Lv
open Go.Proofs

theorem rightW_t {w : Win} (h1 : 0 ≤ w.lo) (h2 : w.lo ≤ w.hi) (h3 : w.hi ≤ 1000000) : rightW w = true := decide_eq_true ⟨h1, h2, h3⟩
theorem rightW_f {w : Win} (h : ¬ (0 ≤ w.lo ∧ w.lo ≤ w.hi ∧ w.hi ≤ 1000000)) : rightW w = false := decide_eq_false h
theorem rightW_iff {w : Win} : rightW w = true ↔ 0 ≤ w.lo ∧ w.lo ≤ w.hi ∧ w.hi ≤ 1000000 := by
  unfold rightW
  exact decide_eq_true_iff
set_option maxHeartbeats 2000000 in
theorem c_span_Right_0 (w : Win) : Tri Try.prog 74 0 [.agg (rowW w)] [] (fun d k => d = .bool (rightW w) ∧ k = []) := by
  refine Tri.walk2 (L := LT) (c := {n := 18, ko := [2]}) [] [0, 1, 2] hLT hmix Try.func74 rfl rfl ⟨rfl, rfl⟩ (by show 1 ≤ 18; decide) (by first | exact Nat.zero_le _ | exact Nat.le_refl _ | exact Nat.le_succ 1 | decide) ?_
  refine And.intro (fun h1 => ?_) (fun h1 => ?_)
  · have h1 := of_decide_eq_true h1
    repeat (first | refine And.intro (fun _ => ?_) (fun h => Bool.noConfusion h) | refine And.intro (fun h => Bool.noConfusion h) (fun _ => ?_))
    refine And.intro (fun h2 => ?_) (fun h2 => ?_)
    · have h2 := of_decide_eq_true h2
      repeat (first | refine And.intro (fun _ => ?_) (fun h => Bool.noConfusion h) | refine And.intro (fun h => Bool.noConfusion h) (fun _ => ?_))
      refine And.intro (fun h3 => ?_) (fun h3 => ?_)
      · rw [rightW_t h1 h2 (of_decide_eq_true h3)]
        exact And.intro rfl rfl
      · rw [rightW_f (fun h => of_decide_eq_false h3 h.2.2)]
        exact And.intro rfl rfl
    · repeat (first | refine And.intro (fun _ => ?_) (fun h => Bool.noConfusion h) | refine And.intro (fun h => Bool.noConfusion h) (fun _ => ?_))
      rw [rightW_f (fun h => of_decide_eq_false h2 h.2.1)]
      exact And.intro rfl rfl
  · repeat (first | refine And.intro (fun _ => ?_) (fun h => Bool.noConfusion h) | refine And.intro (fun h => Bool.noConfusion h) (fun _ => ?_))
    rw [rightW_f (fun h => of_decide_eq_false h1 h.1)]
    exact And.intro rfl rfl
theorem c_span_Right (w : Win) {r : Nat} {sto : List Ob} (hr : r ≤ sto.length) : Tri Try.prog 74 r [.agg (rowW w)] sto (fun d k => d = .bool (rightW w) ∧ k = sto) :=
  (c_span_Right_0 w).pure rfl rfl rfl rfl hr
theorem beginD_ok (w : Win) (t : Int) : partsOK (beginD w t) = true ∧ nrB 0 (beginD w t) = true := by
  unfold beginD
  split <;> exact ⟨rfl, rfl⟩
set_option maxHeartbeats 2000000 in
theorem c_span_Begin_0 (w : Win) (t : Int) : Tri Try.prog 55 0 [.agg (rowW w), .int .i64 t] [] (fun d k => d = beginD w t ∧ k = []) := by
  refine Tri.walk2 (L := LT) (c := {n := 19, ko := [4, 5]}) [] [0, 1, 2, 4, 5, 14] hLT hmix Try.func55 rfl rfl ⟨rfl, rfl⟩ (by show 2 ≤ 19; decide) (by first | exact Nat.zero_le _ | exact Nat.le_refl _ | exact Nat.le_succ 1 | decide) ?_
  refine ⟨rfl, (by first | exact Nat.zero_le _ | exact Nat.le_refl _ | exact Nat.le_succ 1 | decide), (c_span_Right w (r := 0) (sto := []) (Nat.le_refl 0)).mono ?_⟩
  rintro d l ⟨rfl, rfl⟩
  refine ⟨rfl, fun _ _ => rfl, rfl, ?_⟩
  unfold beginD beginW
  cases hw : rightW w with
  | false =>
    repeat (first | refine And.intro (fun _ => ?_) (fun h => Bool.noConfusion h) | refine And.intro (fun h => Bool.noConfusion h) (fun _ => ?_))
    rw [if_neg (by rintro ⟨h, _⟩; cases h)]
    exact And.intro rfl rfl
  | true =>
    repeat (first | refine And.intro (fun _ => ?_) (fun h => Bool.noConfusion h) | refine And.intro (fun h => Bool.noConfusion h) (fun _ => ?_))
    refine And.intro (fun h1 => ?_) (fun h1 => ?_)
    · repeat (first | refine And.intro (fun _ => ?_) (fun h => Bool.noConfusion h) | refine And.intro (fun h => Bool.noConfusion h) (fun _ => ?_))
      rw [if_neg (by rintro ⟨_, h⟩; exact Int.not_lt.2 h (of_decide_eq_true h1))]
      exact And.intro rfl rfl
    · repeat (first | refine And.intro (fun _ => ?_) (fun h => Bool.noConfusion h) | refine And.intro (fun h => Bool.noConfusion h) (fun _ => ?_))
      rw [if_pos ⟨rfl, Int.not_lt.1 (of_decide_eq_false h1)⟩]
      exact And.intro rfl rfl
theorem c_span_Begin (w : Win) (t : Int) {r : Nat} {sto : List Ob} (hr : r ≤ sto.length) : Tri Try.prog 55 r [.agg (rowW w), .int .i64 t] sto (fun d k => d = beginD w t ∧ k = sto) :=
  (c_span_Begin_0 w t).pure rfl rfl (beginD_ok w t).1 (beginD_ok w t).2 hr
theorem inM_t {m : Mp} {a b : Int} (h1 : 0 ≤ a) (h2 : 0 ≤ b) (h3 : a < m.n) (h4 : b < m.n) : timeD m a b = .tup [.int .i64 (m.l.getD (a * m.n + b).toNat 0), .bool true] := by
  unfold timeD timeM inM
  rw [if_pos ⟨h1, h2, h3, h4⟩, decide_eq_true ⟨h1, h2, h3, h4⟩]
theorem inM_f {m : Mp} {a b : Int} (h : ¬ (0 ≤ a ∧ 0 ≤ b ∧ a < m.n ∧ b < m.n)) : timeD m a b = .tup [.int .i64 0, .bool false] := by
  unfold timeD timeM inM
  rw [if_neg h, decide_eq_false h]
theorem okMp.at {m : Mp} (hm : okMp m) {a b : Int} (h1 : 0 ≤ a) (h2 : 0 ≤ b) (h3 : a < m.n) (h4 : b < m.n) : 0 ≤ a * m.n + b ∧ (a * m.n + b).toNat < m.l.length ∧ a * m.n ≤ 144 ∧ 0 ≤ a * m.n ∧ IntKind.i64.wrap (IntKind.i64.wrap (a * m.n) + b) = (((a * m.n + b).toNat : Nat) : Int) := by
  have h5 := idx_lt h1 h2 h3 h4
  have h6 := hm.len
  have h7 : 0 ≤ a * m.n := Int.mul_nonneg h1 (by omega)
  have h8 : m.n * m.n ≤ 12 * 12 := Int.mul_le_mul hm.n12 hm.n12 (by have := hm.n1; omega) (by decide)
  have h9 := hm.n12
  refine ⟨h5.1, by omega, by omega, h7, ?_⟩
  rw [wrap64 (z := a * m.n) (by omega) (by omega), wrap64 (by omega) (by omega)]
  omega
set_option maxHeartbeats 2000000 in
theorem c_geo_Time_0 (m : Mp) (hm : okMp m) (a b : Int) : Tri Try.prog 54 1 [.gptr 0 0, .int .i64 a, .int .i64 b] [mbox m] (fun d k => d = timeD m a b ∧ k = [mbox m]) := by
  refine Tri.walk2 (L := LT) (c := {n := 48, ko := [6, 7]}) [] [0, 1, 2, 6, 7, 33] hLT hmix Try.func54 rfl rfl ⟨rfl, rfl⟩ (by show 3 ≤ 48; decide) (by first | exact Nat.zero_le _ | exact Nat.le_refl _ | exact Nat.le_succ 1 | decide) ?_
  repeat (first | refine And.intro (fun _ => ?_) (fun h => Bool.noConfusion h) | refine And.intro (fun h => Bool.noConfusion h) (fun _ => ?_))
  refine And.intro (fun h0 => ?_) (fun h0 => ?_)
  · have h0 := of_decide_eq_true h0
    repeat (first | refine And.intro (fun _ => ?_) (fun h => Bool.noConfusion h) | refine And.intro (fun h => Bool.noConfusion h) (fun _ => ?_))
    rw [inM_f (by omega)]
    exact And.intro rfl rfl
  have h0 := of_decide_eq_false h0
  repeat (first | refine And.intro (fun _ => ?_) (fun h => Bool.noConfusion h) | refine And.intro (fun h => Bool.noConfusion h) (fun _ => ?_))
  refine And.intro (fun h1 => ?_) (fun h1 => ?_)
  · have h1 := of_decide_eq_true h1
    repeat (first | refine And.intro (fun _ => ?_) (fun h => Bool.noConfusion h) | refine And.intro (fun h => Bool.noConfusion h) (fun _ => ?_))
    rw [inM_f (by omega)]
    exact And.intro rfl rfl
  have h1 := of_decide_eq_false h1
  repeat (first | refine And.intro (fun _ => ?_) (fun h => Bool.noConfusion h) | refine And.intro (fun h => Bool.noConfusion h) (fun _ => ?_))
  refine And.intro (fun h2 => ?_) (fun h2 => ?_)
  · have h2 := of_decide_eq_true h2
    repeat (first | refine And.intro (fun _ => ?_) (fun h => Bool.noConfusion h) | refine And.intro (fun h => Bool.noConfusion h) (fun _ => ?_))
    rw [inM_f (by omega)]
    exact And.intro rfl rfl
  have h2 := of_decide_eq_false h2
  repeat (first | refine And.intro (fun _ => ?_) (fun h => Bool.noConfusion h) | refine And.intro (fun h => Bool.noConfusion h) (fun _ => ?_))
  refine And.intro (fun h3 => ?_) (fun h3 => ?_)
  · have h3 := of_decide_eq_true h3
    repeat (first | refine And.intro (fun _ => ?_) (fun h => Bool.noConfusion h) | refine And.intro (fun h => Bool.noConfusion h) (fun _ => ?_))
    rw [inM_f (by omega)]
    exact And.intro rfl rfl
  have h3 := of_decide_eq_false h3
  repeat (first | refine And.intro (fun _ => ?_) (fun h => Bool.noConfusion h) | refine And.intro (fun h => Bool.noConfusion h) (fun _ => ?_))
  obtain ⟨q1, q2, q3, q4, q5⟩ := hm.at (a := a) (b := b) (by omega) (by omega) (by omega) (by omega)
  refine ⟨⟨65535, [0, 1, 2, 4, 0, 0, 32, 64, 128, 272, 0, 1536, 2056, 4096, 16383, 32767], [1, 3, 7, 15, 16, 32, 96, 224, 480, 1008, 1024, 4080, 8191, 16383, 32767, 65535]⟩, by kernel_rfl, ?_⟩
  refine ⟨(m.l).map rowI, rowI ((m.l)[(a * m.n + b).toNat]'q2), rfl, by rw [q5]; exact Int.natCast_nonneg _, row_at' rowI m.l q5 q2, rfl, of_decide_eq_true rfl, ?_⟩
  refine And.intro rfl ?_
  refine And.intro ?_ trivial
  refine And.intro (by repeat (first | exact trivial | refine And.intro ⟨rfl, rfl⟩ ?_ | refine And.intro ⟨_, _, rfl, by rw [q5]; exact Int.natCast_nonneg _, row_at' rowI m.l q5 q2, rfl, of_decide_eq_true rfl, And.intro rfl (And.intro rfl rfl)⟩ ?_)) ?_
  refine And.intro ?_ trivial
  refine And.intro (by repeat (first | exact trivial | refine And.intro ⟨rfl, rfl⟩ ?_ | refine And.intro ⟨_, _, rfl, by rw [q5]; exact Int.natCast_nonneg _, row_at' rowI m.l q5 q2, rfl, of_decide_eq_true rfl, And.intro rfl (And.intro rfl rfl)⟩ ?_)) ?_
  rw [inM_t (by omega) (by omega) (by omega) (by omega), List.getD_eq_getElem?_getD, List.getElem?_eq_getElem q2]
  exact And.intro rfl rfl
theorem c_geo_Time (m : Mp) (hm : okMp m) (a b : Int) {r b1 : Nat} {sto : List Ob} (hr : r ≤ sto.length) (hb : sto[b1]? = some (mbox m)) (hbr : b1 < r) : Tri Try.prog 54 r [.gptr b1 0, .int .i64 a, .int .i64 b] sto (fun d k => d = timeD m a b ∧ k = sto) :=
  (c_geo_Time_0 m hm a b).boxRO (nr_mcs m) rfl rfl (fun d h => by subst h; exact ⟨rfl, rfl⟩) hr hb hbr
end Go.Lv

namespace Go.Lv
open Go.Proofs

noncomputable def errO (n : Int) (o : Ord) : Int :=
  if ¬ (1 ≤ o.id ∧ o.id ≤ 1000000) then 1 else
  if ¬ (1 ≤ o.size ∧ o.size ≤ 1000) then 14 else
  if ¬ ((0 ≤ o.pick.place ∧ o.pick.place < n) ∧ (0 ≤ o.drop.place ∧ o.drop.place < n)) then 12 else
  if ¬ ((0 ≤ o.pick.w.lo ∧ o.pick.w.lo ≤ o.pick.w.hi ∧ o.pick.w.hi ≤ 1000000) ∧ (0 ≤ o.drop.w.lo ∧ o.drop.w.lo ≤ o.drop.w.hi ∧ o.drop.w.hi ≤ 1000000)) then 13 else
  if ¬ ((0 ≤ o.pick.serv ∧ o.pick.serv ≤ 1000000) ∧ (0 ≤ o.drop.serv ∧ o.drop.serv ≤ 1000000)) then 7 else 0
noncomputable def errD (n : Int) (d : Drv) : Int :=
  if ¬ (1 ≤ d.id ∧ d.id ≤ 1000000) then 1 else
  if ¬ (1 ≤ d.room ∧ d.room ≤ 1000) then 14 else
  if ¬ (0 ≤ d.home ∧ d.home < n) then 12 else
  if ¬ (0 ≤ d.w.lo ∧ d.w.lo ≤ d.w.hi ∧ d.w.hi ≤ 1000000) then 13 else 0
theorem c_deal_within_0 (n lo hi : Int) : Tri Try.prog 72 0 [.int .i64 n, .int .i64 lo, .int .i64 hi] [] (fun d k => d = .bool (decide (lo ≤ n ∧ n ≤ hi)) ∧ k = []) := by
  refine Tri.walk2 (L := LT) (c := {n := 15, ko := [6]}) [] [0, 1, 2, 6] hLT hmix Try.func72 rfl rfl ⟨rfl, rfl⟩ (by show 3 ≤ 15; decide) (by first | exact Nat.zero_le _ | exact Nat.le_refl _ | exact Nat.le_succ 1 | decide) ?_
  refine And.intro (fun h1 => ?_) (fun h1 => ?_)
  · have h1 := of_decide_eq_true h1
    repeat (first | refine And.intro (fun _ => ?_) (fun h => Bool.noConfusion h) | refine And.intro (fun h => Bool.noConfusion h) (fun _ => ?_))
    refine And.intro (fun h2 => ?_) (fun h2 => ?_)
    · rw [decide_eq_true (show lo ≤ n ∧ n ≤ hi from ⟨h1, of_decide_eq_true h2⟩)]
      exact And.intro rfl rfl
    · rw [decide_eq_false (show ¬ (lo ≤ n ∧ n ≤ hi) from fun h => of_decide_eq_false h2 h.2)]
      exact And.intro rfl rfl
  · repeat (first | refine And.intro (fun _ => ?_) (fun h => Bool.noConfusion h) | refine And.intro (fun h => Bool.noConfusion h) (fun _ => ?_))
    rw [decide_eq_false (show ¬ (lo ≤ n ∧ n ≤ hi) from fun h => of_decide_eq_false h1 h.1)]
    exact And.intro rfl rfl
theorem c_deal_within (n lo hi : Int) {r : Nat} {sto : List Ob} (hr : r ≤ sto.length) : Tri Try.prog 72 r [.int .i64 n, .int .i64 lo, .int .i64 hi] sto (fun d k => d = .bool (decide (lo ≤ n ∧ n ≤ hi)) ∧ k = sto) :=
  (c_deal_within_0 n lo hi).pure rfl rfl rfl rfl hr
theorem c_geo_Places_0 (m : Mp) : Tri Try.prog 104 1 [.gptr 0 0] [mbox m] (fun d k => d = .int .i64 m.n ∧ k = [mbox m]) := by
  refine Tri.walk2 (L := LT) (c := {n := 9, ko := [2]}) [] [0, 2, 4] hLT hmix Try.func104 rfl rfl ⟨rfl, rfl⟩ (by show 1 ≤ 9; decide) (by first | exact Nat.zero_le _ | exact Nat.le_refl _ | exact Nat.le_succ 1 | decide) ?_
  repeat (first | refine And.intro (fun _ => ?_) (fun h => Bool.noConfusion h) | refine And.intro (fun h => Bool.noConfusion h) (fun _ => ?_))
  exact And.intro rfl rfl
theorem c_geo_Places (m : Mp) {r b : Nat} {sto : List Ob} (hr : r ≤ sto.length) (hb : sto[b]? = some (mbox m)) (hbr : b < r) : Tri Try.prog 104 r [.gptr b 0] sto (fun d k => d = .int .i64 m.n ∧ k = sto) :=
  (c_geo_Places_0 m).boxRO (nr_mcs m) rfl rfl (fun d h => by subst h; exact ⟨rfl, rfl⟩) hr hb hbr
theorem c_deal_place_0 (m : Mp) (hm : okMp m) (p : Int) : Tri Try.prog 73 1 [.gptr 0 0, .int .i64 p] [mbox m] (fun d k => d = .bool (decide (0 ≤ p ∧ p < m.n)) ∧ k = [mbox m]) := by
  refine Tri.walk2 (L := LT) (c := {n := 10, ko := [4]}) [] [0, 1, 4] hLT hmix Try.func73 rfl rfl ⟨rfl, rfl⟩ (by show 2 ≤ 10; decide) (by first | exact Nat.zero_le _ | exact Nat.le_refl _ | exact Nat.le_succ 1 | decide) ?_
  refine ⟨rfl, (by first | exact Nat.zero_le _ | exact Nat.le_refl _ | exact Nat.le_succ 1 | decide), (c_geo_Places m (r := 1) (sto := [mbox m]) (Nat.le_refl 1) rfl (Nat.lt_succ_self 0)).mono ?_⟩
  rintro d l ⟨rfl, rfl⟩
  refine ⟨rfl, fun _ _ => rfl, rfl, ?_⟩
  refine ⟨rfl, (by first | exact Nat.zero_le _ | exact Nat.le_refl _ | exact Nat.le_succ 1 | decide), (c_deal_within p 0 (IntKind.i64.wrap (m.n - 1)) (r := 1) (sto := [mbox m]) (Nat.le_refl 1)).mono ?_⟩
  rintro d l ⟨rfl, rfl⟩
  refine ⟨rfl, fun _ _ => rfl, rfl, ?_⟩
  rw [wrap64 (by have := hm.n1; omega) (by have := hm.n12; omega), show decide (0 ≤ p ∧ p ≤ m.n - 1) = decide (0 ≤ p ∧ p < m.n) from decide_eq_decide.2 (by omega)]
  exact And.intro rfl rfl
theorem c_deal_place (m : Mp) (hm : okMp m) (p : Int) {r b : Nat} {sto : List Ob} (hr : r ≤ sto.length) (hb : sto[b]? = some (mbox m)) (hbr : b < r) : Tri Try.prog 73 r [.gptr b 0, .int .i64 p] sto (fun d k => d = .bool (decide (0 ≤ p ∧ p < m.n)) ∧ k = sto) :=
  (c_deal_place_0 m hm p).boxRO (nr_mcs m) rfl rfl (fun d h => by subst h; exact ⟨rfl, rfl⟩) hr hb hbr
set_option maxHeartbeats 4000000 in
theorem c_deal_Order_0 (m : Mp) (hm : okMp m) (o : Ord) : Tri Try.prog 71 1 [.gptr 0 0, .agg (rowO o)] [mbox m] (fun d k => d = .int .i64 (errO m.n o) ∧ k = [mbox m]) := by
  refine Tri.walk2 (L := LT) (c := {n := 55, ko := [4]}) [] [0, 1, 3, 4, 12, 16, 30, 42, 54] hLT hmix Try.func71 rfl rfl ⟨rfl, rfl⟩ (by show 2 ≤ 55; decide) (by first | exact Nat.zero_le _ | exact Nat.le_refl _ | exact Nat.le_succ 1 | decide) ?_
  repeat (first | refine And.intro (fun _ => ?_) (fun h => Bool.noConfusion h) | refine And.intro (fun h => Bool.noConfusion h) (fun _ => ?_))
  -- step
  refine ⟨rfl, (by first | exact Nat.zero_le _ | exact Nat.le_refl _ | exact Nat.le_succ 1 | decide), (c_deal_within o.id 1 1000000 (r := 1) (sto := [mbox m]) (Nat.le_refl 1)).mono ?_⟩
  rintro d l ⟨rfl, rfl⟩
  refine ⟨rfl, fun _ _ => rfl, rfl, ?_⟩
  cases h0 : decide (1 ≤ o.id ∧ o.id ≤ 1000000)
  · (repeat (first | refine And.intro (fun _ => ?_) (fun h => Bool.noConfusion h) | refine And.intro (fun h => Bool.noConfusion h) (fun _ => ?_)))
    simp only [rightW, Bool.not_eq_true', Bool.not_eq_false', decide_eq_true_eq, decide_eq_false_iff_not] at *
    unfold errO
    repeat (first | rw [if_pos (by omega)] | rw [if_neg (by omega)])
    exact And.intro rfl rfl
  repeat (first | refine And.intro (fun _ => ?_) (fun h => Bool.noConfusion h) | refine And.intro (fun h => Bool.noConfusion h) (fun _ => ?_))
  -- step
  refine ⟨rfl, (by first | exact Nat.zero_le _ | exact Nat.le_refl _ | exact Nat.le_succ 1 | decide), (c_deal_within o.size 1 1000 (r := 1) (sto := [mbox m]) (Nat.le_refl 1)).mono ?_⟩
  rintro d l ⟨rfl, rfl⟩
  refine ⟨rfl, fun _ _ => rfl, rfl, ?_⟩
  cases h1 : decide (1 ≤ o.size ∧ o.size ≤ 1000)
  · (repeat (first | refine And.intro (fun _ => ?_) (fun h => Bool.noConfusion h) | refine And.intro (fun h => Bool.noConfusion h) (fun _ => ?_)))
    simp only [rightW, Bool.not_eq_true', Bool.not_eq_false', decide_eq_true_eq, decide_eq_false_iff_not] at *
    unfold errO
    repeat (first | rw [if_pos (by omega)] | rw [if_neg (by omega)])
    exact And.intro rfl rfl
  repeat (first | refine And.intro (fun _ => ?_) (fun h => Bool.noConfusion h) | refine And.intro (fun h => Bool.noConfusion h) (fun _ => ?_))
  -- step
  refine ⟨rfl, (by first | exact Nat.zero_le _ | exact Nat.le_refl _ | exact Nat.le_succ 1 | decide), (c_deal_place m hm o.pick.place (r := 1) (sto := [mbox m]) (Nat.le_refl 1) rfl (Nat.lt_succ_self 0)).mono ?_⟩
  rintro d l ⟨rfl, rfl⟩
  refine ⟨rfl, fun _ _ => rfl, rfl, ?_⟩
  cases h2 : decide (0 ≤ o.pick.place ∧ o.pick.place < m.n)
  · (repeat (first | refine And.intro (fun _ => ?_) (fun h => Bool.noConfusion h) | refine And.intro (fun h => Bool.noConfusion h) (fun _ => ?_)))
    simp only [rightW, Bool.not_eq_true', Bool.not_eq_false', decide_eq_true_eq, decide_eq_false_iff_not] at *
    unfold errO
    repeat (first | rw [if_pos (by omega)] | rw [if_neg (by omega)])
    exact And.intro rfl rfl
  repeat (first | refine And.intro (fun _ => ?_) (fun h => Bool.noConfusion h) | refine And.intro (fun h => Bool.noConfusion h) (fun _ => ?_))
  -- step
  refine ⟨rfl, (by first | exact Nat.zero_le _ | exact Nat.le_refl _ | exact Nat.le_succ 1 | decide), (c_deal_place m hm o.drop.place (r := 1) (sto := [mbox m]) (Nat.le_refl 1) rfl (Nat.lt_succ_self 0)).mono ?_⟩
  rintro d l ⟨rfl, rfl⟩
  refine ⟨rfl, fun _ _ => rfl, rfl, ?_⟩
  cases h3 : decide (0 ≤ o.drop.place ∧ o.drop.place < m.n)
  · (repeat (first | refine And.intro (fun _ => ?_) (fun h => Bool.noConfusion h) | refine And.intro (fun h => Bool.noConfusion h) (fun _ => ?_)))
    simp only [rightW, Bool.not_eq_true', Bool.not_eq_false', decide_eq_true_eq, decide_eq_false_iff_not] at *
    unfold errO
    repeat (first | rw [if_pos (by omega)] | rw [if_neg (by omega)])
    exact And.intro rfl rfl
  repeat (first | refine And.intro (fun _ => ?_) (fun h => Bool.noConfusion h) | refine And.intro (fun h => Bool.noConfusion h) (fun _ => ?_))
  -- step
  refine ⟨rfl, (by first | exact Nat.zero_le _ | exact Nat.le_refl _ | exact Nat.le_succ 1 | decide), (c_span_Right o.pick.w (r := 1) (sto := [mbox m]) (Nat.le_refl 1)).mono ?_⟩
  rintro d l ⟨rfl, rfl⟩
  refine ⟨rfl, fun _ _ => rfl, rfl, ?_⟩
  cases h4 : rightW o.pick.w
  · (repeat (first | refine And.intro (fun _ => ?_) (fun h => Bool.noConfusion h) | refine And.intro (fun h => Bool.noConfusion h) (fun _ => ?_)))
    simp only [rightW, Bool.not_eq_true', Bool.not_eq_false', decide_eq_true_eq, decide_eq_false_iff_not] at *
    unfold errO
    repeat (first | rw [if_pos (by omega)] | rw [if_neg (by omega)])
    exact And.intro rfl rfl
  repeat (first | refine And.intro (fun _ => ?_) (fun h => Bool.noConfusion h) | refine And.intro (fun h => Bool.noConfusion h) (fun _ => ?_))
  -- step
  refine ⟨rfl, (by first | exact Nat.zero_le _ | exact Nat.le_refl _ | exact Nat.le_succ 1 | decide), (c_span_Right o.drop.w (r := 1) (sto := [mbox m]) (Nat.le_refl 1)).mono ?_⟩
  rintro d l ⟨rfl, rfl⟩
  refine ⟨rfl, fun _ _ => rfl, rfl, ?_⟩
  cases h5 : rightW o.drop.w
  · (repeat (first | refine And.intro (fun _ => ?_) (fun h => Bool.noConfusion h) | refine And.intro (fun h => Bool.noConfusion h) (fun _ => ?_)))
    simp only [rightW, Bool.not_eq_true', Bool.not_eq_false', decide_eq_true_eq, decide_eq_false_iff_not] at *
    unfold errO
    repeat (first | rw [if_pos (by omega)] | rw [if_neg (by omega)])
    exact And.intro rfl rfl
  repeat (first | refine And.intro (fun _ => ?_) (fun h => Bool.noConfusion h) | refine And.intro (fun h => Bool.noConfusion h) (fun _ => ?_))
  -- step
  refine ⟨rfl, (by first | exact Nat.zero_le _ | exact Nat.le_refl _ | exact Nat.le_succ 1 | decide), (c_deal_within o.pick.serv 0 1000000 (r := 1) (sto := [mbox m]) (Nat.le_refl 1)).mono ?_⟩
  rintro d l ⟨rfl, rfl⟩
  refine ⟨rfl, fun _ _ => rfl, rfl, ?_⟩
  cases h6 : decide (0 ≤ o.pick.serv ∧ o.pick.serv ≤ 1000000)
  · (repeat (first | refine And.intro (fun _ => ?_) (fun h => Bool.noConfusion h) | refine And.intro (fun h => Bool.noConfusion h) (fun _ => ?_)))
    simp only [rightW, Bool.not_eq_true', Bool.not_eq_false', decide_eq_true_eq, decide_eq_false_iff_not] at *
    unfold errO
    repeat (first | rw [if_pos (by omega)] | rw [if_neg (by omega)])
    exact And.intro rfl rfl
  repeat (first | refine And.intro (fun _ => ?_) (fun h => Bool.noConfusion h) | refine And.intro (fun h => Bool.noConfusion h) (fun _ => ?_))
  -- step
  refine ⟨rfl, (by first | exact Nat.zero_le _ | exact Nat.le_refl _ | exact Nat.le_succ 1 | decide), (c_deal_within o.drop.serv 0 1000000 (r := 1) (sto := [mbox m]) (Nat.le_refl 1)).mono ?_⟩
  rintro d l ⟨rfl, rfl⟩
  refine ⟨rfl, fun _ _ => rfl, rfl, ?_⟩
  cases h7 : decide (0 ≤ o.drop.serv ∧ o.drop.serv ≤ 1000000)
  · (repeat (first | refine And.intro (fun _ => ?_) (fun h => Bool.noConfusion h) | refine And.intro (fun h => Bool.noConfusion h) (fun _ => ?_)))
    simp only [rightW, Bool.not_eq_true', Bool.not_eq_false', decide_eq_true_eq, decide_eq_false_iff_not] at *
    unfold errO
    repeat (first | rw [if_pos (by omega)] | rw [if_neg (by omega)])
    exact And.intro rfl rfl
  repeat (first | refine And.intro (fun _ => ?_) (fun h => Bool.noConfusion h) | refine And.intro (fun h => Bool.noConfusion h) (fun _ => ?_))
  simp only [rightW, Bool.not_eq_true', Bool.not_eq_false', decide_eq_true_eq, decide_eq_false_iff_not] at *
  unfold errO
  repeat (first | rw [if_pos (by omega)] | rw [if_neg (by omega)])
  exact And.intro rfl rfl
theorem c_deal_Order (m : Mp) (hm : okMp m) (o : Ord) {r b : Nat} {sto : List Ob} (hr : r ≤ sto.length) (hb : sto[b]? = some (mbox m)) (hbr : b < r) : Tri Try.prog 71 r [.gptr b 0, .agg (rowO o)] sto (fun d k => d = .int .i64 (errO m.n o) ∧ k = sto) :=
  (c_deal_Order_0 m hm o).boxRO (nr_mcs m) rfl rfl (fun d h => by subst h; exact ⟨rfl, rfl⟩) hr hb hbr
set_option maxHeartbeats 4000000 in
theorem c_deal_Driver_0 (m : Mp) (hm : okMp m) (e : Drv) : Tri Try.prog 51 1 [.gptr 0 0, .agg (rowDr e)] [mbox m] (fun d k => d = .int .i64 (errD m.n e) ∧ k = [mbox m]) := by
  refine Tri.walk2 (L := LT) (c := {n := 26, ko := [4]}) [] [0, 1, 3, 4, 12, 16, 21, 25] hLT hmix Try.func51 rfl rfl ⟨rfl, rfl⟩ (by show 2 ≤ 26; decide) (by first | exact Nat.zero_le _ | exact Nat.le_refl _ | exact Nat.le_succ 1 | decide) ?_
  repeat (first | refine And.intro (fun _ => ?_) (fun h => Bool.noConfusion h) | refine And.intro (fun h => Bool.noConfusion h) (fun _ => ?_))
  -- step
  refine ⟨rfl, (by first | exact Nat.zero_le _ | exact Nat.le_refl _ | exact Nat.le_succ 1 | decide), (c_deal_within e.id 1 1000000 (r := 1) (sto := [mbox m]) (Nat.le_refl 1)).mono ?_⟩
  rintro d l ⟨rfl, rfl⟩
  refine ⟨rfl, fun _ _ => rfl, rfl, ?_⟩
  cases h0 : decide (1 ≤ e.id ∧ e.id ≤ 1000000)
  · (repeat (first | refine And.intro (fun _ => ?_) (fun h => Bool.noConfusion h) | refine And.intro (fun h => Bool.noConfusion h) (fun _ => ?_)))
    simp only [rightW, Bool.not_eq_true', Bool.not_eq_false', decide_eq_true_eq, decide_eq_false_iff_not] at *
    unfold errD
    repeat (first | rw [if_pos (by omega)] | rw [if_neg (by omega)])
    exact And.intro rfl rfl
  repeat (first | refine And.intro (fun _ => ?_) (fun h => Bool.noConfusion h) | refine And.intro (fun h => Bool.noConfusion h) (fun _ => ?_))
  -- step
  refine ⟨rfl, (by first | exact Nat.zero_le _ | exact Nat.le_refl _ | exact Nat.le_succ 1 | decide), (c_deal_within e.room 1 1000 (r := 1) (sto := [mbox m]) (Nat.le_refl 1)).mono ?_⟩
  rintro d l ⟨rfl, rfl⟩
  refine ⟨rfl, fun _ _ => rfl, rfl, ?_⟩
  cases h1 : decide (1 ≤ e.room ∧ e.room ≤ 1000)
  · (repeat (first | refine And.intro (fun _ => ?_) (fun h => Bool.noConfusion h) | refine And.intro (fun h => Bool.noConfusion h) (fun _ => ?_)))
    simp only [rightW, Bool.not_eq_true', Bool.not_eq_false', decide_eq_true_eq, decide_eq_false_iff_not] at *
    unfold errD
    repeat (first | rw [if_pos (by omega)] | rw [if_neg (by omega)])
    exact And.intro rfl rfl
  repeat (first | refine And.intro (fun _ => ?_) (fun h => Bool.noConfusion h) | refine And.intro (fun h => Bool.noConfusion h) (fun _ => ?_))
  -- step
  refine ⟨rfl, (by first | exact Nat.zero_le _ | exact Nat.le_refl _ | exact Nat.le_succ 1 | decide), (c_deal_place m hm e.home (r := 1) (sto := [mbox m]) (Nat.le_refl 1) rfl (Nat.lt_succ_self 0)).mono ?_⟩
  rintro d l ⟨rfl, rfl⟩
  refine ⟨rfl, fun _ _ => rfl, rfl, ?_⟩
  cases h2 : decide (0 ≤ e.home ∧ e.home < m.n)
  · (repeat (first | refine And.intro (fun _ => ?_) (fun h => Bool.noConfusion h) | refine And.intro (fun h => Bool.noConfusion h) (fun _ => ?_)))
    simp only [rightW, Bool.not_eq_true', Bool.not_eq_false', decide_eq_true_eq, decide_eq_false_iff_not] at *
    unfold errD
    repeat (first | rw [if_pos (by omega)] | rw [if_neg (by omega)])
    exact And.intro rfl rfl
  repeat (first | refine And.intro (fun _ => ?_) (fun h => Bool.noConfusion h) | refine And.intro (fun h => Bool.noConfusion h) (fun _ => ?_))
  -- step
  refine ⟨rfl, (by first | exact Nat.zero_le _ | exact Nat.le_refl _ | exact Nat.le_succ 1 | decide), (c_span_Right e.w (r := 1) (sto := [mbox m]) (Nat.le_refl 1)).mono ?_⟩
  rintro d l ⟨rfl, rfl⟩
  refine ⟨rfl, fun _ _ => rfl, rfl, ?_⟩
  cases h3 : rightW e.w
  · (repeat (first | refine And.intro (fun _ => ?_) (fun h => Bool.noConfusion h) | refine And.intro (fun h => Bool.noConfusion h) (fun _ => ?_)))
    simp only [rightW, Bool.not_eq_true', Bool.not_eq_false', decide_eq_true_eq, decide_eq_false_iff_not] at *
    unfold errD
    repeat (first | rw [if_pos (by omega)] | rw [if_neg (by omega)])
    exact And.intro rfl rfl
  repeat (first | refine And.intro (fun _ => ?_) (fun h => Bool.noConfusion h) | refine And.intro (fun h => Bool.noConfusion h) (fun _ => ?_))
  simp only [rightW, Bool.not_eq_true', Bool.not_eq_false', decide_eq_true_eq, decide_eq_false_iff_not] at *
  unfold errD
  repeat (first | rw [if_pos (by omega)] | rw [if_neg (by omega)])
  exact And.intro rfl rfl
theorem c_deal_Driver (m : Mp) (hm : okMp m) (e : Drv) {r b : Nat} {sto : List Ob} (hr : r ≤ sto.length) (hb : sto[b]? = some (mbox m)) (hbr : b < r) : Tri Try.prog 51 r [.gptr b 0, .agg (rowDr e)] sto (fun d k => d = .int .i64 (errD m.n e) ∧ k = sto) :=
  (c_deal_Driver_0 m hm e).boxRO (nr_mcs m) rfl rfl (fun d h => by subst h; exact ⟨rfl, rfl⟩) hr hb hbr
noncomputable def okOs (n : Int) (os : List Ord) : Prop := os.length ≤ 40 ∧ (∀ o, o ∈ os → errO n o = 0) ∧ os.Pairwise (fun a b => a.id ≠ b.id)
noncomputable instance (n : Int) (os : List Ord) : Decidable (okOs n os) := by unfold okOs; infer_instance
theorem pw_snoc {os : List Ord} {i : Nat} (hi : i < os.length) (h : (os.take i).Pairwise (fun a b => a.id ≠ b.id)) (hn : ∀ x, x ∈ os.take i → x.id ≠ os[i].id) : (os.take (i + 1)).Pairwise (fun a b => a.id ≠ b.id) := by
  rw [List.take_succ_eq_append_getElem hi, List.pairwise_append]
  exact ⟨h, by simp, fun a ha b hb => by rw [List.mem_singleton.1 hb]; exact hn a ha⟩
theorem pw_no {os : List Ord} {i j : Nat} (hi : i < os.length) (hj : j < i) (e : (os[j]'(by omega)).id = os[i].id) : ¬ os.Pairwise (fun a b => a.id ≠ b.id) := fun h => (List.pairwise_iff_getElem.1 h j i (by omega) hi hj) e
end Go.Lv

namespace Go.Lv
open Go.Proofs

noncomputable def sKn (m : Mp) (os : List Ord) (i : Nat) : DS := ⟨[(0, .gptr 0 0), (1, encOs os), (12, encOs os), (13, .int .i64 (os.length : Int)), (14, .int .i64 (i : Int)), (4, .bool false)], [], [mbox m], mR 1⟩
noncomputable def sKn2 (m : Mp) (os : List Ord) (i j : Nat) (h : i < os.length) : DS := ⟨[(0, .gptr 0 0), (1, encOs os), (12, encOs os), (13, .int .i64 (os.length : Int)), (14, .int .i64 (i : Int)), (6, .lptr 6 0 0), (25, encOs (os.take i)), (26, .int .i64 (((os.take i).map rowO).length : Int)), (27, .int .i64 (j : Int)), (4, .bool false)], [(6, rowO os[i])], [mbox m], mR 1⟩
theorem take_rows (os : List Ord) (i : Nat) {n : Int} (h : n = (i : Int)) : ((os.map rowO).drop 0).take (n.toNat - 0) = (os.take i).map rowO := by
  subst h
  simp [List.map_take]
theorem allLenO (os : List Ord) : allLen 10 (os.map rowO) = true := by simp [allLen, rowO]
set_option maxHeartbeats 4000000 in
theorem c_deal_Known_0 (m : Mp) (hm : okMp m) (os : List Ord) : Tri Try.prog 50 1 [.gptr 0 0, encOs os] [mbox m] (fun d k => d = .bool (decide (okOs m.n os)) ∧ k = [mbox m]) := by
  refine Tri.walk2 (L := LT) (c := {n := 38, ko := [4]}) [] [0, 1, 4, 5, 6, 8, 11, 12, 13, 14, 15, 22, 25, 26, 27, 28, 35] hLT hmix Try.func50 rfl rfl ⟨rfl, rfl⟩ (by show 2 ≤ 38; decide) (by first | exact Nat.zero_le _ | exact Nat.le_refl _ | exact Nat.le_succ 1 | decide) ?_
  refine And.intro (fun h0 => ?_) (fun h0 => ?_)
  · have h0 : ((os.map rowO).length : Int) > 40 := of_decide_eq_true h0
    rw [List.length_map] at h0
    rw [decide_eq_false (show ¬ okOs m.n os from fun h => by have := h.1; omega)]
    exact And.intro rfl rfl
  have h0 : ¬ ((os.map rowO).length : Int) > 40 := of_decide_eq_false h0
  rw [List.length_map] at h0
  show Ok _ _ _ _ _
  refine Ok.loopN hLT hmix [] [0, 1, 4, 5, 6, 8, 11, 12, 13, 14, 15, 22, 25, 26, 27, 28, 35] [0,1,12,13,14,4] [] (fun n s => ∃ i : Nat, n = os.length - i ∧ i ≤ os.length ∧ (∀ o, o ∈ os.take i → errO m.n o = 0) ∧ (os.take i).Pairwise (fun a b => a.id ≠ b.id) ∧ s = sKn m os i) (n := os.length) ⟨0, rfl, Nat.zero_le _, by simp, by simp, by unfold sKn; rw [← List.length_map (f := rowO)]; rfl⟩ ?_
  rintro n s ⟨i, rfl, hi, hall, hpw, rfl⟩
  refine And.intro (fun h1 => ?_) (fun h1 => ?_)
  rotate_left
  · have h1 : ¬ ((i : Nat) : Int) < (os.length : Int) := of_decide_eq_false h1
    rw [List.take_of_length_le (by omega)] at hall hpw
    rw [decide_eq_true (show okOs m.n os from ⟨by omega, hall, hpw⟩)]
    exact And.intro rfl rfl
  have h1 : ((i : Nat) : Int) < (os.length : Int) := of_decide_eq_true h1
  have hil : i < os.length := by omega
  have hw := wrap_succ (i := i) (n := os.length) hil (by omega)
  refine ⟨(os).map rowO, rowO ((os)[i]'(by omega)), rfl, by omega, row_at' rowO (os) (by omega) (by omega), rfl, of_decide_eq_true rfl, ?_⟩
  refine ⟨rfl, (by first | exact Nat.zero_le _ | exact Nat.le_refl _ | exact Nat.le_succ 1 | decide), (c_deal_Order m hm os[i] (r := 1) (sto := [mbox m]) (Nat.le_refl 1) rfl (Nat.lt_succ_self 0)).mono ?_⟩
  rintro d l ⟨rfl, rfl⟩
  refine ⟨rfl, fun _ _ => rfl, rfl, ?_⟩
  refine And.intro (fun h2 => ?_) (fun h2 => ?_)
  · have h2 := nd_true h2
    rw [decide_eq_false (show ¬ okOs m.n os from fun h => h2 (h.2.1 _ (List.getElem_mem _)))]
    exact And.intro rfl rfl
  have h2 := nd_false h2
  refine And.intro ⟨Int.natCast_nonneg _, by rw [List.length_map]; omega⟩ (And.intro (Nat.zero_le _) (And.intro (of_decide_eq_true rfl) (And.intro (allLenO os) ?_)))
  show Ok _ _ _ _ _
  refine Ok.loopN hLT hmix [] [0, 1, 4, 5, 6, 8, 11, 12, 13, 14, 15, 22, 25, 26, 27, 28, 35] [0,1,12,13,14,6,25,26,27,4] [6] (fun n s => ∃ j : Nat, n = i - j ∧ j ≤ i ∧ (∀ x, x ∈ os.take j → x.id ≠ os[i].id) ∧ s = sKn2 m os i j hil) (n := i) ⟨0, rfl, Nat.zero_le _, by simp, by unfold sKn2 encOs; rw [← take_rows os i rfl]; rfl⟩ ?_
  rintro n s ⟨j, rfl, hj, hne, rfl⟩
  have hlen : ((os.take i).map rowO).length = i := by rw [List.length_map, List.length_take]; omega
  refine And.intro (fun h3 => ?_) (fun h3 => ?_)
  · have h3 : ((j : Nat) : Int) < (((os.take i).map rowO).length : Int) := of_decide_eq_true h3
    rw [hlen] at h3
    have hwj := wrap_succ (i := j) (n := i) (by omega) (by omega)
    refine ⟨(os.take i).map rowO, rowO ((os.take i)[j]'(by rw [List.length_take]; omega)), rfl, by omega, row_at' rowO (os.take i) (by omega) (by rw [List.length_take]; omega), rfl, of_decide_eq_true rfl, ?_⟩
    refine And.intro (fun h4 => ?_) (fun h4 => ?_)
    · have h4 := of_decide_eq_true h4
      rw [List.getElem_take] at h4
      rw [decide_eq_false (show ¬ okOs m.n os from fun h => pw_no hil (show j < i by omega) h4 h.2.2)]
      exact And.intro rfl rfl
    have h4 := of_decide_eq_false h4
    rw [List.getElem_take] at h4
    refine ⟨i - (j + 1), by omega, j + 1, rfl, by omega, fun x hx => ?_, ?_⟩
    · rw [List.take_succ_eq_append_getElem (by omega)] at hx
      rcases List.mem_append.1 hx with hx | hx
      · exact hne x hx
      · rw [List.mem_singleton.1 hx]
        exact h4
    · unfold sKn2
      rw [← hwj]
      rfl
  have h3 : ¬ ((j : Nat) : Int) < (((os.take i).map rowO).length : Int) := of_decide_eq_false h3
  rw [hlen] at h3
  have hji : j = i := by omega
  subst hji
  refine ⟨os.length - (j + 1), by omega, j + 1, rfl, by omega, fun x hx => ?_, pw_snoc hil hpw hne, ?_⟩
  · rw [List.take_succ_eq_append_getElem hil] at hx
    rcases List.mem_append.1 hx with hx | hx
    · exact hall x hx
    · rw [List.mem_singleton.1 hx]
      exact h2
  · unfold sKn
    rw [← hw]
    rfl
theorem c_deal_Known (m : Mp) (hm : okMp m) (os : List Ord) {r b : Nat} {sto : List Ob} (hr : r ≤ sto.length) (hb : sto[b]? = some (mbox m)) (hbr : b < r) : Tri Try.prog 50 r [.gptr b 0, encOs os] sto (fun d k => d = .bool (decide (okOs m.n os)) ∧ k = sto) :=
  (c_deal_Known_0 m hm os).boxRO (nr_mcs m) rfl (nrBL_O rfl) (fun d h => by subst h; exact ⟨rfl, rfl⟩) hr hb hbr
end Go.Lv

namespace Go.Lv
open Go.Proofs

noncomputable def findO (id : Int) : List Ord → Option Ord
  | [] => none
  | o :: r => if o.id = id then some o else findO id r
noncomputable def zeroO : Ord := ⟨0, 0, ⟨0, ⟨0, 0⟩, 0⟩, ⟨0, ⟨0, 0⟩, 0⟩⟩
noncomputable def findOD (id : Int) (os : List Ord) : D := match findO id os with
  | some o => .tup [.agg (rowO o), .bool true]
  | none => .tup [.agg (rowO zeroO), .bool false]
theorem findO_at {id : Int} {os : List Ord} {i : Nat} (h : i < os.length) : findO id (os.drop i) = if os[i].id = id then some os[i] else findO id (os.drop (i + 1)) := by
  rw [List.drop_eq_getElem_cons h]
  rfl
theorem findO_mem {id : Int} : ∀ {os : List Ord} {o : Ord}, findO id os = some o → o ∈ os ∧ o.id = id
  | [], o, h => by cases h
  | x :: r, o, h => by
    unfold findO at h
    split at h
    · rename_i e
      cases h
      exact ⟨by simp, e⟩
    · have := findO_mem h
      exact ⟨by simp [this.1], this.2⟩
theorem findOD_ok (id : Int) (os : List Ord) : partsOK (findOD id os) = true ∧ nrB 0 (findOD id os) = true := by
  unfold findOD
  split <;> exact ⟨rfl, rfl⟩
noncomputable def sFo (os : List Ord) (id : Int) (i : Nat) : DS := ⟨[(1, .int .i64 id), (8, encOs os), (9, .int .i64 (os.length : Int)), (10, .int .i64 (i : Int)), (4, .lptr 4 0 0), (5, .bool false)], [(4, rowO zeroO)], [], mR 0⟩
set_option maxHeartbeats 4000000 in
theorem c_route_Find_0 (os : List Ord) (hl : os.length ≤ 1000000000000000) (id : Int) : Tri Try.prog 57 0 [encOs os, .int .i64 id] [] (fun d k => d = findOD id os ∧ k = []) := by
  refine Tri.walk2 (L := LT) (c := {n := 21, ko := [5], kb := [4]}) [] [0, 1, 4, 5, 7, 8, 9, 10, 11, 17] hLT hmix Try.func57 rfl rfl ⟨rfl, rfl⟩ (by show 2 ≤ 21; decide) (by first | exact Nat.zero_le _ | exact Nat.le_refl _ | exact Nat.le_succ 1 | decide) ?_
  show Ok _ _ _ _ _
  refine Ok.loopN hLT hmix [] [0, 1, 4, 5, 7, 8, 9, 10, 11, 17] [1,8,9,10,4,5] [4] (fun n s => ∃ i : Nat, n = os.length - i ∧ i ≤ os.length ∧ findO id (os.drop i) = findO id os ∧ s = sFo os id i) (n := os.length) ⟨0, rfl, Nat.zero_le _, rfl, by unfold sFo; rw [← List.length_map (f := rowO)]; rfl⟩ ?_
  rintro n s ⟨i, rfl, hi, hix, rfl⟩
  unfold findOD
  refine And.intro (fun h1 => ?_) (fun h1 => ?_)
  · have h1 : ((i : Nat) : Int) < (os.length : Int) := of_decide_eq_true h1
    have hw := wrap_succ (i := i) (n := os.length) (by omega) hl
    rw [findO_at (by omega)] at hix
    refine ⟨(os).map rowO, rowO ((os)[i]'(by omega)), rfl, by omega, row_at' rowO (os) (by omega) (by omega), rfl, of_decide_eq_true rfl, ?_⟩
    generalize os[i] = o at hix ⊢
    refine And.intro (fun h2 => ?_) (fun h2 => ?_)
    · have h2 : o.id = id := of_decide_eq_true h2
      rw [if_pos h2] at hix
      rw [← hix]
      exact And.intro rfl rfl
    · have h2 : ¬ o.id = id := of_decide_eq_false h2
      rw [if_neg h2] at hix
      refine ⟨os.length - (i + 1), by omega, i + 1, rfl, by omega, hix, ?_⟩
      unfold sFo
      rw [← hw]
      rfl
  · have h1 : ¬ ((i : Nat) : Int) < (os.length : Int) := of_decide_eq_false h1
    rw [List.drop_eq_nil_of_le (by omega)] at hix
    rw [← hix]
    exact And.intro rfl rfl
theorem c_route_Find (os : List Ord) (hl : os.length ≤ 1000000000000000) (id : Int) {r : Nat} {sto : List Ob} (hr : r ≤ sto.length) : Tri Try.prog 57 r [encOs os, .int .i64 id] sto (fun d k => d = findOD id os ∧ k = sto) :=
  (c_route_Find_0 os hl id).pure rfl (nrBL_O rfl) (findOD_ok id os).1 (findOD_ok id os).2 hr
noncomputable def siteO (o : Ord) : Bool → Sit
  | true => o.drop
  | false => o.pick
theorem c_route_Site_0 (o : Ord) (b : Bool) : Tri Try.prog 53 0 [.agg (rowO o), .bool b] [] (fun d k => d = .agg (rowSi (siteO o b)) ∧ k = []) := by
  cases b with
  | true =>
    refine Tri.walk2 (L := LT) (c := {n := 10, kb := [4]}) [] [0, 1, 2, 4, 5] hLT hmix Try.func53 rfl rfl ⟨rfl, rfl⟩ (by show 2 ≤ 10; decide) (by first | exact Nat.zero_le _ | exact Nat.le_refl _ | exact Nat.le_succ 1 | decide) ?_
    repeat (first | refine And.intro (fun _ => ?_) (fun h => Bool.noConfusion h) | refine And.intro (fun h => Bool.noConfusion h) (fun _ => ?_))
    exact And.intro rfl rfl
  | false =>
    refine Tri.walk2 (L := LT) (c := {n := 10, kb := [4]}) [] [0, 1, 2, 4, 5] hLT hmix Try.func53 rfl rfl ⟨rfl, rfl⟩ (by show 2 ≤ 10; decide) (by first | exact Nat.zero_le _ | exact Nat.le_refl _ | exact Nat.le_succ 1 | decide) ?_
    repeat (first | refine And.intro (fun _ => ?_) (fun h => Bool.noConfusion h) | refine And.intro (fun h => Bool.noConfusion h) (fun _ => ?_))
    exact And.intro rfl rfl
theorem c_route_Site (o : Ord) (b : Bool) {r : Nat} {sto : List Ob} (hr : r ≤ sto.length) : Tri Try.prog 53 r [.agg (rowO o), .bool b] sto (fun d k => d = .agg (rowSi (siteO o b)) ∧ k = sto) :=
  (c_route_Site_0 o b).pure rfl rfl rfl rfl hr
noncomputable def sStd (l : List Stp) (v : Stp) (i : Nat) : DS := ⟨[(7, .list .imm (l.map rowS)), (8, .int .i64 (l.length : Int)), (9, .int .i64 (i : Int)), (3, .lptr 3 0 0), (4, .bool false)], [(3, rowS v)], [], mR 0⟩
set_option maxHeartbeats 4000000 in
theorem c_route_stands_0 (l : List Stp) (hl : l.length ≤ 1000000000000000) (v : Stp) : Tri Try.prog 75 0 [.list .imm (l.map rowS), .agg (rowS v)] [] (fun d k => d = .bool (decide (v ∈ l)) ∧ k = []) := by
  refine Tri.walk2 (L := LT) (c := {n := 17, ko := [4]}) [] [0, 1, 3, 4, 6, 7, 8, 9, 10, 15] hLT hmix Try.func75 rfl rfl ⟨rfl, rfl⟩ (by show 2 ≤ 17; decide) (by first | exact Nat.zero_le _ | exact Nat.le_refl _ | exact Nat.le_succ 1 | decide) ?_
  show Ok _ _ _ _ _
  refine Ok.loopN hLT hmix [] [0, 1, 3, 4, 6, 7, 8, 9, 10, 15] [7,8,9,3,4] [3] (fun n s => ∃ i : Nat, n = l.length - i ∧ i ≤ l.length ∧ v ∉ l.take i ∧ s = sStd l v i) (n := l.length) ⟨0, rfl, Nat.zero_le _, by simp, by unfold sStd; rw [← List.length_map (f := rowS)]; rfl⟩ ?_
  rintro n s ⟨i, rfl, hi, hn, rfl⟩
  refine And.intro (fun h1 => ?_) (fun h1 => ?_)
  · have h1 : ((i : Nat) : Int) < (l.length : Int) := of_decide_eq_true h1
    have hw := wrap_succ (i := i) (n := l.length) (by omega) hl
    refine ⟨(l).map rowS, rowS ((l)[i]'(by omega)), rfl, by omega, row_at' rowS (l) (by omega) (by omega), rfl, of_decide_eq_true rfl, ?_⟩
    refine And.intro (fun h2 => ?_) (fun h2 => ?_)
    · have h2 := stp_eq h2
      rw [decide_eq_true (show v ∈ l by rw [← h2]; exact List.getElem_mem _)]
      exact And.intro rfl rfl
    · have h2 := stp_ne h2
      refine ⟨l.length - (i + 1), by omega, i + 1, rfl, by omega, ?_, ?_⟩
      · rw [List.take_succ_eq_append_getElem (by omega), List.mem_append]
        rintro (h | h)
        · exact hn h
        · exact h2 (List.mem_singleton.1 h).symm
      · unfold sStd
        rw [← hw]
        rfl
  · have h1 : ¬ ((i : Nat) : Int) < (l.length : Int) := of_decide_eq_false h1
    rw [List.take_of_length_le (by omega)] at hn
    rw [decide_eq_false hn]
    exact And.intro rfl rfl
theorem c_route_stands (l : List Stp) (hl : l.length ≤ 1000000000000000) {xs : List (List D)} (hx : xs = l.map rowS) (v : Stp) {r : Nat} {sto : List Ob} (hr : r ≤ sto.length) : Tri Try.prog 75 r [.list .imm xs, .agg (rowS v)] sto (fun d k => d = .bool (decide (v ∈ l)) ∧ k = sto) := by
  subst hx
  exact (c_route_stands_0 l hl v).pure rfl (nrBL_S rfl) rfl rfl hr
noncomputable def wrongE (os : List Ord) (ahead : List Stp) (s : Stp) : Int := match findO s.ord os with
  | none => 8
  | some _ => if s ∈ ahead then 16 else if s.drop = true ∧ (⟨s.ord, false⟩ : Stp) ∉ ahead then 17 else 0
noncomputable def ordOf (os : List Ord) (s : Stp) : Ord := (findO s.ord os).getD zeroO
noncomputable def wrongD (os : List Ord) (ahead : List Stp) (s : Stp) : D := .tup [.agg (rowO (ordOf os s)), .int .i64 (wrongE os ahead s)]
set_option maxHeartbeats 4000000 in
theorem c_route_wrong_0 (os : List Ord) (ho : os.length ≤ 1000000000000000) (l : List Stp) (hl : l.length ≤ 1000000000000000) (s : Stp) : Tri Try.prog 52 0 [encOs os, .list .imm (l.map rowS), .agg (rowS s)] [] (fun d k => d = wrongD os l s ∧ k = []) := by
  obtain ⟨n, b⟩ := s
  refine Tri.walk2 (L := LT) (c := {n := 39, ko := [7], kb := [6], xf := [10]}) [] [0, 1, 2, 5, 6, 7, 8, 9, 17, 21, 26] hLT hmix Try.func52 rfl rfl ⟨rfl, rfl⟩ (by show 3 ≤ 39; decide) (by first | exact Nat.zero_le _ | exact Nat.le_refl _ | exact Nat.le_succ 1 | decide) ?_
  have hc := c_route_Find os ho n (r := 0) (sto := []) (Nat.le_refl 0)
  unfold findOD at hc
  unfold wrongD wrongE ordOf
  cases hf : findO n os with
  | none =>
    rw [hf] at hc
    refine ⟨rfl, (by first | exact Nat.zero_le _ | exact Nat.le_refl _ | exact Nat.le_succ 1 | decide), (hc).mono ?_⟩
    rintro d l ⟨rfl, rfl⟩
    refine ⟨rfl, fun _ _ => rfl, rfl, ?_⟩
    repeat (first | refine And.intro (fun _ => ?_) (fun h => Bool.noConfusion h) | refine And.intro (fun h => Bool.noConfusion h) (fun _ => ?_))
    exact And.intro rfl rfl
  | some o =>
    rw [hf] at hc
    refine ⟨rfl, (by first | exact Nat.zero_le _ | exact Nat.le_refl _ | exact Nat.le_succ 1 | decide), (hc).mono ?_⟩
    rintro d l ⟨rfl, rfl⟩
    refine ⟨rfl, fun _ _ => rfl, rfl, ?_⟩
    repeat (first | refine And.intro (fun _ => ?_) (fun h => Bool.noConfusion h) | refine And.intro (fun h => Bool.noConfusion h) (fun _ => ?_))
    refine ⟨rfl, (by first | exact Nat.zero_le _ | exact Nat.le_refl _ | exact Nat.le_succ 1 | decide), (c_route_stands l hl rfl ⟨n, b⟩ (r := 0) (sto := []) (Nat.le_refl 0)).mono ?_⟩
    rintro d l ⟨rfl, rfl⟩
    refine ⟨rfl, fun _ _ => rfl, rfl, ?_⟩
    cases h1 : decide ((⟨n, b⟩ : Stp) ∈ l) with
    | true =>
      repeat (first | refine And.intro (fun _ => ?_) (fun h => Bool.noConfusion h) | refine And.intro (fun h => Bool.noConfusion h) (fun _ => ?_))
      have h1 := of_decide_eq_true h1
      rw [if_pos h1]
      exact And.intro rfl rfl
    | false =>
      repeat (first | refine And.intro (fun _ => ?_) (fun h => Bool.noConfusion h) | refine And.intro (fun h => Bool.noConfusion h) (fun _ => ?_))
      have h1 := of_decide_eq_false h1
      rw [if_neg h1]
      cases b with
      | false =>
        repeat (first | refine And.intro (fun _ => ?_) (fun h => Bool.noConfusion h) | refine And.intro (fun h => Bool.noConfusion h) (fun _ => ?_))
        rw [if_neg (by simp)]
        exact And.intro rfl rfl
      | true =>
        repeat (first | refine And.intro (fun _ => ?_) (fun h => Bool.noConfusion h) | refine And.intro (fun h => Bool.noConfusion h) (fun _ => ?_))
        refine ⟨rfl, (by first | exact Nat.zero_le _ | exact Nat.le_refl _ | exact Nat.le_succ 1 | decide), (c_route_stands l hl rfl ⟨n, false⟩ (r := 0) (sto := []) (Nat.le_refl 0)).mono ?_⟩
        rintro d l ⟨rfl, rfl⟩
        refine ⟨rfl, fun _ _ => rfl, rfl, ?_⟩
        cases h2 : decide ((⟨n, false⟩ : Stp) ∈ l) with
        | false =>
          repeat (first | refine And.intro (fun _ => ?_) (fun h => Bool.noConfusion h) | refine And.intro (fun h => Bool.noConfusion h) (fun _ => ?_))
          rw [if_pos ⟨rfl, of_decide_eq_false h2⟩]
          exact And.intro rfl rfl
        | true =>
          repeat (first | refine And.intro (fun _ => ?_) (fun h => Bool.noConfusion h) | refine And.intro (fun h => Bool.noConfusion h) (fun _ => ?_))
          rw [if_neg (fun h => h.2 (of_decide_eq_true h2))]
          exact And.intro rfl rfl
theorem c_route_wrong (os : List Ord) (ho : os.length ≤ 1000000000000000) (l : List Stp) (hl : l.length ≤ 1000000000000000) {xs : List (List D)} (hx : xs = l.map rowS) (s : Stp) {r : Nat} {sto : List Ob} (hr : r ≤ sto.length) : Tri Try.prog 52 r [encOs os, .list .imm xs, .agg (rowS s)] sto (fun d k => d = wrongD os l s ∧ k = sto) := by
  subst hx
  exact (c_route_wrong_0 os ho l hl s).pure rfl (nrBL_O (nrBL_S rfl)) rfl rfl hr
end Go.Lv

namespace Go.Lv
open Go.Proofs

structure Vis where
  st : Stp
  arr : Int
  beg : Int
  lve : Int
  load : Int
  deriving DecidableEq
noncomputable def rowV (v : Vis) : List D := [.int .i64 v.st.ord, .bool v.st.drop, .int .i64 v.arr, .int .i64 v.beg, .int .i64 v.lve, .int .i64 v.load]
noncomputable def sitOf (os : List Ord) (s : Stp) : Sit := siteO (ordOf os s) s.drop
noncomputable def ldO (o : Ord) (load : Int) : Bool → Int
  | true => load - o.size
  | false => load + o.size
noncomputable def ldOf (os : List Ord) (s : Stp) (load : Int) : Int := ldO (ordOf os s) load s.drop
noncomputable def goT (m : Mp) (d : Drv) (os : List Ord) : List Stp → Int → Int → Int → List Vis → List Stp → List Vis × Int × Int
  | ahead, _, _, load, out, [] => if load > 0 then ([], (ahead.length : Int), 18) else (out, 0, 0)
  | ahead, now, at_, load, out, s :: r =>
    if wrongE os ahead s ≠ 0 then ([], (ahead.length : Int), wrongE os ahead s) else
    if ldOf os s load > d.room then ([], (ahead.length : Int), 14) else
    match beginW (sitOf os s).w (now + timeM m at_ (sitOf os s).place) with
    | none => ([], (ahead.length : Int), 15)
    | some b => if b + (sitOf os s).serv > d.w.hi then ([], (ahead.length : Int), 15) else
      goT m d os (ahead ++ [s]) (b + (sitOf os s).serv) (sitOf os s).place (ldOf os s load) (out ++ [⟨s, now + timeM m at_ (sitOf os s).place, b, b + (sitOf os s).serv, ldOf os s load⟩]) r
noncomputable def timed (m : Mp) (d : Drv) (os : List Ord) (st : List Stp) : List Vis × Int × Int := goT m d os [] d.w.lo d.home 0 [] st
noncomputable def fltD (a e : Int) : D := .agg [.int .i64 a, .int .i64 e]
noncomputable def isDrv (x : List Vis × Int × Int) (d : D) : Prop := ∃ sz, (sz = 0 ∨ sz = 6) ∧ d = .tup [.list (.own sz) (x.1.map rowV), fltD x.2.1 x.2.2]
noncomputable def fitD (m : Mp) (d : Drv) (os : List Ord) (st : List Stp) : Prop := errD m.n d = 0 ∧ okOs m.n os ∧ st.length ≤ 80
noncomputable instance (m : Mp) (d : Drv) (os : List Ord) (st : List Stp) : Decidable (fitD m d os st) := by unfold fitD; infer_instance
noncomputable def wayG (m : Mp) (os : List Ord) : Int → Int → List Stp → Int
  | _, n, [] => n
  | at_, n, s :: r => wayG m os (sitOf os s).place (n + timeM m at_ (sitOf os s).place) r
noncomputable def wayP (m : Mp) (d : Drv) (os : List Ord) (st : List Stp) : Int := wayG m os d.home 0 st
theorem goT_at {m : Mp} {d : Drv} {os : List Ord} {ahead : List Stp} {now at_ load : Int} {out : List Vis} {st : List Stp} {i : Nat} (h : i < st.length) : goT m d os ahead now at_ load out (st.drop i) =
    if wrongE os ahead st[i] ≠ 0 then ([], (ahead.length : Int), wrongE os ahead st[i]) else
    if ldOf os st[i] load > d.room then ([], (ahead.length : Int), 14) else
    match beginW (sitOf os st[i]).w (now + timeM m at_ (sitOf os st[i]).place) with
    | none => ([], (ahead.length : Int), 15)
    | some b => if b + (sitOf os st[i]).serv > d.w.hi then ([], (ahead.length : Int), 15) else
      goT m d os (ahead ++ [st[i]]) (b + (sitOf os st[i]).serv) (sitOf os st[i]).place (ldOf os st[i] load) (out ++ [⟨st[i], now + timeM m at_ (sitOf os st[i]).place, b, b + (sitOf os st[i]).serv, ldOf os st[i] load⟩]) (st.drop (i + 1)) := by
  rw [List.drop_eq_getElem_cons h]
  rfl
theorem nrBLL_V : ∀ l : List Vis, nrBLL 0 (l.map rowV) = true
  | [] => rfl
  | b :: r => by
    show (nrBL 0 (rowV b) && nrBLL 0 (r.map rowV)) = true
    rw [nrBLL_V r]
    rfl
theorem isDrv_ok {x : List Vis × Int × Int} {d : D} (h : isDrv x d) : partsOK d = true ∧ nrB 0 d = true := by
  obtain ⟨sz, _, rfl⟩ := h
  refine ⟨rfl, ?_⟩
  show (nrBLL 0 (x.1.map rowV) && (nrBL 0 [D.int .i64 x.2.1, D.int .i64 x.2.2] && true)) = true
  rw [nrBLL_V]
  rfl
theorem take_rowsS (l : List Stp) (i : Nat) {n : Int} (h : n = (i : Int)) : ((l.map rowS).drop 0).take (n.toNat - 0) = (l.take i).map rowS := by
  subst h
  simp [List.map_take]
theorem wrongE_0 {os : List Ord} {ahead : List Stp} {s : Stp} (h : wrongE os ahead s = 0) : ∃ o, findO s.ord os = some o ∧ s ∉ ahead ∧ ¬ (s.drop = true ∧ (⟨s.ord, false⟩ : Stp) ∉ ahead) := by
  unfold wrongE at h
  cases hf : findO s.ord os with
  | none =>
    rw [hf] at h
    exact absurd h (by show ¬ (8 : Int) = 0; decide)
  | some o =>
    rw [hf] at h
    have h : (if s ∈ ahead then (16 : Int) else if s.drop = true ∧ (⟨s.ord, false⟩ : Stp) ∉ ahead then 17 else 0) = 0 := h
    split at h
    · exact absurd h (by decide)
    · rename_i h1
      split at h
      · exact absurd h (by decide)
      · rename_i h2
        exact ⟨o, rfl, h1, h2⟩
theorem errO_size {n : Int} {o : Ord} (h : errO n o = 0) : 1 ≤ o.id ∧ o.id ≤ 1000000 ∧ 1 ≤ o.size ∧ o.size ≤ 1000 ∧ ∀ b, 0 ≤ (siteO o b).serv ∧ (siteO o b).serv ≤ 1000000 ∧ 0 ≤ (siteO o b).place ∧ (siteO o b).place < n ∧ 0 ≤ (siteO o b).w.lo ∧ (siteO o b).w.lo ≤ (siteO o b).w.hi ∧ (siteO o b).w.hi ≤ 1000000 := by
  unfold errO at h
  split at h
  · omega
  split at h
  · omega
  split at h
  · omega
  split at h
  · omega
  split at h
  · omega
  refine ⟨by omega, by omega, by omega, by omega, fun b => ?_⟩
  cases b
  · show 0 ≤ o.pick.serv ∧ o.pick.serv ≤ 1000000 ∧ 0 ≤ o.pick.place ∧ o.pick.place < n ∧ 0 ≤ o.pick.w.lo ∧ o.pick.w.lo ≤ o.pick.w.hi ∧ o.pick.w.hi ≤ 1000000
    omega
  · show 0 ≤ o.drop.serv ∧ o.drop.serv ≤ 1000000 ∧ 0 ≤ o.drop.place ∧ o.drop.place < n ∧ 0 ≤ o.drop.w.lo ∧ o.drop.w.lo ≤ o.drop.w.hi ∧ o.drop.w.hi ≤ 1000000
    omega
theorem errD_room {n : Int} {d : Drv} (h : errD n d = 0) : 1 ≤ d.id ∧ d.id ≤ 1000000 ∧ 1 ≤ d.room ∧ d.room ≤ 1000 ∧ 0 ≤ d.home ∧ d.home < n ∧ 0 ≤ d.w.lo ∧ d.w.lo ≤ d.w.hi ∧ d.w.hi ≤ 1000000 := by
  unfold errD at h
  split at h
  · omega
  split at h
  · omega
  split at h
  · omega
  split at h
  · omega
  omega
theorem ordOf_ok {n : Int} {os : List Ord} {ahead : List Stp} {s : Stp} (ho : okOs n os) (h : wrongE os ahead s = 0) : 1 ≤ (ordOf os s).size ∧ (ordOf os s).size ≤ 1000 ∧ 0 ≤ (sitOf os s).serv ∧ (sitOf os s).serv ≤ 1000000 ∧ (sitOf os s).w.hi ≤ 1000000 := by
  obtain ⟨o, hf, _, _⟩ := wrongE_0 h
  have hm := (findO_mem hf).1
  have e := errO_size (ho.2.1 o hm)
  unfold sitOf ordOf
  rw [hf]
  have e2 := e.2.2.2.2 s.drop
  exact ⟨e.2.2.1, e.2.2.2.1, e2.1, e2.2.1, e2.2.2.2.2.2.2⟩
theorem beginW_some {w : Win} {t b : Int} (h : beginW w t = some b) : b = max t w.lo ∧ t ≤ w.hi ∧ 0 ≤ w.lo ∧ w.lo ≤ w.hi ∧ w.hi ≤ 1000000 := by
  unfold beginW at h
  split at h
  · rename_i hc
    cases h
    have := rightW_iff.1 hc.1
    exact ⟨rfl, hc.2, this.1, this.2.1, this.2.2⟩
  · cases h
end Go.Lv

namespace Go.Lv
open Go.Proofs

noncomputable def sTm (m : Mp) (d : Drv) (os : List Ord) (st : List Stp) (out : List Vis) (sz : Nat) (now at_ load : Int) (i : Nat) : DS := ⟨[(0, .gptr 0 0), (2, encOs os), (3, .list .imm (st.map rowS)), (5, .lptr 5 0 0), (8, .list (.own 0) []), (9, .lptr 9 0 0), (10, .list (.own sz) (out.map rowV)), (11, .int .i64 now), (12, .int .i64 at_), (13, .int .i64 load), (28, .list .imm (st.map rowS)), (29, .int .i64 (st.length : Int)), (30, .int .i64 (i : Int))], [(5, rowDr d), (9, [.int .i64 0, .int .i64 0])], [mbox m], mR 1⟩
set_option maxHeartbeats 8000000 in
theorem c_route_Timed_0 (m : Mp) (hm : okMp m) (d : Drv) (hd : errD m.n d = 0) (os : List Ord) (ho : okOs m.n os) (st : List Stp) (hst : st.length ≤ 80) : Tri Try.prog 33 1 [.gptr 0 0, .agg (rowDr d), encOs os, .list .imm (st.map rowS)] [mbox m] (fun x k => isDrv (timed m d os st) x ∧ k = [mbox m]) := by
  refine Tri.walk2 (L := LT) (c := {n := 128, ko := [8, 10], kb := [9], xf := [100, 126]}) [] [0, 1, 2, 3, 5, 8, 9, 10, 11, 12, 13, 14, 15, 16, 17, 18, 19, 21, 22, 28, 29, 30, 31, 45, 50, 62, 97, 122] hLT hmix Try.func33 rfl rfl ⟨rfl, rfl⟩ (by show 4 ≤ 128; decide) (by first | exact Nat.zero_le _ | exact Nat.le_refl _ | exact Nat.le_succ 1 | decide) ?_
  have hdr := errD_room hd
  have hol := ho.1
  have hal : allLen 2 (st.map rowS) = true := by simp [allLen, rowS]
  refine ⟨⟨255, [0, 1, 2, 0, 8, 7, 63, 127], [1, 3, 7, 8, 24, 39, 127, 255]⟩, by kernel_rfl, ?_⟩
  refine And.intro ?_ trivial
  refine And.intro (by repeat (first | exact trivial | refine And.intro ⟨rfl, rfl⟩ ?_)) ?_
  refine And.intro ?_ trivial
  refine And.intro (by repeat (first | exact trivial | refine And.intro ⟨rfl, rfl⟩ ?_)) ?_
  refine And.intro ?_ trivial
  refine And.intro (by repeat (first | exact trivial | refine And.intro ⟨rfl, rfl⟩ ?_)) ?_
  show Ok _ _ _ _ _
  refine Ok.loopN hLT hmix [] [0, 1, 2, 3, 5, 8, 9, 10, 11, 12, 13, 14, 15, 16, 17, 18, 19, 21, 22, 28, 29, 30, 31, 45, 50, 62, 97, 122] [0,2,3,5,8,9,10,11,12,13,28,29,30] [5,9] (fun n s => ∃ (i : Nat) (out : List Vis) (sz : Nat) (now at_ load : Int), n = st.length - i ∧ i ≤ st.length ∧ (sz = 0 ∨ sz = 6) ∧ out.length = i ∧ 0 ≤ now ∧ now ≤ 1000000 ∧ -1000 * (i : Int) ≤ load ∧ load ≤ 1000 ∧ goT m d os (st.take i) now at_ load out (st.drop i) = timed m d os st ∧ s = sTm m d os st out sz now at_ load i) (n := st.length) ⟨0, [], 0, d.w.lo, d.home, 0, rfl, Nat.zero_le _, .inl rfl, rfl, by omega, by omega, by omega, by omega, rfl, by unfold sTm; rw [← List.length_map (f := rowS)]; rfl⟩ ?_
  rintro n s ⟨i, out, sz, now, at_, load, rfl, hi, hsz, hout, hn0, hn1, hl0, hl1, hgo, rfl⟩
  refine And.intro (fun h1 => ?_) (fun h1 => ?_)
  rotate_left
  · have h1 : ¬ ((i : Nat) : Int) < (st.length : Int) := of_decide_eq_false h1
    rw [List.drop_eq_nil_of_le (by omega), List.take_of_length_le (by omega)] at hgo
    unfold goT at hgo
    refine And.intro (fun h2 => ?_) (fun h2 => ?_)
    · have h2 : load > 0 := of_decide_eq_true h2
      rw [if_pos h2] at hgo
      rw [← hgo]
      refine And.intro ⟨0, .inl rfl, ?_⟩ rfl
      show _ = D.tup [.list (.own 0) [], fltD (st.length : Int) 18]
      rw [← List.length_map (f := rowS)]
      rfl
    · have h2 : ¬ load > 0 := of_decide_eq_false h2
      rw [if_neg h2] at hgo
      rw [← hgo]
      exact And.intro ⟨sz, hsz, rfl⟩ rfl
  have h1 : ((i : Nat) : Int) < (st.length : Int) := of_decide_eq_true h1
  have hil : i < st.length := by omega
  have hw := wrap_succ (i := i) (n := st.length) hil (by omega)
  rw [goT_at hil] at hgo
  refine ⟨(st).map rowS, rowS ((st)[i]'(by omega)), rfl, by omega, row_at' rowS (st) (by omega) (by omega), rfl, of_decide_eq_true rfl, ?_⟩
  generalize hs : st[i] = s at hgo ⊢
  obtain ⟨sn, sb⟩ := s
  have hwr := c_route_wrong os (by omega) (st.take i) (by rw [List.length_take]; omega) (take_rowsS st i rfl) ⟨sn, sb⟩ (r := 1) (sto := [mbox m]) (Nat.le_refl 1)
  unfold wrongD at hwr
  have hfact := fun h => ordOf_ok (s := ⟨sn, sb⟩) (ahead := st.take i) ho h
  unfold ldOf sitOf at hgo
  unfold sitOf at hfact
  have htl : ((st.take i).length : Int) = (i : Int) := by rw [List.length_take, Nat.min_eq_left (by omega)]
  rw [htl] at hgo
  have hts : st.take (i + 1) = st.take i ++ [⟨sn, sb⟩] := by rw [List.take_succ_eq_append_getElem hil, hs]
  generalize ordOf os ⟨sn, sb⟩ = o at hwr hgo hfact
  generalize wrongE os (st.take i) ⟨sn, sb⟩ = e at hwr hgo hfact
  replace hgo : (if e ≠ 0 then (([], (i : Int), e) : List Vis × Int × Int) else if ldO o load sb > d.room then ([], (i : Int), 14) else match beginW (siteO o sb).w (now + timeM m at_ (siteO o sb).place) with
    | none => ([], (i : Int), 15)
    | some b => if b + (siteO o sb).serv > d.w.hi then ([], (i : Int), 15) else goT m d os (st.take i ++ [⟨sn, sb⟩]) (b + (siteO o sb).serv) (siteO o sb).place (ldO o load sb) (out ++ [⟨⟨sn, sb⟩, now + timeM m at_ (siteO o sb).place, b, b + (siteO o sb).serv, ldO o load sb⟩]) (st.drop (i + 1))) = timed m d os st := hgo
  have hsi := c_route_Site o sb (r := 1) (sto := [mbox m]) (Nat.le_refl 1)
  obtain ⟨si, hsi0⟩ : ∃ si, siteO o sb = si := ⟨_, rfl⟩
  replace hfact : e = 0 → 1 ≤ o.size ∧ o.size ≤ 1000 ∧ 0 ≤ si.serv ∧ si.serv ≤ 1000000 ∧ si.w.hi ≤ 1000000 := by rw [← hsi0]; exact hfact
  rw [hsi0] at hsi hgo
  have htm := c_geo_Time m hm at_ si.place (r := 1) (sto := [mbox m]) (Nat.le_refl 1) rfl (Nat.lt_succ_self 0)
  unfold timeD at htm
  have hwy := timeM_le hm at_ si.place
  generalize timeM m at_ si.place = way at htm hgo hwy
  generalize inM m at_ si.place = wayb at htm
  have hwn : IntKind.i64.wrap (now + way) = now + way := wrap64 (by omega) (by omega)
  have hbg := c_span_Begin si.w (IntKind.i64.wrap (now + way)) (r := 1) (sto := [mbox m]) (Nat.le_refl 1)
  rw [show beginD si.w (IntKind.i64.wrap (now + way)) = beginD si.w (now + way) by rw [hwn]] at hbg
  unfold beginD at hbg
  have hbs := fun b h => beginW_some (w := si.w) (t := now + way) (b := b) h
  generalize beginW si.w (now + way) = bo at hbg hgo hbs
  obtain ⟨sp, ⟨slo, shi⟩, ssv⟩ := si
  refine ⟨⟨3071, [0, 0, 0, 6, 0, 25, 32, 64, 64, 0, 767, 2047], [1, 2, 4, 14, 16, 63, 127, 255, 383, 512, 1791, 4095]⟩, by kernel_rfl, ?_⟩
  refine And.intro ⟨by omega, by (try rw [List.length_map]); omega⟩ (And.intro (Nat.zero_le _) (And.intro (of_decide_eq_true rfl) (And.intro (by assumption) (And.intro rfl ?_))))
  refine (fun (hrest : _) => And.intro (by
      refine ⟨rfl, (by first | exact Nat.zero_le _ | exact Nat.le_refl _ | exact Nat.le_succ 1 | decide), (hwr).mono ?_⟩
      rintro d l ⟨rfl, rfl⟩
      refine ⟨rfl, fun _ _ => rfl, rfl, ?_⟩
      refine And.intro (by repeat (first | exact trivial | refine And.intro ⟨rfl, rfl⟩ ?_ | refine And.intro (And.intro ⟨by omega, by (try rw [List.length_map]); omega⟩ (And.intro (Nat.zero_le _) (And.intro (of_decide_eq_true rfl) (And.intro (by assumption) (And.intro rfl (And.intro rfl rfl)))))) ?_ | refine And.intro ⟨_, _, rfl, by omega, row_at' _ _ rfl (by omega), rfl, of_decide_eq_true rfl, And.intro rfl (And.intro rfl rfl)⟩ ?_)) ?_
      refine And.intro ?_ trivial
      refine And.intro (by repeat (first | exact trivial | refine And.intro ⟨rfl, rfl⟩ ?_ | refine And.intro (And.intro ⟨by omega, by (try rw [List.length_map]); omega⟩ (And.intro (Nat.zero_le _) (And.intro (of_decide_eq_true rfl) (And.intro (by assumption) (And.intro rfl (And.intro rfl rfl)))))) ?_ | refine And.intro ⟨_, _, rfl, by omega, row_at' _ _ rfl (by omega), rfl, of_decide_eq_true rfl, And.intro rfl (And.intro rfl rfl)⟩ ?_)) ?_
      refine And.intro ?_ trivial
      refine And.intro (by repeat (first | exact trivial | refine And.intro ⟨rfl, rfl⟩ ?_ | refine And.intro (And.intro ⟨by omega, by (try rw [List.length_map]); omega⟩ (And.intro (Nat.zero_le _) (And.intro (of_decide_eq_true rfl) (And.intro (by assumption) (And.intro rfl (And.intro rfl rfl)))))) ?_ | refine And.intro ⟨_, _, rfl, by omega, row_at' _ _ rfl (by omega), rfl, of_decide_eq_true rfl, And.intro rfl (And.intro rfl rfl)⟩ ?_)) ?_
      refine And.intro ?_ trivial
      refine And.intro (by repeat (first | exact trivial | refine And.intro ⟨rfl, rfl⟩ ?_ | refine And.intro (And.intro ⟨by omega, by (try rw [List.length_map]); omega⟩ (And.intro (Nat.zero_le _) (And.intro (of_decide_eq_true rfl) (And.intro (by assumption) (And.intro rfl (And.intro rfl rfl)))))) ?_ | refine And.intro ⟨_, _, rfl, by omega, row_at' _ _ rfl (by omega), rfl, of_decide_eq_true rfl, And.intro rfl (And.intro rfl rfl)⟩ ?_)) ?_
      exact hrest) (And.intro (by
      refine And.intro (by repeat (first | exact trivial | refine And.intro ⟨rfl, rfl⟩ ?_ | refine And.intro (And.intro ⟨by omega, by (try rw [List.length_map]); omega⟩ (And.intro (Nat.zero_le _) (And.intro (of_decide_eq_true rfl) (And.intro (by assumption) (And.intro rfl (And.intro rfl rfl)))))) ?_ | refine And.intro ⟨_, _, rfl, by omega, row_at' _ _ rfl (by omega), rfl, of_decide_eq_true rfl, And.intro rfl (And.intro rfl rfl)⟩ ?_)) ?_
      refine And.intro ?_ trivial
      refine ⟨rfl, (by first | exact Nat.zero_le _ | exact Nat.le_refl _ | exact Nat.le_succ 1 | decide), (hwr).mono ?_⟩
      rintro d l ⟨rfl, rfl⟩
      refine ⟨rfl, fun _ _ => rfl, rfl, ?_⟩
      refine And.intro (by repeat (first | exact trivial | refine And.intro ⟨rfl, rfl⟩ ?_ | refine And.intro (And.intro ⟨by omega, by (try rw [List.length_map]); omega⟩ (And.intro (Nat.zero_le _) (And.intro (of_decide_eq_true rfl) (And.intro (by assumption) (And.intro rfl (And.intro rfl rfl)))))) ?_ | refine And.intro ⟨_, _, rfl, by omega, row_at' _ _ rfl (by omega), rfl, of_decide_eq_true rfl, And.intro rfl (And.intro rfl rfl)⟩ ?_)) ?_
      refine And.intro ?_ trivial
      refine And.intro (by repeat (first | exact trivial | refine And.intro ⟨rfl, rfl⟩ ?_ | refine And.intro (And.intro ⟨by omega, by (try rw [List.length_map]); omega⟩ (And.intro (Nat.zero_le _) (And.intro (of_decide_eq_true rfl) (And.intro (by assumption) (And.intro rfl (And.intro rfl rfl)))))) ?_ | refine And.intro ⟨_, _, rfl, by omega, row_at' _ _ rfl (by omega), rfl, of_decide_eq_true rfl, And.intro rfl (And.intro rfl rfl)⟩ ?_)) ?_
      refine And.intro ?_ trivial
      refine And.intro (by repeat (first | exact trivial | refine And.intro ⟨rfl, rfl⟩ ?_ | refine And.intro (And.intro ⟨by omega, by (try rw [List.length_map]); omega⟩ (And.intro (Nat.zero_le _) (And.intro (of_decide_eq_true rfl) (And.intro (by assumption) (And.intro rfl (And.intro rfl rfl)))))) ?_ | refine And.intro ⟨_, _, rfl, by omega, row_at' _ _ rfl (by omega), rfl, of_decide_eq_true rfl, And.intro rfl (And.intro rfl rfl)⟩ ?_)) ?_
      exact hrest) trivial)) ?_
  refine And.intro (fun h3 => ?_) (fun h3 => ?_)
  · have h3 := nd_true h3
    rw [if_pos h3] at hgo
    rw [← hgo]
    exact And.intro ⟨0, .inl rfl, rfl⟩ rfl
  have h3 := nd_false h3
  rw [if_neg (fun h => h h3)] at hgo
  have hfx := hfact h3
  cases sb with
  | true =>
    repeat (first | refine And.intro (fun _ => ?_) (fun h => Bool.noConfusion h) | refine And.intro (fun h => Bool.noConfusion h) (fun _ => ?_))
    have hwl : IntKind.i64.wrap (load - o.size) = ldO o load true := wrap64 (by show -9223372036854775808 ≤ load - o.size; omega) (by show load - o.size ≤ 9223372036854775807; omega)
    refine And.intro (fun h4 => ?_) (fun h4 => ?_)
    · have h4 : IntKind.i64.wrap (load - o.size) > d.room := of_decide_eq_true h4
      rw [hwl] at h4
      rw [if_pos h4] at hgo
      rw [← hgo]
      exact And.intro ⟨0, .inl rfl, rfl⟩ rfl
    have h4 : ¬ IntKind.i64.wrap (load - o.size) > d.room := of_decide_eq_false h4
    rw [hwl] at h4
    rw [if_neg h4] at hgo
    refine ⟨rfl, (by first | exact Nat.zero_le _ | exact Nat.le_refl _ | exact Nat.le_succ 1 | decide), (hsi).mono ?_⟩
    rintro d l ⟨rfl, rfl⟩
    refine ⟨rfl, fun _ _ => rfl, rfl, ?_⟩
    refine ⟨rfl, (by first | exact Nat.zero_le _ | exact Nat.le_refl _ | exact Nat.le_succ 1 | decide), (htm).mono ?_⟩
    rintro d l ⟨rfl, rfl⟩
    refine ⟨rfl, fun _ _ => rfl, rfl, ?_⟩
    cases hbo : bo with
    | none =>
      rw [hbo] at hbg hgo
      refine ⟨rfl, (by first | exact Nat.zero_le _ | exact Nat.le_refl _ | exact Nat.le_succ 1 | decide), (hbg).mono ?_⟩
      rintro d l ⟨rfl, rfl⟩
      refine ⟨rfl, fun _ _ => rfl, rfl, ?_⟩
      repeat (first | refine And.intro (fun _ => ?_) (fun h => Bool.noConfusion h) | refine And.intro (fun h => Bool.noConfusion h) (fun _ => ?_))
      rw [← hgo]
      exact And.intro ⟨0, .inl rfl, rfl⟩ rfl
    | some b =>
      rw [hbo] at hbg
      refine ⟨rfl, (by first | exact Nat.zero_le _ | exact Nat.le_refl _ | exact Nat.le_succ 1 | decide), (hbg).mono ?_⟩
      rintro d l ⟨rfl, rfl⟩
      refine ⟨rfl, fun _ _ => rfl, rfl, ?_⟩
      have hbz := hbs b hbo
      replace hgo : (if b + ssv > d.w.hi then (([], (i : Int), 15) : List Vis × Int × Int) else goT m d os (st.take i ++ [⟨sn, true⟩]) (b + ssv) sp (ldO o load true) (out ++ [⟨⟨sn, true⟩, now + way, b, b + ssv, ldO o load true⟩]) (st.drop (i + 1))) = timed m d os st := by rw [hbo] at hgo; exact hgo
      have hws : IntKind.i64.wrap (b + ssv) = b + ssv := wrap64 (by simp only at hbz hfx; omega) (by simp only at hbz hfx; omega)
      refine And.intro (fun h5 => ?_) (fun h5 => ?_)
      · have h5 : IntKind.i64.wrap (b + ssv) > d.w.hi := of_decide_eq_true h5
        rw [hws] at h5
        repeat (first | refine And.intro (fun _ => ?_) (fun h => Bool.noConfusion h) | refine And.intro (fun h => Bool.noConfusion h) (fun _ => ?_))
        rw [if_pos h5] at hgo
        rw [← hgo]
        exact And.intro ⟨0, .inl rfl, rfl⟩ rfl
      have h5 : ¬ IntKind.i64.wrap (b + ssv) > d.w.hi := of_decide_eq_false h5
      rw [hws] at h5
      repeat (first | refine And.intro (fun _ => ?_) (fun h => Bool.noConfusion h) | refine And.intro (fun h => Bool.noConfusion h) (fun _ => ?_))
      rw [if_neg h5] at hgo
      have hszk : ((sz == 0 || sz == LT.size 114) && decide (0 < LT.size 114) && decide (0 < LT.bytes 114) && (LT.zero 114).isSome) = true := by rcases hsz with rfl | rfl <;> rfl
      have hrm : ((out.map rowV).length + 1) * 48 ≤ 140737488355328 := by rw [List.length_map]; omega
      refine And.intro trivial (And.intro hszk (And.intro hrm (And.intro rfl ?_)))
      generalize hys : rowsOf _ _ _ = ys
      have hys : ys = [rowV ⟨⟨sn, true⟩, IntKind.i64.wrap (now + way), b, IntKind.i64.wrap (b + ssv), IntKind.i64.wrap (load - o.size)⟩] := hys.symm.trans rfl
      subst hys
      refine ⟨⟨255, [0, 0, 2, 5, 0, 16, 15, 127], [1, 2, 6, 15, 16, 48, 79, 255]⟩, by kernel_rfl, ?_⟩
      refine And.intro ?_ trivial
      refine And.intro (by repeat (first | exact trivial | refine And.intro ⟨rfl, rfl⟩ ?_)) ?_
      refine And.intro ?_ trivial
      refine And.intro (by repeat (first | exact trivial | refine And.intro ⟨rfl, rfl⟩ ?_)) ?_
      refine ⟨st.length - (i + 1), by omega, i + 1, out ++ [⟨⟨sn, true⟩, IntKind.i64.wrap (now + way), b, IntKind.i64.wrap (b + ssv), IntKind.i64.wrap (load - o.size)⟩], 6, IntKind.i64.wrap (b + ssv), sp, IntKind.i64.wrap (load - o.size), rfl, by omega, .inr rfl, by rw [List.length_append]; simp only [List.length_cons, List.length_nil]; omega, by rw [hws]; simp only at hbz hfx; omega, by rw [hws]; omega, by rw [hwl]; show -1000 * ((i + 1 : Nat) : Int) ≤ load - o.size; omega, by rw [hwl]; omega, by rw [hws, hwl, hwn, hts]; exact hgo, ?_⟩
      unfold sTm
      rw [← hw, List.map_append]
      rfl
  | false =>
    repeat (first | refine And.intro (fun _ => ?_) (fun h => Bool.noConfusion h) | refine And.intro (fun h => Bool.noConfusion h) (fun _ => ?_))
    have hwl : IntKind.i64.wrap (load + o.size) = ldO o load false := wrap64 (by show -9223372036854775808 ≤ load + o.size; omega) (by show load + o.size ≤ 9223372036854775807; omega)
    refine And.intro (fun h4 => ?_) (fun h4 => ?_)
    · have h4 : IntKind.i64.wrap (load + o.size) > d.room := of_decide_eq_true h4
      rw [hwl] at h4
      rw [if_pos h4] at hgo
      rw [← hgo]
      exact And.intro ⟨0, .inl rfl, rfl⟩ rfl
    have h4 : ¬ IntKind.i64.wrap (load + o.size) > d.room := of_decide_eq_false h4
    rw [hwl] at h4
    rw [if_neg h4] at hgo
    refine ⟨rfl, (by first | exact Nat.zero_le _ | exact Nat.le_refl _ | exact Nat.le_succ 1 | decide), (hsi).mono ?_⟩
    rintro d l ⟨rfl, rfl⟩
    refine ⟨rfl, fun _ _ => rfl, rfl, ?_⟩
    refine ⟨rfl, (by first | exact Nat.zero_le _ | exact Nat.le_refl _ | exact Nat.le_succ 1 | decide), (htm).mono ?_⟩
    rintro d l ⟨rfl, rfl⟩
    refine ⟨rfl, fun _ _ => rfl, rfl, ?_⟩
    cases hbo : bo with
    | none =>
      rw [hbo] at hbg hgo
      refine ⟨rfl, (by first | exact Nat.zero_le _ | exact Nat.le_refl _ | exact Nat.le_succ 1 | decide), (hbg).mono ?_⟩
      rintro d l ⟨rfl, rfl⟩
      refine ⟨rfl, fun _ _ => rfl, rfl, ?_⟩
      repeat (first | refine And.intro (fun _ => ?_) (fun h => Bool.noConfusion h) | refine And.intro (fun h => Bool.noConfusion h) (fun _ => ?_))
      rw [← hgo]
      exact And.intro ⟨0, .inl rfl, rfl⟩ rfl
    | some b =>
      rw [hbo] at hbg
      refine ⟨rfl, (by first | exact Nat.zero_le _ | exact Nat.le_refl _ | exact Nat.le_succ 1 | decide), (hbg).mono ?_⟩
      rintro d l ⟨rfl, rfl⟩
      refine ⟨rfl, fun _ _ => rfl, rfl, ?_⟩
      have hbz := hbs b hbo
      replace hgo : (if b + ssv > d.w.hi then (([], (i : Int), 15) : List Vis × Int × Int) else goT m d os (st.take i ++ [⟨sn, false⟩]) (b + ssv) sp (ldO o load false) (out ++ [⟨⟨sn, false⟩, now + way, b, b + ssv, ldO o load false⟩]) (st.drop (i + 1))) = timed m d os st := by rw [hbo] at hgo; exact hgo
      have hws : IntKind.i64.wrap (b + ssv) = b + ssv := wrap64 (by simp only at hbz hfx; omega) (by simp only at hbz hfx; omega)
      refine And.intro (fun h5 => ?_) (fun h5 => ?_)
      · have h5 : IntKind.i64.wrap (b + ssv) > d.w.hi := of_decide_eq_true h5
        rw [hws] at h5
        repeat (first | refine And.intro (fun _ => ?_) (fun h => Bool.noConfusion h) | refine And.intro (fun h => Bool.noConfusion h) (fun _ => ?_))
        rw [if_pos h5] at hgo
        rw [← hgo]
        exact And.intro ⟨0, .inl rfl, rfl⟩ rfl
      have h5 : ¬ IntKind.i64.wrap (b + ssv) > d.w.hi := of_decide_eq_false h5
      rw [hws] at h5
      repeat (first | refine And.intro (fun _ => ?_) (fun h => Bool.noConfusion h) | refine And.intro (fun h => Bool.noConfusion h) (fun _ => ?_))
      rw [if_neg h5] at hgo
      have hszk : ((sz == 0 || sz == LT.size 114) && decide (0 < LT.size 114) && decide (0 < LT.bytes 114) && (LT.zero 114).isSome) = true := by rcases hsz with rfl | rfl <;> rfl
      have hrm : ((out.map rowV).length + 1) * 48 ≤ 140737488355328 := by rw [List.length_map]; omega
      refine And.intro trivial (And.intro hszk (And.intro hrm (And.intro rfl ?_)))
      generalize hys : rowsOf _ _ _ = ys
      have hys : ys = [rowV ⟨⟨sn, false⟩, IntKind.i64.wrap (now + way), b, IntKind.i64.wrap (b + ssv), IntKind.i64.wrap (load + o.size)⟩] := hys.symm.trans rfl
      subst hys
      refine ⟨⟨255, [0, 0, 2, 5, 0, 16, 15, 127], [1, 2, 6, 15, 16, 48, 79, 255]⟩, by kernel_rfl, ?_⟩
      refine And.intro ?_ trivial
      refine And.intro (by repeat (first | exact trivial | refine And.intro ⟨rfl, rfl⟩ ?_)) ?_
      refine And.intro ?_ trivial
      refine And.intro (by repeat (first | exact trivial | refine And.intro ⟨rfl, rfl⟩ ?_)) ?_
      refine ⟨st.length - (i + 1), by omega, i + 1, out ++ [⟨⟨sn, false⟩, IntKind.i64.wrap (now + way), b, IntKind.i64.wrap (b + ssv), IntKind.i64.wrap (load + o.size)⟩], 6, IntKind.i64.wrap (b + ssv), sp, IntKind.i64.wrap (load + o.size), rfl, by omega, .inr rfl, by rw [List.length_append]; simp only [List.length_cons, List.length_nil]; omega, by rw [hws]; simp only at hbz hfx; omega, by rw [hws]; omega, by rw [hwl]; show -1000 * ((i + 1 : Nat) : Int) ≤ load + o.size; omega, by rw [hwl]; omega, by rw [hws, hwl, hwn, hts]; exact hgo, ?_⟩
      unfold sTm
      rw [← hw, List.map_append]
      rfl
theorem c_route_Timed (m : Mp) (hm : okMp m) (d : Drv) (hd : errD m.n d = 0) (os : List Ord) (ho : okOs m.n os) (st : List Stp) (hst : st.length ≤ 80) {r b : Nat} {sto : List Ob} (hr : r ≤ sto.length) (hb : sto[b]? = some (mbox m)) (hbr : b < r) : Tri Try.prog 33 r [.gptr b 0, .agg (rowDr d), encOs os, .list .imm (st.map rowS)] sto (fun x k => isDrv (timed m d os st) x ∧ k = sto) :=
  (c_route_Timed_0 m hm d hd os ho st hst).boxRO (nr_mcs m) rfl (nrBL_O (nrBL_S rfl)) (fun x h => isDrv_ok h) hr hb hbr
end Go.Lv

namespace Go.Lv
open Go.Proofs

theorem c_api_Good_0 (a e : Int) : Tri Try.prog 18 0 [fltD a e] [] (fun d k => d = .bool (decide (e = 0)) ∧ k = []) := by
  refine Tri.walk2 (L := LT) (c := {n := 6, ko := [2]}) [] [0, 1, 2] hLT hmix Try.func18 rfl rfl ⟨rfl, rfl⟩ (by show 1 ≤ 6; decide) (by first | exact Nat.zero_le _ | exact Nat.le_refl _ | exact Nat.le_succ 1 | decide) ?_
  refine And.intro (fun h1 => ?_) (fun h1 => ?_)
  · rw [decide_eq_true (show e = 0 from of_decide_eq_true h1)]
    exact And.intro rfl rfl
  · rw [decide_eq_false (show ¬ e = 0 from of_decide_eq_false h1)]
    exact And.intro rfl rfl
theorem c_api_Good (a e : Int) {r : Nat} {sto : List Ob} (hr : r ≤ sto.length) : Tri Try.prog 18 r [fltD a e] sto (fun d k => d = .bool (decide (e = 0)) ∧ k = sto) :=
  (c_api_Good_0 a e).pure rfl rfl rfl rfl hr
theorem wayG_at {m : Mp} {os : List Ord} {at_ n : Int} {st : List Stp} {i : Nat} (h : i < st.length) : wayG m os at_ n (st.drop i) = wayG m os (sitOf os st[i]).place (n + timeM m at_ (sitOf os st[i]).place) (st.drop (i + 1)) := by
  rw [List.drop_eq_getElem_cons h]
  rfl
theorem findOD_ord (os : List Ord) (s : Stp) : ∃ q, findOD s.ord os = .tup [.agg (rowO (ordOf os s)), .bool q] := by
  unfold findOD ordOf
  cases findO s.ord os with
  | none => exact ⟨false, rfl⟩
  | some o => exact ⟨true, rfl⟩
noncomputable def sWy (m : Mp) (os : List Ord) (st : List Stp) (n at_ : Int) (i : Nat) : DS := ⟨[(0, .gptr 0 0), (2, encOs os), (8, .int .i64 0), (9, .int .i64 n), (10, .int .i64 at_), (20, .list .imm (st.map rowS)), (21, .int .i64 (st.length : Int)), (22, .int .i64 (i : Int))], [], [mbox m], mR 1⟩
set_option maxHeartbeats 4000000 in
theorem c_route_Way_0 (m : Mp) (hm : okMp m) (d : Drv) (os : List Ord) (ho : os.length ≤ 1000000000000000) (st : List Stp) (hst : st.length ≤ 80) : Tri Try.prog 35 1 [.gptr 0 0, .agg (rowDr d), encOs os, .list .imm (st.map rowS)] [mbox m] (fun x k => x = .int .i64 (wayP m d os st) ∧ k = [mbox m]) := by
  refine Tri.walk2 (L := LT) (c := {n := 51, ko := [8]}) [] [0, 1, 2, 3, 5, 8, 9, 10, 12, 13, 15, 16, 20, 21, 22, 23] hLT hmix Try.func35 rfl rfl ⟨rfl, rfl⟩ (by show 4 ≤ 51; decide) (by first | exact Nat.zero_le _ | exact Nat.le_refl _ | exact Nat.le_succ 1 | decide) ?_
  refine ⟨⟨15, [0, 1, 0, 7], [1, 3, 4, 15]⟩, by kernel_rfl, ?_⟩
  refine And.intro ?_ trivial
  refine And.intro (by repeat (first | exact trivial | refine And.intro ⟨rfl, rfl⟩ ?_)) ?_
  refine And.intro ?_ trivial
  refine And.intro (by repeat (first | exact trivial | refine And.intro ⟨rfl, rfl⟩ ?_)) ?_
  show Ok _ _ _ _ _
  refine Ok.loopN hLT hmix [] [0, 1, 2, 3, 5, 8, 9, 10, 12, 13, 15, 16, 20, 21, 22, 23] [0,2,8,9,10,20,21,22] [] (fun k s => ∃ (i : Nat) (n at_ : Int), k = st.length - i ∧ i ≤ st.length ∧ 0 ≤ n ∧ n ≤ 1000000 * (i : Int) ∧ wayG m os at_ n (st.drop i) = wayP m d os st ∧ s = sWy m os st n at_ i) (n := st.length) ⟨0, 0, d.home, rfl, Nat.zero_le _, by omega, by omega, rfl, by unfold sWy; rw [← List.length_map (f := rowS)]; rfl⟩ ?_
  rintro k s ⟨i, n, at_, rfl, hi, hn0, hn1, hgo, rfl⟩
  refine And.intro (fun h1 => ?_) (fun h1 => ?_)
  rotate_left
  · have h1 : ¬ ((i : Nat) : Int) < (st.length : Int) := of_decide_eq_false h1
    rw [List.drop_eq_nil_of_le (by omega)] at hgo
    rw [← hgo]
    exact And.intro rfl rfl
  have h1 : ((i : Nat) : Int) < (st.length : Int) := of_decide_eq_true h1
  have hil : i < st.length := by omega
  have hw := wrap_succ (i := i) (n := st.length) hil (by omega)
  rw [wayG_at hil] at hgo
  refine ⟨(st).map rowS, rowS ((st)[i]'(by omega)), rfl, by omega, row_at' rowS (st) (by omega) (by omega), rfl, of_decide_eq_true rfl, ?_⟩
  generalize st[i] = s at hgo ⊢
  obtain ⟨sn, sb⟩ := s
  have hf := c_route_Find os ho sn (r := 1) (sto := [mbox m]) (Nat.le_refl 1)
  obtain ⟨q, hq⟩ := findOD_ord os ⟨sn, sb⟩
  rw [show findOD sn os = _ from hq] at hf
  unfold sitOf at hgo
  generalize ordOf os ⟨sn, sb⟩ = o at hf hgo
  replace hgo : wayG m os (siteO o sb).place (n + timeM m at_ (siteO o sb).place) (st.drop (i + 1)) = wayP m d os st := hgo
  have hsi := c_route_Site o sb (r := 1) (sto := [mbox m]) (Nat.le_refl 1)
  generalize siteO o sb = si at hsi hgo
  have htm := c_geo_Time m hm at_ si.place (r := 1) (sto := [mbox m]) (Nat.le_refl 1) rfl (Nat.lt_succ_self 0)
  unfold timeD at htm
  have hwy := timeM_le hm at_ si.place
  generalize timeM m at_ si.place = way at htm hgo hwy
  generalize inM m at_ si.place = wayb at htm
  have hwn : IntKind.i64.wrap (n + way) = n + way := wrap64 (by omega) (by omega)
  refine ⟨rfl, (by first | exact Nat.zero_le _ | exact Nat.le_refl _ | exact Nat.le_succ 1 | decide), (hf).mono ?_⟩
  rintro d l ⟨rfl, rfl⟩
  refine ⟨rfl, fun _ _ => rfl, rfl, ?_⟩
  refine ⟨rfl, (by first | exact Nat.zero_le _ | exact Nat.le_refl _ | exact Nat.le_succ 1 | decide), (hsi).mono ?_⟩
  rintro d l ⟨rfl, rfl⟩
  refine ⟨rfl, fun _ _ => rfl, rfl, ?_⟩
  refine ⟨rfl, (by first | exact Nat.zero_le _ | exact Nat.le_refl _ | exact Nat.le_succ 1 | decide), (htm).mono ?_⟩
  rintro d l ⟨rfl, rfl⟩
  refine ⟨rfl, fun _ _ => rfl, rfl, ?_⟩
  refine ⟨st.length - (i + 1), by omega, i + 1, IntKind.i64.wrap (n + way), si.place, rfl, by omega, by rw [hwn]; omega, by rw [hwn]; omega, by rw [hwn]; exact hgo, ?_⟩
  unfold sWy
  rw [← hw]
  rfl
theorem c_route_Way (m : Mp) (hm : okMp m) (d : Drv) (os : List Ord) (ho : os.length ≤ 1000000000000000) (st : List Stp) (hst : st.length ≤ 80) {r b : Nat} {sto : List Ob} (hr : r ≤ sto.length) (hb : sto[b]? = some (mbox m)) (hbr : b < r) : Tri Try.prog 35 r [.gptr b 0, .agg (rowDr d), encOs os, .list .imm (st.map rowS)] sto (fun x k => x = .int .i64 (wayP m d os st) ∧ k = sto) :=
  (c_route_Way_0 m hm d os ho st hst).boxRO (nr_mcs m) rfl (nrBL_O (nrBL_S rfl)) (fun x h => by subst h; exact ⟨rfl, rfl⟩) hr hb hbr
end Go.Lv

namespace Go.Lv
open Go.Proofs

noncomputable def findDr (id : Int) : List Drv → Option Drv
  | [] => none
  | o :: r => if o.id = id then some o else findDr id r
noncomputable def zeroDr : Drv := ⟨0, 0, 0, ⟨0, 0⟩, false⟩
noncomputable def drOf (id : Int) (ds : List Drv) : Drv := (findDr id ds).getD zeroDr
noncomputable def drOfD (id : Int) (ds : List Drv) : D := .tup [.agg (rowDr (drOf id ds)), .bool (findDr id ds).isSome]
theorem findDr_at {id : Int} {ds : List Drv} {i : Nat} (h : i < ds.length) : findDr id (ds.drop i) = if ds[i].id = id then some ds[i] else findDr id (ds.drop (i + 1)) := by
  rw [List.drop_eq_getElem_cons h]
  rfl
theorem findDr_mem {id : Int} : ∀ {os : List Drv} {o : Drv}, findDr id os = some o → o ∈ os ∧ o.id = id
  | [], o, h => by cases h
  | x :: r, o, h => by
    unfold findDr at h
    split at h
    · rename_i e
      cases h
      exact ⟨by simp, e⟩
    · have := findDr_mem h
      exact ⟨by simp [this.1], this.2⟩
theorem findDr_none {id : Int} : ∀ {os : List Drv}, findDr id os = none ↔ ∀ o, o ∈ os → o.id ≠ id
  | [] => by simp [findDr]
  | x :: r => by
    unfold findDr
    split
    · rename_i e
      simp [e]
    · rename_i e
      rw [findDr_none]
      simp [e]

noncomputable def sDf (os : List Drv) (id : Int) (i : Nat) : DS := ⟨[(1, .int .i64 id), (8, encDs os), (9, .int .i64 (os.length : Int)), (10, .int .i64 (i : Int)), (4, .lptr 4 0 0), (5, .bool false)], [(4, rowDr zeroDr)], [], mR 0⟩
set_option maxHeartbeats 4000000 in
theorem c_cert_Driver_0 (os : List Drv) (hl : os.length ≤ 1000000000000000) (id : Int) : Tri Try.prog 32 0 [encDs os, .int .i64 id] [] (fun d k => d = drOfD id os ∧ k = []) := by
  refine Tri.walk2 (L := LT) (c := {n := 21, ko := [5], kb := [4]}) [] [0, 1, 4, 5, 7, 8, 9, 10, 11, 17] hLT hmix Try.func32 rfl rfl ⟨rfl, rfl⟩ (by show 2 ≤ 21; decide) (by first | exact Nat.zero_le _ | exact Nat.le_refl _ | exact Nat.le_succ 1 | decide) ?_
  show Ok _ _ _ _ _
  refine Ok.loopN hLT hmix [] [0, 1, 4, 5, 7, 8, 9, 10, 11, 17] [1,8,9,10,4,5] [4] (fun n s => ∃ i : Nat, n = os.length - i ∧ i ≤ os.length ∧ findDr id (os.drop i) = findDr id os ∧ s = sDf os id i) (n := os.length) ⟨0, rfl, Nat.zero_le _, rfl, by unfold sDf; rw [← List.length_map (f := rowDr)]; rfl⟩ ?_
  rintro n s ⟨i, rfl, hi, hix, rfl⟩
  unfold drOfD drOf
  refine And.intro (fun h1 => ?_) (fun h1 => ?_)
  · have h1 : ((i : Nat) : Int) < (os.length : Int) := of_decide_eq_true h1
    have hw := wrap_succ (i := i) (n := os.length) (by omega) hl
    rw [findDr_at (by omega)] at hix
    refine ⟨(os).map rowDr, rowDr ((os)[i]'(by omega)), rfl, by omega, row_at' rowDr (os) (by omega) (by omega), rfl, of_decide_eq_true rfl, ?_⟩
    refine And.intro (fun h2 => ?_) (fun h2 => ?_)
    · have h2 : os[i].id = id := of_decide_eq_true h2
      rw [if_pos h2] at hix
      rw [← hix]
      exact And.intro rfl rfl
    · have h2 : ¬ os[i].id = id := of_decide_eq_false h2
      rw [if_neg h2] at hix
      refine ⟨os.length - (i + 1), by omega, i + 1, rfl, by omega, hix, ?_⟩
      unfold sDf
      rw [← hw]
      rfl
  · have h1 : ¬ ((i : Nat) : Int) < (os.length : Int) := of_decide_eq_false h1
    rw [List.drop_eq_nil_of_le (by omega)] at hix
    rw [← hix]
    exact And.intro rfl rfl
theorem c_cert_Driver (os : List Drv) (hl : os.length ≤ 1000000000000000) {xs : List (List D)} (hx : xs = os.map rowDr) (id : Int) {r : Nat} {sto : List Ob} (hr : r ≤ sto.length) : Tri Try.prog 32 r [.list .imm xs, .int .i64 id] sto (fun d k => d = drOfD id os ∧ k = sto) := by
  subst hx
  exact (c_cert_Driver_0 os hl id).pure rfl (nrBL_Dr rfl) rfl rfl hr

noncomputable def togO (m : Mp) (ds : List Drv) (os : List Ord) (p : Pln) : Prop := ds.length ≤ 8 ∧ okOs m.n os ∧ rightP p = true ∧ (∀ d, d ∈ ds → errD m.n d = 0) ∧ ds.Pairwise (fun a b => a.id ≠ b.id)
noncomputable instance (m : Mp) (ds : List Drv) (os : List Ord) (p : Pln) : Decidable (togO m ds os p) := by unfold togO; infer_instance
theorem pwD_snoc {os : List Drv} {i : Nat} (hi : i < os.length) (h : (os.take i).Pairwise (fun a b => a.id ≠ b.id)) (hn : ∀ x, x ∈ os.take i → x.id ≠ os[i].id) : (os.take (i + 1)).Pairwise (fun a b => a.id ≠ b.id) := by
  rw [List.take_succ_eq_append_getElem hi, List.pairwise_append]
  exact ⟨h, by simp, fun a ha b hb => by rw [List.mem_singleton.1 hb]; exact hn a ha⟩
theorem pwD_no {os : List Drv} {i j : Nat} (hi : i < os.length) (hj : j < i) (e : (os[j]'(by omega)).id = os[i].id) : ¬ os.Pairwise (fun a b => a.id ≠ b.id) := fun h => (List.pairwise_iff_getElem.1 h j i (by omega) hi hj) e
theorem pwD_no' {os : List Drv} {i : Nat} (hi : i < os.length) (h : ∃ x, x ∈ os.take i ∧ x.id = os[i].id) : ¬ os.Pairwise (fun a b => a.id ≠ b.id) := by
  obtain ⟨x, hx, e⟩ := h
  obtain ⟨j, hj, rfl⟩ := List.mem_iff_getElem.1 hx
  rw [List.getElem_take] at e
  rw [List.length_take] at hj
  exact pwD_no hi (by omega) e
theorem take_rowsDr (os : List Drv) (i : Nat) {n : Int} (h : n = (i : Int)) : ((os.map rowDr).drop 0).take (n.toNat - 0) = (os.take i).map rowDr := by
  subst h
  simp [List.map_take]
theorem drOf_isSome {id : Int} {os : List Drv} : (findDr id os).isSome = true ↔ ∃ x, x ∈ os ∧ x.id = id := by
  cases hf : findDr id os with
  | none =>
    have := findDr_none.1 hf
    simp only [Option.isSome_none, Bool.false_eq_true, false_iff]
    rintro ⟨x, hx, e⟩
    exact this x hx e
  | some o =>
    simp only [Option.isSome_some, true_iff]
    exact ⟨o, findDr_mem hf⟩
noncomputable def sTg (m : Mp) (ds : List Drv) (i : Nat) : DS := ⟨[(0, .gptr 0 0), (1, encDs ds), (31, encDs ds), (32, .int .i64 (ds.length : Int)), (33, .int .i64 (i : Int)), (8, .bool false)], [], [mbox m], mR 1⟩
set_option maxHeartbeats 8000000 in
theorem c_cert_Together_0 (m : Mp) (hm : okMp m) (ds : List Drv) (os : List Ord) (p : Pln) : Tri Try.prog 31 1 [.gptr 0 0, encDs ds, encOs os, encP p] [mbox m] (fun x k => x = .bool (decide (togO m ds os p)) ∧ k = [mbox m]) := by
  refine Tri.walk2 (L := LT) (c := {n := 55, ko := [8]}) [] [0, 1, 2, 3, 8, 9, 10, 12, 30, 31, 32, 33, 34, 53] hLT hmix Try.func31 rfl rfl ⟨rfl, rfl⟩ (by show 4 ≤ 55; decide) (by first | exact Nat.zero_le _ | exact Nat.le_refl _ | exact Nat.le_succ 1 | decide) ?_
  repeat (first | refine And.intro (fun _ => ?_) (fun h => Bool.noConfusion h) | refine And.intro (fun h => Bool.noConfusion h) (fun _ => ?_))
  refine And.intro (fun h0 => ?_) (fun h0 => ?_)
  · have h0 : ((ds.map rowDr).length : Int) > 8 := of_decide_eq_true h0
    repeat (first | refine And.intro (fun _ => ?_) (fun h => Bool.noConfusion h) | refine And.intro (fun h => Bool.noConfusion h) (fun _ => ?_))
    rw [List.length_map] at h0
    rw [decide_eq_false (show ¬ togO m ds os p from fun h => by have := h.1; omega)]
    exact And.intro rfl rfl
  have h0 : ¬ ((ds.map rowDr).length : Int) > 8 := of_decide_eq_false h0
  rw [List.length_map] at h0
  repeat (first | refine And.intro (fun _ => ?_) (fun h => Bool.noConfusion h) | refine And.intro (fun h => Bool.noConfusion h) (fun _ => ?_))
  refine ⟨rfl, (by first | exact Nat.zero_le _ | exact Nat.le_refl _ | exact Nat.le_succ 1 | decide), (c_deal_Known m hm os (r := 1) (sto := [mbox m]) (Nat.le_refl 1) rfl (Nat.lt_succ_self 0)).mono ?_⟩
  rintro d l ⟨rfl, rfl⟩
  refine ⟨rfl, fun _ _ => rfl, rfl, ?_⟩
  cases h1 : decide (okOs m.n os) with
  | false =>
    repeat (first | refine And.intro (fun _ => ?_) (fun h => Bool.noConfusion h) | refine And.intro (fun h => Bool.noConfusion h) (fun _ => ?_))
    rw [decide_eq_false (show ¬ togO m ds os p from fun h => of_decide_eq_false h1 h.2.1)]
    exact And.intro rfl rfl
  | true =>
  have h1 := of_decide_eq_true h1
  repeat (first | refine And.intro (fun _ => ?_) (fun h => Bool.noConfusion h) | refine And.intro (fun h => Bool.noConfusion h) (fun _ => ?_))
  refine ⟨rfl, (by first | exact Nat.zero_le _ | exact Nat.le_refl _ | exact Nat.le_succ 1 | decide), (c_plan_Right p (r := 1) (sto := [mbox m]) (Nat.le_refl 1)).mono ?_⟩
  rintro d l ⟨rfl, rfl⟩
  refine ⟨rfl, fun _ _ => rfl, rfl, ?_⟩
  cases h2 : rightP p with
  | false =>
    repeat (first | refine And.intro (fun _ => ?_) (fun h => Bool.noConfusion h) | refine And.intro (fun h => Bool.noConfusion h) (fun _ => ?_))
    rw [decide_eq_false (show ¬ togO m ds os p from fun h => by rw [h.2.2.1] at h2; cases h2)]
    exact And.intro rfl rfl
  | true =>
  repeat (first | refine And.intro (fun _ => ?_) (fun h => Bool.noConfusion h) | refine And.intro (fun h => Bool.noConfusion h) (fun _ => ?_))
  show Ok _ _ _ _ _
  refine Ok.loopN hLT hmix [] [0, 1, 2, 3, 8, 9, 10, 12, 30, 31, 32, 33, 34, 53] [0,1,31,32,33,8] [] (fun n s => ∃ i : Nat, n = ds.length - i ∧ i ≤ ds.length ∧ (∀ o, o ∈ ds.take i → errD m.n o = 0) ∧ (ds.take i).Pairwise (fun a b => a.id ≠ b.id) ∧ s = sTg m ds i) (n := ds.length) ⟨0, rfl, Nat.zero_le _, by simp, by simp, by unfold sTg; rw [← List.length_map (f := rowDr)]; rfl⟩ ?_
  rintro n s ⟨i, rfl, hi, hall, hpw, rfl⟩
  refine And.intro (fun h3 => ?_) (fun h3 => ?_)
  rotate_left
  · have h3 : ¬ ((i : Nat) : Int) < (ds.length : Int) := of_decide_eq_false h3
    rw [List.take_of_length_le (by omega)] at hall hpw
    rw [decide_eq_true (show togO m ds os p from ⟨by omega, h1, h2, hall, hpw⟩)]
    exact And.intro rfl rfl
  have h3 : ((i : Nat) : Int) < (ds.length : Int) := of_decide_eq_true h3
  have hil : i < ds.length := by omega
  have hw := wrap_succ (i := i) (n := ds.length) hil (by omega)
  have hal : allLen 6 (ds.map rowDr) = true := by simp [allLen, rowDr]
  have hcl := c_cert_Driver (ds.take i) (by rw [List.length_take]; omega) (take_rowsDr ds i rfl) ds[i].id (r := 1) (sto := [mbox m]) (Nat.le_refl 1)
  unfold drOfD at hcl
  have hso := drOf_isSome (id := ds[i].id) (os := ds.take i)
  have hno := fun h => pwD_no' hil h
  have hsn := fun h => pwD_snoc hil hpw h
  have hle := fun h => (h : togO m ds os p).2.2.2.1 ds[i] (List.getElem_mem _)
  have htk := List.take_succ_eq_append_getElem hil
  generalize drOf ds[i].id (ds.take i) = dz at hcl
  generalize (findDr ds[i].id (ds.take i)).isSome = q at hcl hso
  refine ⟨(ds).map rowDr, rowDr ((ds)[i]'(by omega)), rfl, by omega, row_at' rowDr (ds) (by omega) (by omega), rfl, of_decide_eq_true rfl, ?_⟩
  generalize ds[i] = d at hcl hso hno hsn hle htk ⊢
  cases q with
  | true =>
    refine ⟨⟨3071, [0, 0, 3, 0, 8, 20, 32, 64, 64, 0, 767, 2047], [1, 2, 7, 8, 24, 63, 127, 255, 383, 512, 1791, 4095]⟩, by kernel_rfl, ?_⟩
    refine And.intro ⟨by omega, by (try rw [List.length_map]); omega⟩ (And.intro (Nat.zero_le _) (And.intro (of_decide_eq_true rfl) (And.intro (by assumption) (And.intro rfl ?_))))
    refine (fun (hrest : _) => And.intro (by
        refine ⟨rfl, (by first | exact Nat.zero_le _ | exact Nat.le_refl _ | exact Nat.le_succ 1 | decide), (hcl).mono ?_⟩
        rintro d l ⟨rfl, rfl⟩
        refine ⟨rfl, fun _ _ => rfl, rfl, ?_⟩
        refine And.intro (by repeat (first | exact trivial | refine And.intro ⟨rfl, rfl⟩ ?_ | refine And.intro (And.intro ⟨by omega, by (try rw [List.length_map]); omega⟩ (And.intro (Nat.zero_le _) (And.intro (of_decide_eq_true rfl) (And.intro (by assumption) (And.intro rfl (And.intro rfl rfl)))))) ?_ | refine And.intro ⟨_, _, rfl, by omega, row_at' _ _ rfl (by omega), rfl, of_decide_eq_true rfl, And.intro rfl (And.intro rfl rfl)⟩ ?_)) ?_
        refine And.intro (fun _ => ?_) (fun h => Bool.noConfusion h)
        refine And.intro ?_ trivial
        refine And.intro (by repeat (first | exact trivial | refine And.intro ⟨rfl, rfl⟩ ?_ | refine And.intro (And.intro ⟨by omega, by (try rw [List.length_map]); omega⟩ (And.intro (Nat.zero_le _) (And.intro (of_decide_eq_true rfl) (And.intro (by assumption) (And.intro rfl (And.intro rfl rfl)))))) ?_ | refine And.intro ⟨_, _, rfl, by omega, row_at' _ _ rfl (by omega), rfl, of_decide_eq_true rfl, And.intro rfl (And.intro rfl rfl)⟩ ?_)) ?_
        refine And.intro ?_ trivial
        refine And.intro (by repeat (first | exact trivial | refine And.intro ⟨rfl, rfl⟩ ?_ | refine And.intro (And.intro ⟨by omega, by (try rw [List.length_map]); omega⟩ (And.intro (Nat.zero_le _) (And.intro (of_decide_eq_true rfl) (And.intro (by assumption) (And.intro rfl (And.intro rfl rfl)))))) ?_ | refine And.intro ⟨_, _, rfl, by omega, row_at' _ _ rfl (by omega), rfl, of_decide_eq_true rfl, And.intro rfl (And.intro rfl rfl)⟩ ?_)) ?_
        refine And.intro ?_ trivial
        refine And.intro (by repeat (first | exact trivial | refine And.intro ⟨rfl, rfl⟩ ?_ | refine And.intro (And.intro ⟨by omega, by (try rw [List.length_map]); omega⟩ (And.intro (Nat.zero_le _) (And.intro (of_decide_eq_true rfl) (And.intro (by assumption) (And.intro rfl (And.intro rfl rfl)))))) ?_ | refine And.intro ⟨_, _, rfl, by omega, row_at' _ _ rfl (by omega), rfl, of_decide_eq_true rfl, And.intro rfl (And.intro rfl rfl)⟩ ?_)) ?_
        exact hrest) (And.intro (by
        refine And.intro (by repeat (first | exact trivial | refine And.intro ⟨rfl, rfl⟩ ?_ | refine And.intro (And.intro ⟨by omega, by (try rw [List.length_map]); omega⟩ (And.intro (Nat.zero_le _) (And.intro (of_decide_eq_true rfl) (And.intro (by assumption) (And.intro rfl (And.intro rfl rfl)))))) ?_ | refine And.intro ⟨_, _, rfl, by omega, row_at' _ _ rfl (by omega), rfl, of_decide_eq_true rfl, And.intro rfl (And.intro rfl rfl)⟩ ?_)) ?_
        refine And.intro ?_ trivial
        refine ⟨rfl, (by first | exact Nat.zero_le _ | exact Nat.le_refl _ | exact Nat.le_succ 1 | decide), (hcl).mono ?_⟩
        rintro d l ⟨rfl, rfl⟩
        refine ⟨rfl, fun _ _ => rfl, rfl, ?_⟩
        refine And.intro (by repeat (first | exact trivial | refine And.intro ⟨rfl, rfl⟩ ?_ | refine And.intro (And.intro ⟨by omega, by (try rw [List.length_map]); omega⟩ (And.intro (Nat.zero_le _) (And.intro (of_decide_eq_true rfl) (And.intro (by assumption) (And.intro rfl (And.intro rfl rfl)))))) ?_ | refine And.intro ⟨_, _, rfl, by omega, row_at' _ _ rfl (by omega), rfl, of_decide_eq_true rfl, And.intro rfl (And.intro rfl rfl)⟩ ?_)) ?_
        refine And.intro (fun _ => ?_) (fun h => Bool.noConfusion h)
        refine And.intro ?_ trivial
        refine And.intro (by repeat (first | exact trivial | refine And.intro ⟨rfl, rfl⟩ ?_ | refine And.intro (And.intro ⟨by omega, by (try rw [List.length_map]); omega⟩ (And.intro (Nat.zero_le _) (And.intro (of_decide_eq_true rfl) (And.intro (by assumption) (And.intro rfl (And.intro rfl rfl)))))) ?_ | refine And.intro ⟨_, _, rfl, by omega, row_at' _ _ rfl (by omega), rfl, of_decide_eq_true rfl, And.intro rfl (And.intro rfl rfl)⟩ ?_)) ?_
        refine And.intro ?_ trivial
        refine And.intro (by repeat (first | exact trivial | refine And.intro ⟨rfl, rfl⟩ ?_ | refine And.intro (And.intro ⟨by omega, by (try rw [List.length_map]); omega⟩ (And.intro (Nat.zero_le _) (And.intro (of_decide_eq_true rfl) (And.intro (by assumption) (And.intro rfl (And.intro rfl rfl)))))) ?_ | refine And.intro ⟨_, _, rfl, by omega, row_at' _ _ rfl (by omega), rfl, of_decide_eq_true rfl, And.intro rfl (And.intro rfl rfl)⟩ ?_)) ?_
        exact hrest) trivial)) ?_
    repeat (first | refine And.intro (fun _ => ?_) (fun h => Bool.noConfusion h) | refine And.intro (fun h => Bool.noConfusion h) (fun _ => ?_))
    rw [decide_eq_false (show ¬ togO m ds os p from fun h => hno (hso.1 rfl) h.2.2.2.2)]
    exact And.intro rfl rfl
  | false =>
  refine ⟨⟨3071, [0, 0, 3, 0, 8, 20, 32, 64, 64, 0, 767, 2047], [1, 2, 7, 8, 24, 63, 127, 255, 383, 512, 1791, 4095]⟩, by kernel_rfl, ?_⟩
  refine And.intro ⟨by omega, by (try rw [List.length_map]); omega⟩ (And.intro (Nat.zero_le _) (And.intro (of_decide_eq_true rfl) (And.intro (by assumption) (And.intro rfl ?_))))
  refine (fun (hrest : _) => And.intro (by
      refine ⟨rfl, (by first | exact Nat.zero_le _ | exact Nat.le_refl _ | exact Nat.le_succ 1 | decide), (hcl).mono ?_⟩
      rintro d l ⟨rfl, rfl⟩
      refine ⟨rfl, fun _ _ => rfl, rfl, ?_⟩
      refine And.intro (by repeat (first | exact trivial | refine And.intro ⟨rfl, rfl⟩ ?_ | refine And.intro (And.intro ⟨by omega, by (try rw [List.length_map]); omega⟩ (And.intro (Nat.zero_le _) (And.intro (of_decide_eq_true rfl) (And.intro (by assumption) (And.intro rfl (And.intro rfl rfl)))))) ?_ | refine And.intro ⟨_, _, rfl, by omega, row_at' _ _ rfl (by omega), rfl, of_decide_eq_true rfl, And.intro rfl (And.intro rfl rfl)⟩ ?_)) ?_
      refine And.intro (fun h => Bool.noConfusion h) (fun _ => ?_)
      refine And.intro ?_ trivial
      refine And.intro (by repeat (first | exact trivial | refine And.intro ⟨rfl, rfl⟩ ?_ | refine And.intro (And.intro ⟨by omega, by (try rw [List.length_map]); omega⟩ (And.intro (Nat.zero_le _) (And.intro (of_decide_eq_true rfl) (And.intro (by assumption) (And.intro rfl (And.intro rfl rfl)))))) ?_ | refine And.intro ⟨_, _, rfl, by omega, row_at' _ _ rfl (by omega), rfl, of_decide_eq_true rfl, And.intro rfl (And.intro rfl rfl)⟩ ?_)) ?_
      refine And.intro ?_ trivial
      refine And.intro (by repeat (first | exact trivial | refine And.intro ⟨rfl, rfl⟩ ?_ | refine And.intro (And.intro ⟨by omega, by (try rw [List.length_map]); omega⟩ (And.intro (Nat.zero_le _) (And.intro (of_decide_eq_true rfl) (And.intro (by assumption) (And.intro rfl (And.intro rfl rfl)))))) ?_ | refine And.intro ⟨_, _, rfl, by omega, row_at' _ _ rfl (by omega), rfl, of_decide_eq_true rfl, And.intro rfl (And.intro rfl rfl)⟩ ?_)) ?_
      refine And.intro ?_ trivial
      refine And.intro (by repeat (first | exact trivial | refine And.intro ⟨rfl, rfl⟩ ?_ | refine And.intro (And.intro ⟨by omega, by (try rw [List.length_map]); omega⟩ (And.intro (Nat.zero_le _) (And.intro (of_decide_eq_true rfl) (And.intro (by assumption) (And.intro rfl (And.intro rfl rfl)))))) ?_ | refine And.intro ⟨_, _, rfl, by omega, row_at' _ _ rfl (by omega), rfl, of_decide_eq_true rfl, And.intro rfl (And.intro rfl rfl)⟩ ?_)) ?_
      exact hrest) (And.intro (by
      refine And.intro (by repeat (first | exact trivial | refine And.intro ⟨rfl, rfl⟩ ?_ | refine And.intro (And.intro ⟨by omega, by (try rw [List.length_map]); omega⟩ (And.intro (Nat.zero_le _) (And.intro (of_decide_eq_true rfl) (And.intro (by assumption) (And.intro rfl (And.intro rfl rfl)))))) ?_ | refine And.intro ⟨_, _, rfl, by omega, row_at' _ _ rfl (by omega), rfl, of_decide_eq_true rfl, And.intro rfl (And.intro rfl rfl)⟩ ?_)) ?_
      refine And.intro ?_ trivial
      refine ⟨rfl, (by first | exact Nat.zero_le _ | exact Nat.le_refl _ | exact Nat.le_succ 1 | decide), (hcl).mono ?_⟩
      rintro d l ⟨rfl, rfl⟩
      refine ⟨rfl, fun _ _ => rfl, rfl, ?_⟩
      refine And.intro (by repeat (first | exact trivial | refine And.intro ⟨rfl, rfl⟩ ?_ | refine And.intro (And.intro ⟨by omega, by (try rw [List.length_map]); omega⟩ (And.intro (Nat.zero_le _) (And.intro (of_decide_eq_true rfl) (And.intro (by assumption) (And.intro rfl (And.intro rfl rfl)))))) ?_ | refine And.intro ⟨_, _, rfl, by omega, row_at' _ _ rfl (by omega), rfl, of_decide_eq_true rfl, And.intro rfl (And.intro rfl rfl)⟩ ?_)) ?_
      refine And.intro (fun h => Bool.noConfusion h) (fun _ => ?_)
      refine And.intro ?_ trivial
      refine And.intro (by repeat (first | exact trivial | refine And.intro ⟨rfl, rfl⟩ ?_ | refine And.intro (And.intro ⟨by omega, by (try rw [List.length_map]); omega⟩ (And.intro (Nat.zero_le _) (And.intro (of_decide_eq_true rfl) (And.intro (by assumption) (And.intro rfl (And.intro rfl rfl)))))) ?_ | refine And.intro ⟨_, _, rfl, by omega, row_at' _ _ rfl (by omega), rfl, of_decide_eq_true rfl, And.intro rfl (And.intro rfl rfl)⟩ ?_)) ?_
      refine And.intro ?_ trivial
      refine And.intro (by repeat (first | exact trivial | refine And.intro ⟨rfl, rfl⟩ ?_ | refine And.intro (And.intro ⟨by omega, by (try rw [List.length_map]); omega⟩ (And.intro (Nat.zero_le _) (And.intro (of_decide_eq_true rfl) (And.intro (by assumption) (And.intro rfl (And.intro rfl rfl)))))) ?_ | refine And.intro ⟨_, _, rfl, by omega, row_at' _ _ rfl (by omega), rfl, of_decide_eq_true rfl, And.intro rfl (And.intro rfl rfl)⟩ ?_)) ?_
      exact hrest) trivial)) ?_
  repeat (first | refine And.intro (fun _ => ?_) (fun h => Bool.noConfusion h) | refine And.intro (fun h => Bool.noConfusion h) (fun _ => ?_))
  refine ⟨rfl, (by first | exact Nat.zero_le _ | exact Nat.le_refl _ | exact Nat.le_succ 1 | decide), (c_deal_Driver m hm d (r := 1) (sto := [mbox m]) (Nat.le_refl 1) rfl (Nat.lt_succ_self 0)).mono ?_⟩
  rintro d l ⟨rfl, rfl⟩
  refine ⟨rfl, fun _ _ => rfl, rfl, ?_⟩
  refine And.intro (fun h4 => ?_) (fun h4 => ?_)
  · have h4 := nd_true h4
    repeat (first | refine And.intro (fun _ => ?_) (fun h => Bool.noConfusion h) | refine And.intro (fun h => Bool.noConfusion h) (fun _ => ?_))
    rw [decide_eq_false (show ¬ togO m ds os p from fun h => h4 (hle h))]
    exact And.intro rfl rfl
  have h4 := nd_false h4
  repeat (first | refine And.intro (fun _ => ?_) (fun h => Bool.noConfusion h) | refine And.intro (fun h => Bool.noConfusion h) (fun _ => ?_))
  refine ⟨ds.length - (i + 1), by omega, i + 1, rfl, by omega, fun x hx => ?_, hsn (fun x hx e => by have := hso.2 ⟨x, hx, e⟩; cases this), ?_⟩
  · rw [htk] at hx
    rcases List.mem_append.1 hx with hx | hx
    · exact hall x hx
    · rw [List.mem_singleton.1 hx]
      exact h4
  · unfold sTg
    rw [← hw]
    rfl
theorem c_cert_Together (m : Mp) (hm : okMp m) (ds : List Drv) (os : List Ord) (p : Pln) {r b : Nat} {sto : List Ob} (hr : r ≤ sto.length) (hb : sto[b]? = some (mbox m)) (hbr : b < r) : Tri Try.prog 31 r [.gptr b 0, encDs ds, encOs os, encP p] sto (fun x k => x = .bool (decide (togO m ds os p)) ∧ k = sto) :=
  (c_cert_Together_0 m hm ds os p).boxRO (nr_mcs m) rfl (nrBL_Dr (nrBL_O (nrBL_P rfl))) (fun d h => by subst h; exact ⟨rfl, rfl⟩) hr hb hbr

end Go.Lv

namespace Go.Lv
open Go.Proofs

noncomputable def rowCt (l : List Vis) : List D := [.list .imm (l.map rowV)]
noncomputable def goMk (m : Mp) (ds : List Drv) (os : List Ord) : Nat → List (List Vis) → Pln → List (List Vis) × Int × Int
  | _, c, [] => (c, 0, 0)
  | i, c, r :: p => match findDr r.drv ds with
    | none => ([], (i : Int), 8)
    | some d => if (timed m d os r.st).2.2 ≠ 0 then ([], (i : Int), (timed m d os r.st).2.2) else goMk m ds os (i + 1) (c ++ [(timed m d os r.st).1]) p
noncomputable def makeR (m : Mp) (ds : List Drv) (os : List Ord) (p : Pln) : List (List Vis) × Int × Int := if togO m ds os p then goMk m ds os 0 [] p else ([], 0, 1)
noncomputable def isMk (x : List (List Vis) × Int × Int) (d : D) : Prop := ∃ sz, (sz = 0 ∨ sz = 1) ∧ d = .tup [.list (.own sz) (x.1.map rowCt), fltD x.2.1 x.2.2]
theorem nrBLL_C : ∀ l : List (List Vis), nrBLL 0 (l.map rowCt) = true
  | [] => rfl
  | b :: r => by
    show ((nrBLL 0 (b.map rowV) && true) && nrBLL 0 (r.map rowCt)) = true
    rw [nrBLL_C r, nrBLL_V]
    rfl
theorem isMk_ok {x : List (List Vis) × Int × Int} {d : D} (h : isMk x d) : partsOK d = true ∧ nrB 0 d = true := by
  obtain ⟨sz, _, rfl⟩ := h
  refine ⟨rfl, ?_⟩
  show (nrBLL 0 (x.1.map rowCt) && (nrBL 0 [D.int .i64 x.2.1, D.int .i64 x.2.2] && true)) = true
  rw [nrBLL_C]
  rfl
theorem goMk_at {m : Mp} {ds : List Drv} {os : List Ord} {c : List (List Vis)} {p : Pln} {i : Nat} (h : i < p.length) : goMk m ds os i c (p.drop i) = match findDr p[i].drv ds with
    | none => ([], (i : Int), 8)
    | some d => if (timed m d os p[i].st).2.2 ≠ 0 then ([], (i : Int), (timed m d os p[i].st).2.2) else goMk m ds os (i + 1) (c ++ [(timed m d os p[i].st).1]) (p.drop (i + 1)) := by
  rw [List.drop_eq_getElem_cons h]
  rfl
theorem rightG_st : ∀ {p : Pln} {last : Int} {seen : List Stp}, rightG last seen p = true → ∀ r, r ∈ p → r.st.length ≤ 80 ∧ 0 ≤ r.srv ∧ r.srv ≤ r.st.length
  | [], _, _, _, r, hr => by cases hr
  | x :: p, last, seen, h, r, hr => by
    unfold rightG at h
    rw [Bool.and_eq_true, Bool.and_eq_true, decide_eq_true_eq] at h
    rcases List.mem_cons.1 hr with e | hr
    · subst e
      exact ⟨h.1.2.2.1, h.1.2.2.2.1, h.1.2.2.2.2⟩
    · exact rightG_st h.2.2 r hr
theorem rightP_st {p : Pln} (h : rightP p = true) : p.length ≤ 8 ∧ ∀ r, r ∈ p → r.st.length ≤ 80 ∧ 0 ≤ r.srv ∧ r.srv ≤ r.st.length := by
  unfold rightP at h
  rw [Bool.and_eq_true, decide_eq_true_eq] at h
  exact ⟨h.1, rightG_st h.2⟩
theorem drOf_some {id : Int} {ds : List Drv} {d : Drv} (h : findDr id ds = some d) : drOf id ds = d ∧ (findDr id ds).isSome = true := by
  unfold drOf
  rw [h]
  exact ⟨rfl, rfl⟩
theorem drOf_none {id : Int} {ds : List Drv} (h : findDr id ds = none) : drOf id ds = zeroDr ∧ (findDr id ds).isSome = false := by
  unfold drOf
  rw [h]
  exact ⟨rfl, rfl⟩
noncomputable def sMk (m : Mp) (ds : List Drv) (os : List Ord) (p : Pln) (c : List (List Vis)) (sz : Nat) (i : Nat) : DS := ⟨[(0, .gptr 0 0), (1, encDs ds), (2, encOs os), (8, .list (.own 0) []), (9, .lptr 9 0 0), (10, .list (.own sz) (c.map rowCt)), (24, encP p), (25, .int .i64 (p.length : Int)), (26, .int .i64 (i : Int))], [(9, [.int .i64 0, .int .i64 0])], [mbox m], mR 1⟩
set_option maxHeartbeats 8000000 in
theorem c_cert_Make_0 (m : Mp) (hm : okMp m) (ds : List Drv) (os : List Ord) (p : Pln) : Tri Try.prog 17 1 [.gptr 0 0, encDs ds, encOs os, encP p] [mbox m] (fun x k => isMk (makeR m ds os p) x ∧ k = [mbox m]) := by
  refine Tri.walk2 (L := LT) (c := {n := 65, ko := [8, 10], kb := [9], xf := [42, 58, 63]}) [] [0, 1, 2, 3, 8, 9, 10, 11, 12, 13, 14, 15, 16, 22, 24, 25, 26, 27, 39, 53] hLT hmix Try.func17 rfl rfl ⟨rfl, rfl⟩ (by show 4 ≤ 65; decide) (by first | exact Nat.zero_le _ | exact Nat.le_refl _ | exact Nat.le_succ 1 | decide) ?_
  refine ⟨rfl, (by first | exact Nat.zero_le _ | exact Nat.le_refl _ | exact Nat.le_succ 1 | decide), (c_cert_Together m hm ds os p (r := 1) (sto := [mbox m]) (Nat.le_refl 1) rfl (Nat.lt_succ_self 0)).mono ?_⟩
  rintro d l ⟨rfl, rfl⟩
  refine ⟨rfl, fun _ _ => rfl, rfl, ?_⟩
  unfold makeR
  cases h1 : decide (togO m ds os p) with
  | false =>
    repeat (first | refine And.intro (fun _ => ?_) (fun h => Bool.noConfusion h) | refine And.intro (fun h => Bool.noConfusion h) (fun _ => ?_))
    rw [if_neg (of_decide_eq_false h1)]
    exact And.intro ⟨0, .inl rfl, rfl⟩ rfl
  | true =>
  repeat (first | refine And.intro (fun _ => ?_) (fun h => Bool.noConfusion h) | refine And.intro (fun h => Bool.noConfusion h) (fun _ => ?_))
  have h1 := of_decide_eq_true h1
  rw [if_pos h1]
  have hpl := rightP_st h1.2.2.1
  have hdl := h1.1
  show Ok _ _ _ _ _
  refine Ok.loopN hLT hmix [] [0, 1, 2, 3, 8, 9, 10, 11, 12, 13, 14, 15, 16, 22, 24, 25, 26, 27, 39, 53] [0,1,2,8,9,10,24,25,26] [9] (fun n s => ∃ (i : Nat) (c : List (List Vis)) (sz : Nat), n = p.length - i ∧ i ≤ p.length ∧ (sz = 0 ∨ sz = 1) ∧ c.length = i ∧ goMk m ds os i c (p.drop i) = goMk m ds os 0 [] p ∧ s = sMk m ds os p c sz i) (n := p.length) ⟨0, [], 0, rfl, Nat.zero_le _, .inl rfl, rfl, rfl, by unfold sMk; rw [← List.length_map (f := rowR)]; rfl⟩ ?_
  rintro n s ⟨i, c, sz, rfl, hi, hsz, hc, hgo, rfl⟩
  refine And.intro (fun h3 => ?_) (fun h3 => ?_)
  rotate_left
  · have h3 : ¬ ((i : Nat) : Int) < (p.length : Int) := of_decide_eq_false h3
    rw [List.drop_eq_nil_of_le (by omega)] at hgo
    rw [← hgo]
    exact And.intro ⟨sz, hsz, rfl⟩ rfl
  have h3 : ((i : Nat) : Int) < (p.length : Int) := of_decide_eq_true h3
  have hil : i < p.length := by omega
  have hw := wrap_succ (i := i) (n := p.length) hil (by omega)
  have hrs := hpl.2 p[i] (List.getElem_mem _)
  rw [goMk_at hil] at hgo
  refine ⟨(p).map rowR, rowR ((p)[i]'(by omega)), rfl, by omega, row_at' rowR (p) (by omega) (by omega), rfl, of_decide_eq_true rfl, ?_⟩
  generalize p[i] = r at hgo hrs ⊢
  have hcl := c_cert_Driver ds (by omega) rfl r.drv (r := 1) (sto := [mbox m]) (Nat.le_refl 1)
  unfold drOfD at hcl
  cases hfd : findDr r.drv ds with
  | none =>
    rw [hfd] at hgo
    rw [(drOf_none hfd).1, (drOf_none hfd).2] at hcl
    refine ⟨rfl, (by first | exact Nat.zero_le _ | exact Nat.le_refl _ | exact Nat.le_succ 1 | decide), (hcl).mono ?_⟩
    rintro d l ⟨rfl, rfl⟩
    refine ⟨rfl, fun _ _ => rfl, rfl, ?_⟩
    repeat (first | refine And.intro (fun _ => ?_) (fun h => Bool.noConfusion h) | refine And.intro (fun h => Bool.noConfusion h) (fun _ => ?_))
    rw [← hgo]
    exact And.intro ⟨0, .inl rfl, rfl⟩ rfl
  | some d =>
  rw [hfd] at hgo
  replace hgo : (if (timed m d os r.st).2.2 ≠ 0 then (([], (i : Int), (timed m d os r.st).2.2) : List (List Vis) × Int × Int) else goMk m ds os (i + 1) (c ++ [(timed m d os r.st).1]) (p.drop (i + 1))) = goMk m ds os 0 [] p := hgo
  rw [(drOf_some hfd).1, (drOf_some hfd).2] at hcl
  have htd := c_route_Timed m hm d (h1.2.2.2.1 d (findDr_mem hfd).1) os h1.2.1 r.st hrs.1 (r := 1) (sto := [mbox m]) (Nat.le_refl 1) rfl (Nat.lt_succ_self 0)
  generalize timed m d os r.st = x at hgo htd
  obtain ⟨vs, a, e⟩ := x
  replace hgo : (if e ≠ 0 then (([], (i : Int), e) : List (List Vis) × Int × Int) else goMk m ds os (i + 1) (c ++ [vs]) (p.drop (i + 1))) = goMk m ds os 0 [] p := hgo
  refine ⟨rfl, (by first | exact Nat.zero_le _ | exact Nat.le_refl _ | exact Nat.le_succ 1 | decide), (hcl).mono ?_⟩
  rintro d l ⟨rfl, rfl⟩
  refine ⟨rfl, fun _ _ => rfl, rfl, ?_⟩
  repeat (first | refine And.intro (fun _ => ?_) (fun h => Bool.noConfusion h) | refine And.intro (fun h => Bool.noConfusion h) (fun _ => ?_))
  refine ⟨rfl, Nat.le_refl _, htd.mono ?_⟩
  rintro x l ⟨⟨sz2, hsz2, rfl⟩, rfl⟩
  refine ⟨rfl, fun _ _ => rfl, rfl, ?_⟩
  refine ⟨rfl, (by first | exact Nat.zero_le _ | exact Nat.le_refl _ | exact Nat.le_succ 1 | decide), (c_api_Good a e (r := 1) (sto := [mbox m]) (Nat.le_refl 1)).mono ?_⟩
  rintro d l ⟨rfl, rfl⟩
  refine ⟨rfl, fun _ _ => rfl, rfl, ?_⟩
  cases h4 : decide (e = 0) with
  | false =>
    repeat (first | refine And.intro (fun _ => ?_) (fun h => Bool.noConfusion h) | refine And.intro (fun h => Bool.noConfusion h) (fun _ => ?_))
    rw [if_pos (of_decide_eq_false h4)] at hgo
    rw [← hgo]
    refine ⟨⟨31, [0, 0, 2, 5, 0, 31], [1, 2, 6, 15, 16, 63]⟩, by kernel_rfl, ?_⟩
    refine And.intro ?_ trivial
    refine And.intro (by repeat (first | exact trivial | refine And.intro ⟨rfl, rfl⟩ ?_)) ?_
    refine And.intro ?_ trivial
    refine And.intro (by repeat (first | exact trivial | refine And.intro ⟨rfl, rfl⟩ ?_)) ?_
    exact And.intro ⟨0, .inl rfl, rfl⟩ rfl
  | true =>
  repeat (first | refine And.intro (fun _ => ?_) (fun h => Bool.noConfusion h) | refine And.intro (fun h => Bool.noConfusion h) (fun _ => ?_))
  rw [if_neg (fun h => h (of_decide_eq_true h4))] at hgo
  have hszk : ((sz == 0 || sz == LT.size 86) && decide (0 < LT.size 86) && decide (0 < LT.bytes 86) && (LT.zero 86).isSome) = true := by rcases hsz with rfl | rfl <;> rfl
  have hrm : ((c.map rowCt).length + 1) * 24 ≤ 140737488355328 := by rw [List.length_map]; omega
  refine And.intro trivial (And.intro hszk (And.intro hrm (And.intro rfl ?_)))
  refine ⟨p.length - (i + 1), by omega, i + 1, c ++ [vs], 1, rfl, by omega, .inr rfl, by rw [List.length_append]; simp only [List.length_cons, List.length_nil]; omega, hgo, ?_⟩
  unfold sMk
  rw [← hw, List.map_append]
  rfl
theorem c_cert_Make (m : Mp) (hm : okMp m) (ds : List Drv) (os : List Ord) (p : Pln) {r b : Nat} {sto : List Ob} (hr : r ≤ sto.length) (hb : sto[b]? = some (mbox m)) (hbr : b < r) : Tri Try.prog 17 r [.gptr b 0, encDs ds, encOs os, encP p] sto (fun x k => isMk (makeR m ds os p) x ∧ k = sto) :=
  (c_cert_Make_0 m hm ds os p).boxRO (nr_mcs m) rfl (nrBL_Dr (nrBL_O (nrBL_P rfl))) (fun d h => isMk_ok h) hr hb hbr
end Go.Lv

namespace Go.Lv
open Go.Proofs

noncomputable def totG (m : Mp) (ds : List Drv) (os : List Ord) : Int → Pln → Int
  | n, [] => n
  | n, r :: p => totG m ds os (n + wayP m (drOf r.drv ds) os r.st) p
noncomputable def totP (m : Mp) (ds : List Drv) (os : List Ord) (p : Pln) : Int := totG m ds os 0 p
noncomputable def totalD (m : Mp) (ds : List Drv) (os : List Ord) (p : Pln) : D := if (makeR m ds os p).2.2 = 0 then .tup [.int .i64 (totP m ds os p), .bool true] else .tup [.int .i64 0, .bool false]
theorem totG_at {m : Mp} {ds : List Drv} {os : List Ord} {n : Int} {p : Pln} {i : Nat} (h : i < p.length) : totG m ds os n (p.drop i) = totG m ds os (n + wayP m (drOf p[i].drv ds) os p[i].st) (p.drop (i + 1)) := by
  rw [List.drop_eq_getElem_cons h]
  rfl
theorem wayG_le {m : Mp} (hm : okMp m) {os : List Ord} : ∀ {st : List Stp} {a n : Int}, n ≤ wayG m os a n st ∧ wayG m os a n st ≤ n + 1000000 * (st.length : Int)
  | [], a, n => ⟨Int.le_refl _, by show n ≤ n + 1000000 * (0 : Int); omega⟩
  | s :: r, a, n => by
    have h := wayG_le hm (os := os) (st := r) (a := (sitOf os s).place) (n := n + timeM m a (sitOf os s).place)
    have ht := timeM_le hm a (sitOf os s).place
    unfold wayG
    simp only [List.length_cons]
    omega
theorem wayP_le {m : Mp} (hm : okMp m) {d : Drv} {os : List Ord} {st : List Stp} (h : st.length ≤ 80) : 0 ≤ wayP m d os st ∧ wayP m d os st ≤ 80000000 := by
  have := wayG_le hm (os := os) (st := st) (a := d.home) (n := 0)
  unfold wayP
  omega
structure smP (p : Pln) : Prop where
  len : p.length ≤ 8
  st : ∀ r, r ∈ p → r.st.length ≤ 80
theorem smP_right {p : Pln} (h : rightP p = true) : smP p := ⟨(rightP_st h).1, fun r hr => ((rightP_st h).2 r hr).1⟩
noncomputable def sTo (m : Mp) (ds : List Drv) (os : List Ord) (p : Pln) (n : Int) (i : Nat) : DS := ⟨[(0, .gptr 0 0), (1, encDs ds), (2, encOs os), (8, .int .i64 0), (9, .int .i64 n), (14, encP p), (15, .int .i64 (p.length : Int)), (16, .int .i64 (i : Int))], [], [mbox m], mR 1⟩
set_option maxHeartbeats 4000000 in
theorem c_repair_total_0 (m : Mp) (hm : okMp m) (ds : List Drv) (hd : ds.length ≤ 1000000000000000) (os : List Ord) (ho : os.length ≤ 1000000000000000) (p : Pln) (hp : smP p) : Tri Try.prog 23 1 [.gptr 0 0, encDs ds, encOs os, encP p] [mbox m] (fun x k => x = .int .i64 (totP m ds os p) ∧ k = [mbox m]) := by
  refine Tri.walk2 (L := LT) (c := {n := 37, ko := [8]}) [] [0, 1, 2, 3, 8, 9, 11, 12, 14, 15, 16, 17] hLT hmix Try.func23 rfl rfl ⟨rfl, rfl⟩ (by show 4 ≤ 37; decide) (by first | exact Nat.zero_le _ | exact Nat.le_refl _ | exact Nat.le_succ 1 | decide) ?_
  show Ok _ _ _ _ _
  refine Ok.loopN hLT hmix [] [0, 1, 2, 3, 8, 9, 11, 12, 14, 15, 16, 17] [0,1,2,8,9,14,15,16] [] (fun k s => ∃ (i : Nat) (n : Int), k = p.length - i ∧ i ≤ p.length ∧ 0 ≤ n ∧ n ≤ 80000000 * (i : Int) ∧ totG m ds os n (p.drop i) = totP m ds os p ∧ s = sTo m ds os p n i) (n := p.length) ⟨0, 0, rfl, Nat.zero_le _, by omega, by omega, rfl, by unfold sTo; rw [← List.length_map (f := rowR)]; rfl⟩ ?_
  rintro k s ⟨i, n, rfl, hi, hn0, hn1, hgo, rfl⟩
  have hpl := hp.len
  refine And.intro (fun h1 => ?_) (fun h1 => ?_)
  rotate_left
  · have h1 : ¬ ((i : Nat) : Int) < (p.length : Int) := of_decide_eq_false h1
    rw [List.drop_eq_nil_of_le (by omega)] at hgo
    rw [← hgo]
    exact And.intro rfl rfl
  have h1 : ((i : Nat) : Int) < (p.length : Int) := of_decide_eq_true h1
  have hil : i < p.length := by omega
  have hw := wrap_succ (i := i) (n := p.length) hil (by omega)
  rw [totG_at hil] at hgo
  have hst := hp.st p[i] (List.getElem_mem _)
  refine ⟨(p).map rowR, rowR ((p)[i]'(by omega)), rfl, by omega, row_at' rowR (p) (by omega) (by omega), rfl, of_decide_eq_true rfl, ?_⟩
  generalize p[i] = r at hgo hst ⊢
  have hcl := c_cert_Driver ds hd rfl r.drv (r := 1) (sto := [mbox m]) (Nat.le_refl 1)
  unfold drOfD at hcl
  generalize drOf r.drv ds = d at hcl hgo
  generalize (findDr r.drv ds).isSome = q at hcl
  have hwy := c_route_Way m hm d os ho r.st hst (r := 1) (sto := [mbox m]) (Nat.le_refl 1) rfl (Nat.lt_succ_self 0)
  have hwl := wayP_le hm (d := d) (os := os) hst
  generalize wayP m d os r.st = way at hwy hwl hgo
  have hws : IntKind.i64.wrap (n + way) = n + way := wrap64 (by omega) (by omega)
  refine ⟨rfl, (by first | exact Nat.zero_le _ | exact Nat.le_refl _ | exact Nat.le_succ 1 | decide), (hcl).mono ?_⟩
  rintro d l ⟨rfl, rfl⟩
  refine ⟨rfl, fun _ _ => rfl, rfl, ?_⟩
  refine ⟨rfl, (by first | exact Nat.zero_le _ | exact Nat.le_refl _ | exact Nat.le_succ 1 | decide), (hwy).mono ?_⟩
  rintro d l ⟨rfl, rfl⟩
  refine ⟨rfl, fun _ _ => rfl, rfl, ?_⟩
  refine ⟨p.length - (i + 1), by omega, i + 1, IntKind.i64.wrap (n + way), rfl, by omega, by rw [hws]; omega, by rw [hws]; omega, by rw [hws]; exact hgo, ?_⟩
  unfold sTo
  rw [← hw]
  rfl
theorem c_repair_total (m : Mp) (hm : okMp m) (ds : List Drv) (hd : ds.length ≤ 1000000000000000) (os : List Ord) (ho : os.length ≤ 1000000000000000) (p : Pln) (hp : smP p) {r b : Nat} {sto : List Ob} (hr : r ≤ sto.length) (hb : sto[b]? = some (mbox m)) (hbr : b < r) : Tri Try.prog 23 r [.gptr b 0, encDs ds, encOs os, encP p] sto (fun x k => x = .int .i64 (totP m ds os p) ∧ k = sto) :=
  (c_repair_total_0 m hm ds hd os ho p hp).boxRO (nr_mcs m) rfl (nrBL_Dr (nrBL_O (nrBL_P rfl))) (fun d h => by subst h; exact ⟨rfl, rfl⟩) hr hb hbr
theorem makeR_tog {m : Mp} {ds : List Drv} {os : List Ord} {p : Pln} (h : (makeR m ds os p).2.2 = 0) : togO m ds os p := by
  unfold makeR at h
  split at h
  · assumption
  · exact absurd h (by show ¬ (1 : Int) = 0; decide)
theorem totalD_ok (m : Mp) (ds : List Drv) (os : List Ord) (p : Pln) : partsOK (totalD m ds os p) = true ∧ nrB 0 (totalD m ds os p) = true := by
  unfold totalD
  split <;> exact ⟨rfl, rfl⟩
set_option maxHeartbeats 4000000 in
theorem c_repair_Total_0 (m : Mp) (hm : okMp m) (ds : List Drv) (os : List Ord) (p : Pln) : Tri Try.prog 9 1 [.gptr 0 0, encDs ds, encOs os, encP p] [mbox m] (fun x k => x = totalD m ds os p ∧ k = [mbox m]) := by
  refine Tri.walk2 (L := LT) (c := {n := 28, ko := [8, 9]}) [] [0, 1, 2, 3, 8, 9, 11, 22] hLT hmix Try.func9 rfl rfl ⟨rfl, rfl⟩ (by show 4 ≤ 28; decide) (by first | exact Nat.zero_le _ | exact Nat.le_refl _ | exact Nat.le_succ 1 | decide) ?_
  unfold totalD
  have htg := makeR_tog (m := m) (ds := ds) (os := os) (p := p)
  have hmk := c_cert_Make m hm ds os p (r := 1) (sto := [mbox m]) (Nat.le_refl 1) rfl (Nat.lt_succ_self 0)
  generalize makeR m ds os p = x at htg hmk ⊢
  obtain ⟨c, a, e⟩ := x
  refine ⟨rfl, Nat.le_refl _, hmk.mono ?_⟩
  rintro x l ⟨⟨sz, hsz, rfl⟩, rfl⟩
  refine ⟨rfl, fun _ _ => rfl, rfl, ?_⟩
  refine ⟨rfl, (by first | exact Nat.zero_le _ | exact Nat.le_refl _ | exact Nat.le_succ 1 | decide), (c_api_Good a e (r := 1) (sto := [mbox m]) (Nat.le_refl 1)).mono ?_⟩
  rintro d l ⟨rfl, rfl⟩
  refine ⟨rfl, fun _ _ => rfl, rfl, ?_⟩
  cases h1 : decide (e = 0) with
  | false =>
    repeat (first | refine And.intro (fun _ => ?_) (fun h => Bool.noConfusion h) | refine And.intro (fun h => Bool.noConfusion h) (fun _ => ?_))
    rw [if_neg (show ¬ e = 0 from of_decide_eq_false h1)]
    exact And.intro rfl rfl
  | true =>
    repeat (first | refine And.intro (fun _ => ?_) (fun h => Bool.noConfusion h) | refine And.intro (fun h => Bool.noConfusion h) (fun _ => ?_))
    have h1 : e = 0 := of_decide_eq_true h1
    have hg := htg h1
    rw [if_pos h1]
    refine ⟨rfl, (by first | exact Nat.zero_le _ | exact Nat.le_refl _ | exact Nat.le_succ 1 | decide), (c_repair_total m hm ds (by have := hg.1; omega) os (by have := hg.2.1.1; omega) p (smP_right hg.2.2.1) (r := 1) (sto := [mbox m]) (Nat.le_refl 1) rfl (Nat.lt_succ_self 0)).mono ?_⟩
    rintro d l ⟨rfl, rfl⟩
    refine ⟨rfl, fun _ _ => rfl, rfl, ?_⟩
    exact And.intro rfl rfl
theorem c_repair_Total (m : Mp) (hm : okMp m) (ds : List Drv) (os : List Ord) (p : Pln) {r b : Nat} {sto : List Ob} (hr : r ≤ sto.length) (hb : sto[b]? = some (mbox m)) (hbr : b < r) : Tri Try.prog 9 r [.gptr b 0, encDs ds, encOs os, encP p] sto (fun x k => x = totalD m ds os p ∧ k = sto) :=
  (c_repair_Total_0 m hm ds os p).boxRO (nr_mcs m) rfl (nrBL_Dr (nrBL_O (nrBL_P rfl))) (fun d h => by subst h; exact totalD_ok m ds os p) hr hb hbr
end Go.Lv

namespace Go.Lv
open Go.Proofs

structure Leg where
  site : Sit
  more : Int
  deriving DecidableEq
structure Sta where
  now : Int
  at_ : Int
  load : Int
  way : Int
  deriving DecidableEq
noncomputable def rowL (l : Leg) : List D := [.int .i64 l.site.place, .int .i64 l.site.w.lo, .int .i64 l.site.w.hi, .int .i64 l.site.serv, .int .i64 l.more]
noncomputable def rowT (s : Sta) : List D := [.int .i64 s.now, .int .i64 s.at_, .int .i64 s.load, .int .i64 s.way]
noncomputable def legO (o : Ord) : Bool → Leg
  | true => ⟨o.drop, -o.size⟩
  | false => ⟨o.pick, o.size⟩
set_option maxHeartbeats 4000000 in
theorem c_insert_legOf_0 (o : Ord) (ho : -1000000 ≤ o.size ∧ o.size ≤ 1000000) (b : Bool) : Tri Try.prog 118 0 [.agg (rowO o), .bool b] [] (fun d k => d = .agg (rowL (legO o b)) ∧ k = []) := by
  have hw : IntKind.i64.wrap (0 - o.size) = -o.size := by rw [wrap64 (by omega) (by omega)]; omega
  cases b with
  | true =>
    refine Tri.walk2 (L := LT) (c := {n := 17, kb := [4]}) [] [0, 1, 2, 4, 5] hLT hmix Try.func118 rfl rfl ⟨rfl, rfl⟩ (by show 2 ≤ 17; decide) (by first | exact Nat.zero_le _ | exact Nat.le_refl _ | exact Nat.le_succ 1 | decide) ?_
    repeat (first | refine And.intro (fun _ => ?_) (fun h => Bool.noConfusion h) | refine And.intro (fun h => Bool.noConfusion h) (fun _ => ?_))
    rw [show D.agg (rowL (legO o true)) = .agg [.int .i64 o.drop.place, .int .i64 o.drop.w.lo, .int .i64 o.drop.w.hi, .int .i64 o.drop.serv, .int .i64 (IntKind.i64.wrap (0 - o.size))] by rw [hw]; rfl]
    exact And.intro rfl rfl
  | false =>
    refine Tri.walk2 (L := LT) (c := {n := 17, kb := [4]}) [] [0, 1, 2, 4, 5] hLT hmix Try.func118 rfl rfl ⟨rfl, rfl⟩ (by show 2 ≤ 17; decide) (by first | exact Nat.zero_le _ | exact Nat.le_refl _ | exact Nat.le_succ 1 | decide) ?_
    repeat (first | refine And.intro (fun _ => ?_) (fun h => Bool.noConfusion h) | refine And.intro (fun h => Bool.noConfusion h) (fun _ => ?_))
    exact And.intro rfl rfl
theorem c_insert_legOf (o : Ord) (ho : -1000000 ≤ o.size ∧ o.size ≤ 1000000) (b : Bool) {r : Nat} {sto : List Ob} (hr : r ≤ sto.length) : Tri Try.prog 118 r [.agg (rowO o), .bool b] sto (fun d k => d = .agg (rowL (legO o b)) ∧ k = sto) :=
  (c_insert_legOf_0 o ho b).pure rfl rfl rfl rfl hr
structure Srch where
  d : Drv
  legs : List Leg
  pre : List Sta
  pick : Leg
  drop : Leg
  full : Bool
noncomputable def xcs (b sl sp : Nat) (x : Srch) : List D := [.gptr b 0, .int .i64 x.d.id, .int .i64 x.d.room, .int .i64 x.d.home, .int .i64 x.d.w.lo, .int .i64 x.d.w.hi, .bool x.d.ret, .list (.own sl) (x.legs.map rowL), .list (.own sp) (x.pre.map rowT), .int .i64 x.pick.site.place, .int .i64 x.pick.site.w.lo, .int .i64 x.pick.site.w.hi, .int .i64 x.pick.site.serv, .int .i64 x.pick.more, .int .i64 x.drop.site.place, .int .i64 x.drop.site.w.lo, .int .i64 x.drop.site.w.hi, .int .i64 x.drop.site.serv, .int .i64 x.drop.more, .bool x.full]
noncomputable def xbox (b sl sp : Nat) (x : Srch) : Ob := .box (xcs b sl sp x)
structure okLeg (l : Leg) : Prop where
  s0 : 0 ≤ l.site.serv
  s1 : l.site.serv ≤ 1000000
  m0 : -1000 ≤ l.more
  m1 : l.more ≤ 1000
structure okSta (k : Nat) (s : Sta) : Prop where
  n0 : 0 ≤ s.now
  n1 : s.now ≤ 2000000
  l0 : -1000 * (k : Int) ≤ s.load
  l1 : s.load ≤ 1000 * (k : Int)
  w0 : 0 ≤ s.way
  w1 : s.way ≤ 1000000 * (k : Int)
noncomputable def bgO (w : Win) (t : Int) : Int := match beginW w t with
  | some b => b
  | none => 0
noncomputable def bgB (w : Win) (t : Int) : Bool := match beginW w t with
  | some b => true
  | none => false
noncomputable def stepS (m : Mp) (s : Sta) (l : Leg) : Sta := ⟨bgO l.site.w (s.now + timeM m s.at_ l.site.place) + l.site.serv, l.site.place, s.load + l.more, s.way + timeM m s.at_ l.site.place⟩
noncomputable def stepB (m : Mp) (d : Drv) (s : Sta) (l : Leg) : Bool := bgB l.site.w (s.now + timeM m s.at_ l.site.place) && (decide ((stepS m s l).now ≤ d.w.hi) && decide ((stepS m s l).load ≤ d.room))
theorem bgO_le (w : Win) (t : Int) (h0 : 0 ≤ t) : 0 ≤ bgO w t ∧ bgO w t ≤ 1000000 := by
  unfold bgO
  cases h : beginW w t with
  | none => exact ⟨Int.le_refl _, by decide⟩
  | some b =>
    have := beginW_some h
    show 0 ≤ b ∧ b ≤ 1000000
    omega
theorem stepS_ok {m : Mp} (hm : okMp m) {k : Nat} {s : Sta} {l : Leg} (hs : okSta k s) (hl : okLeg l) : okSta (k + 1) (stepS m s l) := by
  have ht := timeM_le hm s.at_ l.site.place
  have hb := bgO_le l.site.w (s.now + timeM m s.at_ l.site.place) (by have := hs.n0; omega)
  obtain ⟨a1, a2, a3, a4, a5, a6⟩ := hs
  obtain ⟨b1, b2, b3, b4⟩ := hl
  unfold stepS
  constructor <;> simp only <;> omega
theorem beginD_bg (w : Win) (t : Int) : beginD w t = .tup [.int .i64 (bgO w t), .bool (bgB w t)] := by
  unfold beginD bgO bgB
  cases beginW w t <;> rfl
noncomputable def stepD (m : Mp) (d : Drv) (s : Sta) (l : Leg) : D := .tup [.agg (rowT (stepS m s l)), .bool (stepB m d s l)]
set_option maxHeartbeats 8000000 in
theorem c_insert_step_0 (m : Mp) (hm : okMp m) (x : Srch) (sl sp : Nat) (s : Sta) {k : Nat} (hk : k ≤ 1000) (hs : okSta k s) (l : Leg) (hl : okLeg l) : Tri Try.prog 119 2 [.gptr 1 0, .agg (rowT s), .agg (rowL l)] [mbox m, xbox 0 sl sp x] (fun d k => d = stepD m x.d s l ∧ k = [mbox m, xbox 0 sl sp x]) := by
  obtain ⟨now, at_, load, way⟩ := s
  obtain ⟨⟨pl, w, sv⟩, more⟩ := l
  refine Tri.walk2 (L := LT) (c := {n := 78, ko := [7], kb := [6]}) [] [0, 1, 2, 4, 5, 6, 7, 8, 10, 11, 12] hLT hmix Try.func119 rfl rfl ⟨rfl, rfl⟩ (by show 3 ≤ 78; decide) (by first | exact Nat.zero_le _ | exact Nat.le_refl _ | exact Nat.le_succ 1 | decide) ?_
  obtain ⟨a1, a2, a3, a4, a5, a6⟩ := hs
  obtain ⟨b1, b2, b3, b4⟩ := hl
  simp only at a1 a2 a3 a4 a5 a6 b1 b2 b3 b4
  unfold stepD stepB stepS
  have htm := c_geo_Time m hm at_ pl (r := 2) (b1 := 0) (sto := [mbox m, xbox 0 sl sp x]) (Nat.le_refl 2) rfl (by decide)
  unfold timeD at htm
  have hwy := timeM_le hm at_ pl
  simp only
  generalize timeM m at_ pl = t at htm hwy ⊢
  generalize inM m at_ pl = tb at htm
  have hwn : IntKind.i64.wrap (now + t) = now + t := wrap64 (by omega) (by omega)
  have hbg := c_span_Begin w (IntKind.i64.wrap (now + t)) (r := 2) (sto := [mbox m, xbox 0 sl sp x]) (Nat.le_refl 2)
  rw [show beginD w (IntKind.i64.wrap (now + t)) = .tup [.int .i64 (bgO w (now + t)), .bool (bgB w (now + t))] by rw [hwn]; exact beginD_bg _ _] at hbg
  have hbl := bgO_le w (now + t) (by omega)
  generalize bgO w (now + t) = bg at hbg hbl ⊢
  generalize bgB w (now + t) = bb at hbg ⊢
  have h1 : IntKind.i64.wrap (bg + sv) = bg + sv := wrap64 (by omega) (by omega)
  have h2 : IntKind.i64.wrap (load + more) = load + more := wrap64 (by omega) (by omega)
  have h3 : IntKind.i64.wrap (way + t) = way + t := wrap64 (by omega) (by omega)
  rw [show D.agg (rowT ⟨bg + sv, pl, load + more, way + t⟩) = .agg [.int .i64 (IntKind.i64.wrap (bg + sv)), .int .i64 pl, .int .i64 (IntKind.i64.wrap (load + more)), .int .i64 (IntKind.i64.wrap (way + t))] by rw [h1, h2, h3]; rfl]
  obtain ⟨wlo, whi⟩ := w
  refine ⟨⟨32767, [0, 1, 2, 4, 0, 16, 0, 64, 128, 296, 512, 1024, 1024, 4095, 16383], [1, 3, 7, 15, 16, 48, 64, 192, 448, 1023, 2047, 4095, 6143, 12287, 32767]⟩, by kernel_rfl, ?_⟩
  refine And.intro ?_ trivial
  refine ⟨rfl, (by first | exact Nat.zero_le _ | exact Nat.le_refl _ | exact Nat.le_succ 1 | decide), (htm).mono ?_⟩
  rintro d l ⟨rfl, rfl⟩
  refine ⟨rfl, fun _ _ => rfl, rfl, ?_⟩
  refine And.intro (by repeat (first | exact trivial | refine And.intro ⟨rfl, rfl⟩ ?_)) ?_
  refine (fun (hrest : _) => And.intro (fun _ => by
      refine And.intro ?_ trivial
      refine And.intro (by repeat (first | exact trivial | refine And.intro ⟨rfl, rfl⟩ ?_)) ?_
      refine And.intro ?_ trivial
      refine And.intro (by repeat (first | exact trivial | refine And.intro ⟨rfl, rfl⟩ ?_)) ?_
      exact hrest) (fun _ => by
      refine And.intro ?_ trivial
      refine And.intro (by repeat (first | exact trivial | refine And.intro ⟨rfl, rfl⟩ ?_)) ?_
      refine And.intro ?_ trivial
      refine And.intro (by repeat (first | exact trivial | refine And.intro ⟨rfl, rfl⟩ ?_)) ?_
      exact hrest)) ?_
  refine ⟨rfl, (by first | exact Nat.zero_le _ | exact Nat.le_refl _ | exact Nat.le_succ 1 | decide), (hbg).mono ?_⟩
  rintro d l ⟨rfl, rfl⟩
  refine ⟨rfl, fun _ _ => rfl, rfl, ?_⟩
  cases bb with
  | false =>
    refine ⟨⟨25165823, [0, 0, 2, 4, 12, 4, 36, 68, 132, 260, 516, 1044, 2052, 4100, 8192, 24576, 8192, 73728, 139264, 270336, 532480, 1089536, 2105344, 8193, 16777215], [1, 2, 6, 14, 30, 38, 102, 230, 486, 998, 2022, 4094, 8190, 16382, 32766, 65534, 81918, 212990, 475134, 999422, 2047998, 4194302, 8388606, 8404991, 33554431]⟩, by kernel_rfl, ?_⟩
    refine And.intro (fun h => Bool.noConfusion h) (fun _ => ?_)
    refine And.intro (fun h => Bool.noConfusion h) (fun _ => ?_)
    refine And.intro (fun h => Bool.noConfusion h) (fun _ => ?_)
    refine And.intro (fun h => Bool.noConfusion h) (fun _ => ?_)
    refine And.intro (fun h => Bool.noConfusion h) (fun _ => ?_)
    refine And.intro ?_ trivial
    refine And.intro (by repeat (first | exact trivial | refine And.intro ⟨rfl, rfl⟩ ?_)) ?_
    refine And.intro ?_ trivial
    refine And.intro (by repeat (first | exact trivial | refine And.intro ⟨rfl, rfl⟩ ?_)) ?_
    exact And.intro rfl rfl
  | true =>
    refine ⟨⟨25165823, [0, 0, 2, 4, 12, 4, 36, 68, 132, 260, 516, 1044, 2052, 4100, 8192, 24576, 8192, 73728, 139264, 270336, 532480, 1089536, 2105344, 8193, 16777215], [1, 2, 6, 14, 30, 38, 102, 230, 486, 998, 2022, 4094, 8190, 16382, 32766, 65534, 81918, 212990, 475134, 999422, 2047998, 4194302, 8388606, 8404991, 33554431]⟩, by kernel_rfl, ?_⟩
    refine And.intro (fun _ => ?_) (fun h => Bool.noConfusion h)
    refine And.intro (fun _ => ?_) (fun h => Bool.noConfusion h)
    refine And.intro (fun g1 => ?_) (fun g1 => ?_)
    · have g1 : IntKind.i64.wrap (bg + sv) ≤ x.d.w.hi := of_decide_eq_true g1
      rw [h1] at g1
      rw [decide_eq_true g1]
      refine And.intro (fun _ => ?_) (fun h => Bool.noConfusion h)
      refine And.intro (fun _ => ?_) (fun h => Bool.noConfusion h)
      refine And.intro (fun g2 => ?_) (fun g2 => ?_)
      · have g2 : IntKind.i64.wrap (load + more) ≤ x.d.room := of_decide_eq_true g2
        rw [h2] at g2
        rw [decide_eq_true g2]
        refine And.intro (fun _ => ?_) (fun h => Bool.noConfusion h)
        refine And.intro ?_ trivial
        refine And.intro (by repeat (first | exact trivial | refine And.intro ⟨rfl, rfl⟩ ?_)) ?_
        refine And.intro ?_ trivial
        refine And.intro (by repeat (first | exact trivial | refine And.intro ⟨rfl, rfl⟩ ?_)) ?_
        exact And.intro rfl rfl
      · have g2 : ¬ IntKind.i64.wrap (load + more) ≤ x.d.room := of_decide_eq_false g2
        rw [h2] at g2
        rw [decide_eq_false g2]
        refine And.intro (fun h => Bool.noConfusion h) (fun _ => ?_)
        refine And.intro ?_ trivial
        refine And.intro (by repeat (first | exact trivial | refine And.intro ⟨rfl, rfl⟩ ?_)) ?_
        refine And.intro ?_ trivial
        refine And.intro (by repeat (first | exact trivial | refine And.intro ⟨rfl, rfl⟩ ?_)) ?_
        exact And.intro rfl rfl
    · have g1 : ¬ IntKind.i64.wrap (bg + sv) ≤ x.d.w.hi := of_decide_eq_false g1
      rw [h1] at g1
      rw [decide_eq_false g1]
      refine And.intro (fun h => Bool.noConfusion h) (fun _ => ?_)
      refine And.intro (fun h => Bool.noConfusion h) (fun _ => ?_)
      refine And.intro (fun h => Bool.noConfusion h) (fun _ => ?_)
      refine And.intro ?_ trivial
      refine And.intro (by repeat (first | exact trivial | refine And.intro ⟨rfl, rfl⟩ ?_)) ?_
      refine And.intro ?_ trivial
      refine And.intro (by repeat (first | exact trivial | refine And.intro ⟨rfl, rfl⟩ ?_)) ?_
      exact And.intro rfl rfl
end Go.Lv

namespace Go.Lv
open Go.Proofs

noncomputable def rhoX (p b : Nat) : Nat → Nat := fun i => if i = 0 then p else b
theorem back2X {p b : Nat} {sto : List Ob} {o1 o2 o1' o2' : Ob} (hp : sto[p]? = some o1') (hb : sto[b]? = some o2') (h1 : renO (extR (rhoX p b) 2 sto.length) o1 = o1') (h2 : renO (extR (rhoX p b) 2 sto.length) o2 = o2') :
    backSto (rhoX p b) 2 sto [o1, o2] = sto := by
  show ((sto.set p (renO _ o1)).set b (renO _ o2)) ++ [] = sto
  rw [List.append_nil, h1, h2]
  have e1 : sto.set p o1' = sto := by
    apply List.ext_getElem?
    intro i
    rw [List.getElem?_set]
    split
    · rename_i e
      subst e
      rw [if_pos (List.getElem?_eq_some_iff.1 hp).1, hp]
    · rfl
  rw [e1]
  apply List.ext_getElem?
  intro i
  rw [List.getElem?_set]
  split
  · rename_i e
    subst e
    rw [if_pos (List.getElem?_eq_some_iff.1 hb).1, hb]
  · rfl
theorem Tri.box2RO {P : Program} {f : Nat} {cs tl : List D} {args : List D} {R : D → Prop} (h : Tri P f 2 (.gptr 1 0 :: args) [.box cs, .box (.gptr 0 0 :: tl)] (fun d l => R d ∧ l = [.box cs, .box (.gptr 0 0 :: tl)])) (hc : nrBL 0 cs = true) (ht : nrBL 0 tl = true) (ha : args.all cellsOK = true) (hn : nrBL 0 args = true) (hd : ∀ d, R d → partsOK d = true ∧ nrB 0 d = true)
    {r p b : Nat} {sto : List Ob} (hr : r ≤ sto.length) (hp : sto[p]? = some (.box cs)) (hb : sto[b]? = some (.box (.gptr p 0 :: tl))) (hne : p ≠ b) (hpr : p < r) (hbr : b < r) : Tri P f r (.gptr b 0 :: args) sto (fun d l => R d ∧ l = sto) := by
  have := Tri.ren (r := r) (sto := sto) (rhoX p b) h (fun i j hi hj e => by
      match i, j, hi, hj with
      | 0, 0, _, _ => rfl
      | 1, 1, _, _ => rfl
      | 0, 1, _, _ => exact absurd (show p = b from e) hne
      | 1, 0, _, _ => exact absurd (show b = p from e).symm hne
      | i + 2, _, hi, _ => exact absurd hi (by show ¬ i + 2 < 2; omega)
      | _, j + 2, _, hj => exact absurd hj (by show ¬ j + 2 < 2; omega)) (fun i o hi => by
      match i, hi with
      | 0, hi =>
        simp at hi
        subst hi
        show _ = some (Ob.box (renL _ cs))
        rw [renL_id _ hc]
        exact hp
      | 1, hi =>
        simp at hi
        subst hi
        show _ = some (Ob.box (.gptr p 0 :: renL _ tl))
        rw [renL_id _ ht]
        exact hb
      | i + 2, hi => simp at hi) (fun i hi => by
      match i, hi with
      | 0, _ => exact ⟨fun _ => hpr, fun _ => by omega⟩
      | 1, _ => exact ⟨fun _ => hbr, fun _ => by omega⟩
      | i + 2, hi => exact absurd hi (by show ¬ i + 2 < 2; omega)) hr (by show (true && args.all cellsOK) = true; rw [ha]; rfl) (fun x hx => by
      rcases List.mem_cons.1 hx with e | hx
      · rw [e]; exact .gptr _ _ (by show 1 < 2; omega)
      · exact nrBL_up hn x hx) (fun o ho => by
      rcases List.mem_cons.1 ho with e | ho
      · rw [e]
        exact fun x hx => nrBL_up hc x hx
      · have : o = .box (.gptr 0 0 :: tl) := by simpa using ho
        rw [this]
        intro x hx
        rcases List.mem_cons.1 hx with e | hx
        · rw [e]; exact .gptr _ _ (by show 0 < 2; omega)
        · exact nrBL_up ht x hx) rfl (fun d l ⟨h1, h2⟩ => by subst h2; exact ⟨(hd _ h1).1, rfl⟩)
  rw [show renL (rhoX p b) (.gptr 1 0 :: args) = .gptr b 0 :: args by show D.gptr b 0 :: renL _ args = _; rw [renL_id _ hn]] at this
  refine this.mono fun d l ⟨d1, l1, ⟨h1, h2⟩, h3, h4⟩ => ?_
  subst h2
  refine ⟨by rw [h3, renD_id _ (hd _ h1).2]; exact h1, ?_⟩
  rw [h4]
  refine back2X hp hb ?_ ?_
  · show Ob.box (renL _ cs) = _
    rw [renL_id _ hc]
  · show Ob.box (.gptr (extR (rhoX p b) 2 sto.length 0) 0 :: renL _ tl) = _
    rw [renL_id _ ht]
    rfl
theorem nrBLL_L : ∀ l : List Leg, nrBLL 0 (l.map rowL) = true
  | [] => rfl
  | b :: r => by
    show (nrBL 0 (rowL b) && nrBLL 0 (r.map rowL)) = true
    rw [nrBLL_L r]
    rfl
theorem nrBLL_T : ∀ l : List Sta, nrBLL 0 (l.map rowT) = true
  | [] => rfl
  | b :: r => by
    show (nrBL 0 (rowT b) && nrBLL 0 (r.map rowT)) = true
    rw [nrBLL_T r]
    rfl
noncomputable def xtl (sl sp : Nat) (x : Srch) : List D := [.int .i64 x.d.id, .int .i64 x.d.room, .int .i64 x.d.home, .int .i64 x.d.w.lo, .int .i64 x.d.w.hi, .bool x.d.ret, .list (.own sl) (x.legs.map rowL), .list (.own sp) (x.pre.map rowT), .int .i64 x.pick.site.place, .int .i64 x.pick.site.w.lo, .int .i64 x.pick.site.w.hi, .int .i64 x.pick.site.serv, .int .i64 x.pick.more, .int .i64 x.drop.site.place, .int .i64 x.drop.site.w.lo, .int .i64 x.drop.site.w.hi, .int .i64 x.drop.site.serv, .int .i64 x.drop.more, .bool x.full]
theorem xcs_tl (b sl sp : Nat) (x : Srch) : xcs b sl sp x = .gptr b 0 :: xtl sl sp x := rfl
theorem nr_xtl (sl sp : Nat) (x : Srch) : nrBL 0 (xtl sl sp x) = true := by
  show (true && (true && (true && (true && (true && (true && (nrBLL 0 (x.legs.map rowL) && (nrBLL 0 (x.pre.map rowT) && _)))))))) = true
  rw [nrBLL_L, nrBLL_T]
  rfl
theorem c_insert_step (m : Mp) (hm : okMp m) (x : Srch) (sl sp : Nat) (s : Sta) {k : Nat} (hk : k ≤ 1000) (hs : okSta k s) (l : Leg) (hl : okLeg l) {r p b : Nat} {sto : List Ob} (hr : r ≤ sto.length) (hp : sto[p]? = some (mbox m)) (hb : sto[b]? = some (xbox p sl sp x)) (hne : p ≠ b) (hpr : p < r) (hbr : b < r) : Tri Try.prog 119 r [.gptr b 0, .agg (rowT s), .agg (rowL l)] sto (fun d k => d = stepD m x.d s l ∧ k = sto) :=
  (c_insert_step_0 m hm x sl sp s hk hs l hl).box2RO (nr_mcs m) (nr_xtl sl sp x) rfl rfl (fun d h => by subst h; exact ⟨rfl, rfl⟩) hr hp hb hne hpr hbr

noncomputable def walkS (m : Mp) (d : Drv) : List Leg → Sta × Bool → Sta × Bool
  | [], r => r
  | l :: ls, r => if r.2 = true then walkS m d ls (stepS m r.1 l, stepB m d r.1 l) else r
noncomputable def stepX (m : Mp) (d : Drv) (l : Leg) (r : Sta × Bool) : Sta × Bool := if r.2 = true then (stepS m r.1 l, stepB m d r.1 l) else r
noncomputable def endS (m : Mp) (x : Srch) (i j : Nat) : Sta × Bool :=
  walkS m x.d (x.legs.drop j) (stepX m x.d x.drop (walkS m x.d ((x.legs.drop i).take (j - i)) (stepS m (x.pre.getD i ⟨0, 0, 0, 0⟩) x.pick, stepB m x.d (x.pre.getD i ⟨0, 0, 0, 0⟩) x.pick)))
noncomputable def priceW (m : Mp) (x : Srch) (i j : Nat) : Int := (endS m x i j).1.way - (x.pre.getD x.legs.length ⟨0, 0, 0, 0⟩).way
noncomputable def priceB (m : Mp) (x : Srch) (i j : Nat) : Bool := (endS m x i j).2 && !x.full
structure okX (x : Srch) : Prop where
  len : x.legs.length ≤ 80
  pre : x.pre.length = x.legs.length + 1
  legs : ∀ l, l ∈ x.legs → okLeg l
  pick : okLeg x.pick
  drop : okLeg x.drop
  st : ∀ s, s ∈ x.pre → okSta 80 s
theorem walkS_off {m : Mp} {d : Drv} {ls : List Leg} {r : Sta × Bool} (h : r.2 = false) : walkS m d ls r = r := by
  cases ls with
  | nil => rfl
  | cons l ls =>
    unfold walkS
    rw [if_neg (by rw [h]; decide)]
theorem walkS_at {m : Mp} {d : Drv} {ls : List Leg} {s : Sta} {k : Nat} (h : k < ls.length) : walkS m d (ls.drop k) (s, true) = walkS m d (ls.drop (k + 1)) (stepS m s ls[k], stepB m d s ls[k]) := by
  rw [List.drop_eq_getElem_cons h]
  rfl
end Go.Lv

namespace Go.Lv
open Go.Proofs

theorem okSta.mono {k k' : Nat} {s : Sta} (h : okSta k s) (hk : k ≤ k') : okSta k' s := by
  obtain ⟨a1, a2, a3, a4, a5, a6⟩ := h
  constructor <;> omega
noncomputable def segL (x : Srch) (k j : Nat) : List Leg := (x.legs.drop k).take (j - k)
theorem seg_at {m : Mp} {x : Srch} {k j : Nat} {s : Sta} (h : k < j) (hj : j ≤ x.legs.length) : walkS m x.d (segL x k j) (s, true) = walkS m x.d (segL x (k + 1) j) (stepS m s (x.legs[k]'(by omega)), stepB m x.d s (x.legs[k]'(by omega))) := by
  unfold segL
  rw [List.drop_eq_getElem_cons (by omega), show j - k = (j - (k + 1)) + 1 by omega, List.take_succ_cons]
  rfl
theorem seg_end {x : Srch} {k : Nat} : segL x k k = [] := by
  unfold segL
  rw [Nat.sub_self, List.take_zero]
noncomputable def sPr (m : Mp) (x : Srch) (sl sp i j : Nat) (s : Sta) (ok : Bool) (k : Nat) : DS := ⟨[(0, .gptr 1 0), (1, .int .i64 (i : Int)), (2, .int .i64 (j : Int)), (6, .int .i64 0), (7, .bool false), (8, .lptr 8 0 0), (9, .bool ok), (10, .int .i64 (k : Int))], [(8, rowT s)], [mbox m, xbox 0 sl sp x], mR 2⟩
noncomputable def sPr2 (m : Mp) (x : Srch) (sl sp i j : Nat) (s : Sta) (ok : Bool) (k : Nat) : DS := ⟨[(0, .gptr 1 0), (1, .int .i64 (i : Int)), (2, .int .i64 (j : Int)), (6, .int .i64 0), (7, .bool false), (8, .lptr 8 0 0), (9, .bool ok), (11, .int .i64 (k : Int))], [(8, rowT s)], [mbox m, xbox 0 sl sp x], mR 2⟩
set_option maxHeartbeats 8000000 in
theorem c_insert_price_0 (m : Mp) (hm : okMp m) (x : Srch) (hx : okX x) (sl sp : Nat) (i j : Nat) (hij : i ≤ j) (hj : j ≤ x.legs.length) : Tri Try.prog 120 2 [.gptr 1 0, .int .i64 (i : Int), .int .i64 (j : Int)] [mbox m, xbox 0 sl sp x] (fun d k => d = .tup [.int .i64 (priceW m x i j), .bool (priceB m x i j)] ∧ k = [mbox m, xbox 0 sl sp x]) := by
  refine Tri.walk2 (L := LT) (c := {n := 110, ko := [6, 7]}) [] [0, 1, 2, 6, 7, 8, 9, 10, 11, 34, 50, 71] hLT hmix Try.func120 rfl rfl ⟨rfl, rfl⟩ (by show 3 ≤ 110; decide) (by first | exact Nat.zero_le _ | exact Nat.le_refl _ | exact Nat.le_succ 1 | decide) ?_
  have hlen := hx.len
  have hpre := hx.pre
  have hip : i < x.pre.length := by omega
  have hpn : x.legs.length < x.pre.length := by omega
  have hrowN : (x.pre.map rowT)[(((x.legs.map rowL).length : Nat) : Int).toNat]? = some (rowT x.pre[x.legs.length]) := by rw [List.length_map]; exact row_at _ hpn
  have hokn := hx.st x.pre[x.legs.length] (List.getElem_mem _)
  have hpw : ∀ s b, endS m x i j = (s, b) → okSta 400 s → IntKind.i64.wrap (s.way - (x.pre[x.legs.length]).way) = priceW m x i j := by
    intro s b h1 h2
    unfold priceW
    rw [h1, List.getD_eq_getElem?_getD, List.getElem?_eq_getElem hpn]
    exact wrap64 (by have := h2.w0; have := hokn.w1; show -9223372036854775808 ≤ s.way - _; omega) (by have := h2.w1; have := hokn.w0; show s.way - _ ≤ 9223372036854775807; omega)
  generalize x.pre[x.legs.length] = pn at hrowN hokn hpw
  refine (fun (hF : ∀ (s : Sta) (k : Nat), okSta 400 s ∧ endS m x i j = (s, false) → _) => by
    refine (fun (hT : ∀ (s : Sta) (k : Nat), okSta 180 s ∧ endS m x i j = walkS m x.d (x.legs.drop j) (stepX m x.d x.drop (s, true)) → _) => by
      have hs0 := stepS_ok hm (hx.st x.pre[i] (List.getElem_mem _)) hx.pick
      have hcl := c_insert_step m hm x sl sp x.pre[i] (k := 80) (by omega) (hx.st x.pre[i] (List.getElem_mem _)) x.pick hx.pick (r := 2) (p := 0) (b := 1) (sto := [mbox m, xbox 0 sl sp x]) (Nat.le_refl 2) rfl rfl (by decide) (by decide) (by decide)
      unfold stepD at hcl
      have hend : endS m x i j = walkS m x.d (x.legs.drop j) (stepX m x.d x.drop (walkS m x.d (segL x i j) (stepS m x.pre[i] x.pick, stepB m x.d x.pre[i] x.pick))) := by
        unfold endS segL
        rw [List.getD_eq_getElem?_getD, List.getElem?_eq_getElem hip]
        rfl
      have hrow : (x.pre.map rowT)[((i : Nat) : Int).toNat]? = some (rowT x.pre[i]) := row_at _ hip
      generalize x.pre[i] = pi at hcl hend hs0 hrow
      generalize stepS m pi x.pick = s0 at hcl hend hs0
      generalize stepB m x.d pi x.pick = b0 at hcl hend
      cases b0 with
      | false =>
        refine ⟨⟨393215, [0, 0, 2, 4, 8, 0, 48, 64, 0, 256, 512, 1024, 2177, 4096, 8192, 8192, 0, 98303, 262143], [1, 2, 6, 14, 30, 32, 126, 254, 256, 768, 1792, 3840, 8191, 16383, 32767, 49151, 65536, 229375, 524287]⟩, by kernel_rfl, ?_⟩
        refine ⟨_, _, rfl, by omega, hrow, rfl, of_decide_eq_true rfl, ?_⟩
        refine And.intro rfl ?_
        refine (fun (hrest : _) => And.intro (by
            refine ⟨rfl, (by first | exact Nat.zero_le _ | exact Nat.le_refl _ | exact Nat.le_succ 1 | decide), (hcl).mono ?_⟩
            rintro d l ⟨rfl, rfl⟩
            refine ⟨rfl, fun _ _ => rfl, rfl, ?_⟩
            refine And.intro (by repeat (first | exact trivial | refine And.intro ⟨rfl, rfl⟩ ?_ | refine And.intro ⟨_, _, rfl, by omega, (by assumption), rfl, of_decide_eq_true rfl, And.intro rfl (And.intro rfl rfl)⟩ ?_)) ?_
            refine And.intro (fun h => Bool.noConfusion h) (fun _ => ?_)
            refine And.intro ?_ trivial
            refine And.intro (by repeat (first | exact trivial | refine And.intro ⟨rfl, rfl⟩ ?_ | refine And.intro ⟨_, _, rfl, by omega, (by assumption), rfl, of_decide_eq_true rfl, And.intro rfl (And.intro rfl rfl)⟩ ?_)) ?_
            refine And.intro ?_ trivial
            refine And.intro (by repeat (first | exact trivial | refine And.intro ⟨rfl, rfl⟩ ?_ | refine And.intro ⟨_, _, rfl, by omega, (by assumption), rfl, of_decide_eq_true rfl, And.intro rfl (And.intro rfl rfl)⟩ ?_)) ?_
            refine And.intro ?_ trivial
            refine And.intro (by repeat (first | exact trivial | refine And.intro ⟨rfl, rfl⟩ ?_ | refine And.intro ⟨_, _, rfl, by omega, (by assumption), rfl, of_decide_eq_true rfl, And.intro rfl (And.intro rfl rfl)⟩ ?_)) ?_
            exact hrest) (And.intro (by
            refine And.intro (by repeat (first | exact trivial | refine And.intro ⟨rfl, rfl⟩ ?_ | refine And.intro ⟨_, _, rfl, by omega, (by assumption), rfl, of_decide_eq_true rfl, And.intro rfl (And.intro rfl rfl)⟩ ?_)) ?_
            refine And.intro ?_ trivial
            refine ⟨rfl, (by first | exact Nat.zero_le _ | exact Nat.le_refl _ | exact Nat.le_succ 1 | decide), (hcl).mono ?_⟩
            rintro d l ⟨rfl, rfl⟩
            refine ⟨rfl, fun _ _ => rfl, rfl, ?_⟩
            refine And.intro (by repeat (first | exact trivial | refine And.intro ⟨rfl, rfl⟩ ?_ | refine And.intro ⟨_, _, rfl, by omega, (by assumption), rfl, of_decide_eq_true rfl, And.intro rfl (And.intro rfl rfl)⟩ ?_)) ?_
            refine And.intro (fun h => Bool.noConfusion h) (fun _ => ?_)
            refine And.intro ?_ trivial
            refine And.intro (by repeat (first | exact trivial | refine And.intro ⟨rfl, rfl⟩ ?_ | refine And.intro ⟨_, _, rfl, by omega, (by assumption), rfl, of_decide_eq_true rfl, And.intro rfl (And.intro rfl rfl)⟩ ?_)) ?_
            refine And.intro ?_ trivial
            refine And.intro (by repeat (first | exact trivial | refine And.intro ⟨rfl, rfl⟩ ?_ | refine And.intro ⟨_, _, rfl, by omega, (by assumption), rfl, of_decide_eq_true rfl, And.intro rfl (And.intro rfl rfl)⟩ ?_)) ?_
            exact hrest) trivial)) ?_
        show Ok _ _ _ _ _
        refine Ok.loopN hLT hmix [] [0, 1, 2, 6, 7, 8, 9, 10, 11, 34, 50, 71] [0,1,2,6,7,8,9,10] [8] (fun n st => ∃ (s : Sta) (k : Nat), (okSta 400 s ∧ endS m x i j = (s, false)) ∧ st = sPr m x sl sp i j s false k) (n := 0) ⟨s0, i, ⟨hs0.mono (by omega), by rw [hend, walkS_off (r := (s0, false)) rfl, show stepX m x.d x.drop (s0, false) = (s0, false) from rfl, walkS_off rfl]⟩, rfl⟩ ?_
        rintro n st ⟨s, k, hs, rfl⟩
        refine And.intro (fun h1 => ?_) (fun h1 => ?_)
        · repeat (first | refine And.intro (fun _ => ?_) (fun h => Bool.noConfusion h) | refine And.intro (fun h => Bool.noConfusion h) (fun _ => ?_))
          exact hF s k hs
        · repeat (first | refine And.intro (fun _ => ?_) (fun h => Bool.noConfusion h) | refine And.intro (fun h => Bool.noConfusion h) (fun _ => ?_))
          exact hF s k hs
      | true =>
        refine ⟨⟨393215, [0, 0, 2, 4, 8, 0, 48, 64, 0, 256, 512, 1024, 2177, 4096, 8192, 8192, 0, 98303, 262143], [1, 2, 6, 14, 30, 32, 126, 254, 256, 768, 1792, 3840, 8191, 16383, 32767, 49151, 65536, 229375, 524287]⟩, by kernel_rfl, ?_⟩
        refine ⟨_, _, rfl, by omega, hrow, rfl, of_decide_eq_true rfl, ?_⟩
        refine And.intro rfl ?_
        refine (fun (hrest : _) => And.intro (by
            refine ⟨rfl, (by first | exact Nat.zero_le _ | exact Nat.le_refl _ | exact Nat.le_succ 1 | decide), (hcl).mono ?_⟩
            rintro d l ⟨rfl, rfl⟩
            refine ⟨rfl, fun _ _ => rfl, rfl, ?_⟩
            refine And.intro (by repeat (first | exact trivial | refine And.intro ⟨rfl, rfl⟩ ?_ | refine And.intro ⟨_, _, rfl, by omega, (by assumption), rfl, of_decide_eq_true rfl, And.intro rfl (And.intro rfl rfl)⟩ ?_)) ?_
            refine And.intro (fun _ => ?_) (fun h => Bool.noConfusion h)
            refine And.intro ?_ trivial
            refine And.intro (by repeat (first | exact trivial | refine And.intro ⟨rfl, rfl⟩ ?_ | refine And.intro ⟨_, _, rfl, by omega, (by assumption), rfl, of_decide_eq_true rfl, And.intro rfl (And.intro rfl rfl)⟩ ?_)) ?_
            refine And.intro ?_ trivial
            refine And.intro (by repeat (first | exact trivial | refine And.intro ⟨rfl, rfl⟩ ?_ | refine And.intro ⟨_, _, rfl, by omega, (by assumption), rfl, of_decide_eq_true rfl, And.intro rfl (And.intro rfl rfl)⟩ ?_)) ?_
            refine And.intro ?_ trivial
            refine And.intro (by repeat (first | exact trivial | refine And.intro ⟨rfl, rfl⟩ ?_ | refine And.intro ⟨_, _, rfl, by omega, (by assumption), rfl, of_decide_eq_true rfl, And.intro rfl (And.intro rfl rfl)⟩ ?_)) ?_
            exact hrest) (And.intro (by
            refine And.intro (by repeat (first | exact trivial | refine And.intro ⟨rfl, rfl⟩ ?_ | refine And.intro ⟨_, _, rfl, by omega, (by assumption), rfl, of_decide_eq_true rfl, And.intro rfl (And.intro rfl rfl)⟩ ?_)) ?_
            refine And.intro ?_ trivial
            refine ⟨rfl, (by first | exact Nat.zero_le _ | exact Nat.le_refl _ | exact Nat.le_succ 1 | decide), (hcl).mono ?_⟩
            rintro d l ⟨rfl, rfl⟩
            refine ⟨rfl, fun _ _ => rfl, rfl, ?_⟩
            refine And.intro (by repeat (first | exact trivial | refine And.intro ⟨rfl, rfl⟩ ?_ | refine And.intro ⟨_, _, rfl, by omega, (by assumption), rfl, of_decide_eq_true rfl, And.intro rfl (And.intro rfl rfl)⟩ ?_)) ?_
            refine And.intro (fun _ => ?_) (fun h => Bool.noConfusion h)
            refine And.intro ?_ trivial
            refine And.intro (by repeat (first | exact trivial | refine And.intro ⟨rfl, rfl⟩ ?_ | refine And.intro ⟨_, _, rfl, by omega, (by assumption), rfl, of_decide_eq_true rfl, And.intro rfl (And.intro rfl rfl)⟩ ?_)) ?_
            refine And.intro ?_ trivial
            refine And.intro (by repeat (first | exact trivial | refine And.intro ⟨rfl, rfl⟩ ?_ | refine And.intro ⟨_, _, rfl, by omega, (by assumption), rfl, of_decide_eq_true rfl, And.intro rfl (And.intro rfl rfl)⟩ ?_)) ?_
            exact hrest) trivial)) ?_
        show Ok _ _ _ _ _
        refine Ok.loopN hLT hmix [] [0, 1, 2, 6, 7, 8, 9, 10, 11, 34, 50, 71] [0,1,2,6,7,8,9,10] [8] (fun n st => ∃ (s : Sta) (ok : Bool) (k : Nat), n = j - k ∧ i ≤ k ∧ k ≤ j ∧ okSta (81 + (k - i)) s ∧ endS m x i j = walkS m x.d (x.legs.drop j) (stepX m x.d x.drop (walkS m x.d (segL x k j) (s, ok))) ∧ st = sPr m x sl sp i j s ok k) (n := (j - i)) ⟨s0, true, i, rfl, Nat.le_refl _, hij, by rw [Nat.sub_self]; exact hs0, hend, rfl⟩ ?_
        rintro n st ⟨s, ok, k, rfl, hik, hkj, hs, he, rfl⟩
        cases ok with
        | false =>
          have hs2 : okSta 400 s ∧ endS m x i j = (s, false) := ⟨hs.mono (by omega), by rw [he, walkS_off (r := (s, false)) rfl, show stepX m x.d x.drop (s, false) = (s, false) from rfl, walkS_off rfl]⟩
          clear he hs hik hkj
          refine And.intro (fun h1 => ?_) (fun h1 => ?_)
          · repeat (first | refine And.intro (fun _ => ?_) (fun h => Bool.noConfusion h) | refine And.intro (fun h => Bool.noConfusion h) (fun _ => ?_))
            exact hF s k hs2
          · repeat (first | refine And.intro (fun _ => ?_) (fun h => Bool.noConfusion h) | refine And.intro (fun h => Bool.noConfusion h) (fun _ => ?_))
            exact hF s k hs2
        | true =>
          refine And.intro (fun h1 => ?_) (fun h1 => ?_)
          rotate_left
          · have h1 : ¬ ((k : Nat) : Int) < (j : Int) := of_decide_eq_false h1
            have hkj2 : k = j := by omega
            have hs2 : okSta 180 s ∧ endS m x i j = walkS m x.d (x.legs.drop j) (stepX m x.d x.drop (s, true)) := ⟨hs.mono (by omega), by rw [he, hkj2, seg_end]; rfl⟩
            repeat (first | refine And.intro (fun _ => ?_) (fun h => Bool.noConfusion h) | refine And.intro (fun h => Bool.noConfusion h) (fun _ => ?_))
            exact hT s k hs2
          have h1 : ((k : Nat) : Int) < (j : Int) := of_decide_eq_true h1
          repeat (first | refine And.intro (fun _ => ?_) (fun h => Bool.noConfusion h) | refine And.intro (fun h => Bool.noConfusion h) (fun _ => ?_))
          have hkl : k < x.legs.length := by omega
          have hw := wrap_succ (i := k) (n := j) (by omega) (by omega)
          rw [seg_at (by omega) hj] at he
          have hrowL : (x.legs.map rowL)[((k : Nat) : Int).toNat]? = some (rowL x.legs[k]) := row_at _ hkl
          have hs1 := stepS_ok hm hs (hx.legs x.legs[k] (List.getElem_mem _))
          have hc1 := c_insert_step m hm x sl sp s (k := 81 + (k - i)) (by omega) hs x.legs[k] (hx.legs x.legs[k] (List.getElem_mem _)) (r := 2) (p := 0) (b := 1) (sto := [mbox m, xbox 0 sl sp x]) (Nat.le_refl 2) rfl rfl (by decide) (by decide) (by decide)
          unfold stepD at hc1
          generalize x.legs[k] = lg at hc1 he hs1 hrowL
          generalize stepS m s lg = s1 at hc1 he hs1
          generalize stepB m x.d s lg = b1 at hc1 he
          cases b1 with
          | true =>
            refine ⟨⟨24575, [0, 0, 0, 4, 8, 16, 0, 96, 128, 259, 512, 1024, 1024, 4095, 16383], [1, 2, 4, 12, 28, 60, 64, 252, 508, 1023, 2047, 4095, 6143, 12287, 32767]⟩, by kernel_rfl, ?_⟩
            refine ⟨_, _, rfl, by omega, hrowL, rfl, of_decide_eq_true rfl, ?_⟩
            refine And.intro rfl ?_
            refine And.intro ?_ trivial
            refine ⟨rfl, (by first | exact Nat.zero_le _ | exact Nat.le_refl _ | exact Nat.le_succ 1 | decide), (hc1).mono ?_⟩
            rintro d l ⟨rfl, rfl⟩
            refine ⟨rfl, fun _ _ => rfl, rfl, ?_⟩
            refine And.intro (by repeat (first | exact trivial | refine And.intro ⟨rfl, rfl⟩ ?_ | refine And.intro ⟨_, _, rfl, by omega, (by assumption), rfl, of_decide_eq_true rfl, And.intro rfl (And.intro rfl rfl)⟩ ?_)) ?_
            refine And.intro (fun _ => ?_) (fun h => Bool.noConfusion h)
            refine And.intro ?_ trivial
            refine And.intro (by repeat (first | exact trivial | refine And.intro ⟨rfl, rfl⟩ ?_ | refine And.intro ⟨_, _, rfl, by omega, (by assumption), rfl, of_decide_eq_true rfl, And.intro rfl (And.intro rfl rfl)⟩ ?_)) ?_
            refine And.intro ?_ trivial
            refine And.intro (by repeat (first | exact trivial | refine And.intro ⟨rfl, rfl⟩ ?_ | refine And.intro ⟨_, _, rfl, by omega, (by assumption), rfl, of_decide_eq_true rfl, And.intro rfl (And.intro rfl rfl)⟩ ?_)) ?_
            refine ⟨j - (k + 1), by omega, s1, true, k + 1, rfl, by omega, by omega, hs1.mono (by omega), he, ?_⟩
            unfold sPr
            rw [← hw]
            rfl
          | false =>
            refine ⟨⟨24575, [0, 0, 0, 4, 8, 16, 0, 96, 128, 259, 512, 1024, 1024, 4095, 16383], [1, 2, 4, 12, 28, 60, 64, 252, 508, 1023, 2047, 4095, 6143, 12287, 32767]⟩, by kernel_rfl, ?_⟩
            refine ⟨_, _, rfl, by omega, hrowL, rfl, of_decide_eq_true rfl, ?_⟩
            refine And.intro rfl ?_
            refine And.intro ?_ trivial
            refine ⟨rfl, (by first | exact Nat.zero_le _ | exact Nat.le_refl _ | exact Nat.le_succ 1 | decide), (hc1).mono ?_⟩
            rintro d l ⟨rfl, rfl⟩
            refine ⟨rfl, fun _ _ => rfl, rfl, ?_⟩
            refine And.intro (by repeat (first | exact trivial | refine And.intro ⟨rfl, rfl⟩ ?_ | refine And.intro ⟨_, _, rfl, by omega, (by assumption), rfl, of_decide_eq_true rfl, And.intro rfl (And.intro rfl rfl)⟩ ?_)) ?_
            refine And.intro (fun h => Bool.noConfusion h) (fun _ => ?_)
            refine And.intro ?_ trivial
            refine And.intro (by repeat (first | exact trivial | refine And.intro ⟨rfl, rfl⟩ ?_ | refine And.intro ⟨_, _, rfl, by omega, (by assumption), rfl, of_decide_eq_true rfl, And.intro rfl (And.intro rfl rfl)⟩ ?_)) ?_
            refine And.intro ?_ trivial
            refine And.intro (by repeat (first | exact trivial | refine And.intro ⟨rfl, rfl⟩ ?_ | refine And.intro ⟨_, _, rfl, by omega, (by assumption), rfl, of_decide_eq_true rfl, And.intro rfl (And.intro rfl rfl)⟩ ?_)) ?_
            refine ⟨j - (k + 1), by omega, s1, false, k + 1, rfl, by omega, by omega, hs1.mono (by omega), he, ?_⟩
            unfold sPr
            rw [← hw]
            rfl) ?_
    rintro s k ⟨hs, he⟩
    have hs1 := stepS_ok hm hs hx.drop
    have hc1 := c_insert_step m hm x sl sp s (k := 180) (by omega) hs x.drop hx.drop (r := 2) (p := 0) (b := 1) (sto := [mbox m, xbox 0 sl sp x]) (Nat.le_refl 2) rfl rfl (by decide) (by decide) (by decide)
    unfold stepD at hc1
    unfold stepX at he
    rw [if_pos rfl] at he
    replace he : endS m x i j = walkS m x.d (x.legs.drop j) (stepS m s x.drop, stepB m x.d s x.drop) := he
    generalize stepS m s x.drop = s1 at hc1 he hs1
    generalize stepB m x.d s x.drop = b1 at hc1 he
    cases b1 with
    | false =>
      repeat (first | refine And.intro (fun _ => ?_) (fun h => Bool.noConfusion h) | refine And.intro (fun h => Bool.noConfusion h) (fun _ => ?_))
      refine ⟨⟨3071, [0, 0, 0, 4, 8, 16, 35, 64, 128, 128, 511, 2047], [1, 2, 4, 12, 28, 60, 127, 255, 511, 767, 1535, 4095]⟩, by kernel_rfl, ?_⟩
      refine And.intro ?_ trivial
      refine ⟨rfl, (by first | exact Nat.zero_le _ | exact Nat.le_refl _ | exact Nat.le_succ 1 | decide), (hc1).mono ?_⟩
      rintro d l ⟨rfl, rfl⟩
      refine ⟨rfl, fun _ _ => rfl, rfl, ?_⟩
      refine And.intro (by repeat (first | exact trivial | refine And.intro ⟨rfl, rfl⟩ ?_ | refine And.intro ⟨_, _, rfl, by omega, (by assumption), rfl, of_decide_eq_true rfl, And.intro rfl (And.intro rfl rfl)⟩ ?_)) ?_
      refine And.intro (fun h => Bool.noConfusion h) (fun _ => ?_)
      refine And.intro ?_ trivial
      refine And.intro (by repeat (first | exact trivial | refine And.intro ⟨rfl, rfl⟩ ?_ | refine And.intro ⟨_, _, rfl, by omega, (by assumption), rfl, of_decide_eq_true rfl, And.intro rfl (And.intro rfl rfl)⟩ ?_)) ?_
      refine And.intro ?_ trivial
      refine And.intro (by repeat (first | exact trivial | refine And.intro ⟨rfl, rfl⟩ ?_ | refine And.intro ⟨_, _, rfl, by omega, (by assumption), rfl, of_decide_eq_true rfl, And.intro rfl (And.intro rfl rfl)⟩ ?_)) ?_
      have hsf : okSta 400 s1 ∧ endS m x i j = (s1, false) := ⟨hs1.mono (by omega), by rw [he, walkS_off rfl]⟩
      show Ok _ _ _ _ _
      refine Ok.loopN hLT hmix [] [0, 1, 2, 6, 7, 8, 9, 10, 11, 34, 50, 71] [0,1,2,6,7,8,9,11] [8] (fun n st => st = sPr2 m x sl sp i j s1 false j) (n := 0) rfl ?_
      rintro n st rfl
      refine And.intro (fun h1 => ?_) (fun h1 => ?_)
      · repeat (first | refine And.intro (fun _ => ?_) (fun h => Bool.noConfusion h) | refine And.intro (fun h => Bool.noConfusion h) (fun _ => ?_))
        refine ⟨⟨33554431, [0, 1, 0, 4, 8, 16, 0, 64, 128, 256, 512, 1056, 2048, 4096, 8194, 0, 32768, 65536, 196608, 327680, 589824, 1114112, 2162688, 98303, 16777215], [1, 3, 4, 12, 28, 60, 64, 192, 448, 960, 1984, 4092, 8188, 16380, 32767, 32768, 98304, 229376, 491520, 1015808, 2064384, 4161536, 8355840, 8519679, 33554431]⟩, by kernel_rfl, ?_⟩
        refine ⟨_, _, rfl, by omega, hrowN, rfl, of_decide_eq_true rfl, ?_⟩
        refine And.intro rfl ?_
        refine And.intro (fun h => Bool.noConfusion h) (fun _ => ?_)
        refine And.intro (fun h => Bool.noConfusion h) (fun _ => ?_)
        refine And.intro (fun h => Bool.noConfusion h) (fun _ => ?_)
        refine And.intro ?_ trivial
        refine And.intro (by repeat (first | exact trivial | refine And.intro ⟨rfl, rfl⟩ ?_ | refine And.intro ⟨_, _, rfl, by omega, (by assumption), rfl, of_decide_eq_true rfl, And.intro rfl (And.intro rfl rfl)⟩ ?_)) ?_
        refine And.intro ?_ trivial
        refine And.intro (by repeat (first | exact trivial | refine And.intro ⟨rfl, rfl⟩ ?_ | refine And.intro ⟨_, _, rfl, by omega, (by assumption), rfl, of_decide_eq_true rfl, And.intro rfl (And.intro rfl rfl)⟩ ?_)) ?_
        rw [← hpw _ false hsf.2 hsf.1, show priceB m x i j = false by unfold priceB; rw [hsf.2]; rfl]
        exact And.intro rfl rfl
      · repeat (first | refine And.intro (fun _ => ?_) (fun h => Bool.noConfusion h) | refine And.intro (fun h => Bool.noConfusion h) (fun _ => ?_))
        refine ⟨⟨33554431, [0, 1, 0, 4, 8, 16, 0, 64, 128, 256, 512, 1056, 2048, 4096, 8194, 0, 32768, 65536, 196608, 327680, 589824, 1114112, 2162688, 98303, 16777215], [1, 3, 4, 12, 28, 60, 64, 192, 448, 960, 1984, 4092, 8188, 16380, 32767, 32768, 98304, 229376, 491520, 1015808, 2064384, 4161536, 8355840, 8519679, 33554431]⟩, by kernel_rfl, ?_⟩
        refine ⟨_, _, rfl, by omega, hrowN, rfl, of_decide_eq_true rfl, ?_⟩
        refine And.intro rfl ?_
        refine And.intro (fun h => Bool.noConfusion h) (fun _ => ?_)
        refine And.intro (fun h => Bool.noConfusion h) (fun _ => ?_)
        refine And.intro (fun h => Bool.noConfusion h) (fun _ => ?_)
        refine And.intro ?_ trivial
        refine And.intro (by repeat (first | exact trivial | refine And.intro ⟨rfl, rfl⟩ ?_ | refine And.intro ⟨_, _, rfl, by omega, (by assumption), rfl, of_decide_eq_true rfl, And.intro rfl (And.intro rfl rfl)⟩ ?_)) ?_
        refine And.intro ?_ trivial
        refine And.intro (by repeat (first | exact trivial | refine And.intro ⟨rfl, rfl⟩ ?_ | refine And.intro ⟨_, _, rfl, by omega, (by assumption), rfl, of_decide_eq_true rfl, And.intro rfl (And.intro rfl rfl)⟩ ?_)) ?_
        rw [← hpw _ false hsf.2 hsf.1, show priceB m x i j = false by unfold priceB; rw [hsf.2]; rfl]
        exact And.intro rfl rfl
    | true =>
      repeat (first | refine And.intro (fun _ => ?_) (fun h => Bool.noConfusion h) | refine And.intro (fun h => Bool.noConfusion h) (fun _ => ?_))
      refine ⟨⟨3071, [0, 0, 0, 4, 8, 16, 35, 64, 128, 128, 511, 2047], [1, 2, 4, 12, 28, 60, 127, 255, 511, 767, 1535, 4095]⟩, by kernel_rfl, ?_⟩
      refine And.intro ?_ trivial
      refine ⟨rfl, (by first | exact Nat.zero_le _ | exact Nat.le_refl _ | exact Nat.le_succ 1 | decide), (hc1).mono ?_⟩
      rintro d l ⟨rfl, rfl⟩
      refine ⟨rfl, fun _ _ => rfl, rfl, ?_⟩
      refine And.intro (by repeat (first | exact trivial | refine And.intro ⟨rfl, rfl⟩ ?_ | refine And.intro ⟨_, _, rfl, by omega, (by assumption), rfl, of_decide_eq_true rfl, And.intro rfl (And.intro rfl rfl)⟩ ?_)) ?_
      refine And.intro (fun _ => ?_) (fun h => Bool.noConfusion h)
      refine And.intro ?_ trivial
      refine And.intro (by repeat (first | exact trivial | refine And.intro ⟨rfl, rfl⟩ ?_ | refine And.intro ⟨_, _, rfl, by omega, (by assumption), rfl, of_decide_eq_true rfl, And.intro rfl (And.intro rfl rfl)⟩ ?_)) ?_
      refine And.intro ?_ trivial
      refine And.intro (by repeat (first | exact trivial | refine And.intro ⟨rfl, rfl⟩ ?_ | refine And.intro ⟨_, _, rfl, by omega, (by assumption), rfl, of_decide_eq_true rfl, And.intro rfl (And.intro rfl rfl)⟩ ?_)) ?_
      show Ok _ _ _ _ _
      refine Ok.loopN hLT hmix [] [0, 1, 2, 6, 7, 8, 9, 10, 11, 34, 50, 71] [0,1,2,6,7,8,9,11] [8] (fun n st => ∃ (s : Sta) (ok : Bool) (k : Nat), n = x.legs.length - k ∧ j ≤ k ∧ k ≤ x.legs.length ∧ okSta (181 + (k - j)) s ∧ endS m x i j = walkS m x.d (x.legs.drop k) (s, ok) ∧ st = sPr2 m x sl sp i j s ok k) (n := (x.legs.length - j)) ⟨s1, true, j, rfl, Nat.le_refl _, hj, hs1.mono (by omega), he, rfl⟩ ?_
      clear hs1 hc1 he hs
      rintro n st ⟨s, ok, k, rfl, hjk, hkl, hs, he, rfl⟩
      cases ok with
      | false =>
        have hsf : okSta 400 s ∧ endS m x i j = (s, false) := ⟨hs.mono (by omega), by rw [he, walkS_off rfl]⟩
        refine And.intro (fun h1 => ?_) (fun h1 => ?_)
        · repeat (first | refine And.intro (fun _ => ?_) (fun h => Bool.noConfusion h) | refine And.intro (fun h => Bool.noConfusion h) (fun _ => ?_))
          refine ⟨⟨33554431, [0, 1, 0, 4, 8, 16, 0, 64, 128, 256, 512, 1056, 2048, 4096, 8194, 0, 32768, 65536, 196608, 327680, 589824, 1114112, 2162688, 98303, 16777215], [1, 3, 4, 12, 28, 60, 64, 192, 448, 960, 1984, 4092, 8188, 16380, 32767, 32768, 98304, 229376, 491520, 1015808, 2064384, 4161536, 8355840, 8519679, 33554431]⟩, by kernel_rfl, ?_⟩
          refine ⟨_, _, rfl, by omega, hrowN, rfl, of_decide_eq_true rfl, ?_⟩
          refine And.intro rfl ?_
          refine And.intro (fun h => Bool.noConfusion h) (fun _ => ?_)
          refine And.intro (fun h => Bool.noConfusion h) (fun _ => ?_)
          refine And.intro (fun h => Bool.noConfusion h) (fun _ => ?_)
          refine And.intro ?_ trivial
          refine And.intro (by repeat (first | exact trivial | refine And.intro ⟨rfl, rfl⟩ ?_ | refine And.intro ⟨_, _, rfl, by omega, (by assumption), rfl, of_decide_eq_true rfl, And.intro rfl (And.intro rfl rfl)⟩ ?_)) ?_
          refine And.intro ?_ trivial
          refine And.intro (by repeat (first | exact trivial | refine And.intro ⟨rfl, rfl⟩ ?_ | refine And.intro ⟨_, _, rfl, by omega, (by assumption), rfl, of_decide_eq_true rfl, And.intro rfl (And.intro rfl rfl)⟩ ?_)) ?_
          rw [← hpw _ false hsf.2 hsf.1, show priceB m x i j = false by unfold priceB; rw [hsf.2]; rfl]
          exact And.intro rfl rfl
        · repeat (first | refine And.intro (fun _ => ?_) (fun h => Bool.noConfusion h) | refine And.intro (fun h => Bool.noConfusion h) (fun _ => ?_))
          refine ⟨⟨33554431, [0, 1, 0, 4, 8, 16, 0, 64, 128, 256, 512, 1056, 2048, 4096, 8194, 0, 32768, 65536, 196608, 327680, 589824, 1114112, 2162688, 98303, 16777215], [1, 3, 4, 12, 28, 60, 64, 192, 448, 960, 1984, 4092, 8188, 16380, 32767, 32768, 98304, 229376, 491520, 1015808, 2064384, 4161536, 8355840, 8519679, 33554431]⟩, by kernel_rfl, ?_⟩
          refine ⟨_, _, rfl, by omega, hrowN, rfl, of_decide_eq_true rfl, ?_⟩
          refine And.intro rfl ?_
          refine And.intro (fun h => Bool.noConfusion h) (fun _ => ?_)
          refine And.intro (fun h => Bool.noConfusion h) (fun _ => ?_)
          refine And.intro (fun h => Bool.noConfusion h) (fun _ => ?_)
          refine And.intro ?_ trivial
          refine And.intro (by repeat (first | exact trivial | refine And.intro ⟨rfl, rfl⟩ ?_ | refine And.intro ⟨_, _, rfl, by omega, (by assumption), rfl, of_decide_eq_true rfl, And.intro rfl (And.intro rfl rfl)⟩ ?_)) ?_
          refine And.intro ?_ trivial
          refine And.intro (by repeat (first | exact trivial | refine And.intro ⟨rfl, rfl⟩ ?_ | refine And.intro ⟨_, _, rfl, by omega, (by assumption), rfl, of_decide_eq_true rfl, And.intro rfl (And.intro rfl rfl)⟩ ?_)) ?_
          rw [← hpw _ false hsf.2 hsf.1, show priceB m x i j = false by unfold priceB; rw [hsf.2]; rfl]
          exact And.intro rfl rfl
      | true =>
        refine And.intro (fun h1 => ?_) (fun h1 => ?_)
        rotate_left
        · have h1 : ¬ ((k : Nat) : Int) < ((x.legs.map rowL).length : Int) := of_decide_eq_false h1
          rw [List.length_map] at h1
          have hst : okSta 400 s ∧ endS m x i j = (s, true) := ⟨hs.mono (by omega), by rw [he, List.drop_eq_nil_of_le (by omega)]; rfl⟩
          repeat (first | refine And.intro (fun _ => ?_) (fun h => Bool.noConfusion h) | refine And.intro (fun h => Bool.noConfusion h) (fun _ => ?_))
          refine ⟨⟨33554431, [0, 1, 0, 4, 8, 16, 0, 64, 128, 256, 512, 1056, 2048, 4096, 8194, 0, 32768, 65536, 196608, 327680, 589824, 1114112, 2162688, 98303, 16777215], [1, 3, 4, 12, 28, 60, 64, 192, 448, 960, 1984, 4092, 8188, 16380, 32767, 32768, 98304, 229376, 491520, 1015808, 2064384, 4161536, 8355840, 8519679, 33554431]⟩, by kernel_rfl, ?_⟩
          refine ⟨_, _, rfl, by omega, hrowN, rfl, of_decide_eq_true rfl, ?_⟩
          refine And.intro rfl ?_
          refine And.intro (fun _ => ?_) (fun h => Bool.noConfusion h)
          refine And.intro (fun _ => ?_) (fun h => Bool.noConfusion h)
          refine And.intro (fun hfu => ?_) (fun hfu => ?_)
          · refine And.intro (fun h => Bool.noConfusion h) (fun _ => ?_)
            refine And.intro (fun h => Bool.noConfusion h) (fun _ => ?_)
            refine And.intro ?_ trivial
            refine And.intro (by repeat (first | exact trivial | refine And.intro ⟨rfl, rfl⟩ ?_ | refine And.intro ⟨_, _, rfl, by omega, (by assumption), rfl, of_decide_eq_true rfl, And.intro rfl (And.intro rfl rfl)⟩ ?_)) ?_
            refine And.intro ?_ trivial
            refine And.intro (by repeat (first | exact trivial | refine And.intro ⟨rfl, rfl⟩ ?_ | refine And.intro ⟨_, _, rfl, by omega, (by assumption), rfl, of_decide_eq_true rfl, And.intro rfl (And.intro rfl rfl)⟩ ?_)) ?_
            rw [← hpw _ true hst.2 hst.1, show priceB m x i j = false by unfold priceB; rw [hst.2, hfu]; rfl]
            exact And.intro rfl rfl
          · refine And.intro (fun _ => ?_) (fun h => Bool.noConfusion h)
            refine And.intro (fun _ => ?_) (fun h => Bool.noConfusion h)
            refine And.intro ?_ trivial
            refine And.intro (by repeat (first | exact trivial | refine And.intro ⟨rfl, rfl⟩ ?_ | refine And.intro ⟨_, _, rfl, by omega, (by assumption), rfl, of_decide_eq_true rfl, And.intro rfl (And.intro rfl rfl)⟩ ?_)) ?_
            refine And.intro ?_ trivial
            refine And.intro (by repeat (first | exact trivial | refine And.intro ⟨rfl, rfl⟩ ?_ | refine And.intro ⟨_, _, rfl, by omega, (by assumption), rfl, of_decide_eq_true rfl, And.intro rfl (And.intro rfl rfl)⟩ ?_)) ?_
            rw [← hpw _ true hst.2 hst.1, show priceB m x i j = true by unfold priceB; rw [hst.2, hfu]; rfl]
            exact And.intro rfl rfl
        have h1 : ((k : Nat) : Int) < ((x.legs.map rowL).length : Int) := of_decide_eq_true h1
        rw [List.length_map] at h1
        repeat (first | refine And.intro (fun _ => ?_) (fun h => Bool.noConfusion h) | refine And.intro (fun h => Bool.noConfusion h) (fun _ => ?_))
        have hkl : k < x.legs.length := by omega
        have hw := wrap_succ (i := k) (n := x.legs.length) (by omega) (by omega)
        rw [walkS_at hkl] at he
        have hrowL : (x.legs.map rowL)[((k : Nat) : Int).toNat]? = some (rowL x.legs[k]) := row_at _ hkl
        have hs1 := stepS_ok hm hs (hx.legs x.legs[k] (List.getElem_mem _))
        have hc1 := c_insert_step m hm x sl sp s (k := 181 + (k - j)) (by omega) hs x.legs[k] (hx.legs x.legs[k] (List.getElem_mem _)) (r := 2) (p := 0) (b := 1) (sto := [mbox m, xbox 0 sl sp x]) (Nat.le_refl 2) rfl rfl (by decide) (by decide) (by decide)
        unfold stepD at hc1
        generalize x.legs[k] = lg at hc1 he hs1 hrowL
        generalize stepS m s lg = s1 at hc1 he hs1
        generalize stepB m x.d s lg = b1 at hc1 he
        cases b1 with
        | true =>
          refine ⟨⟨24575, [0, 0, 0, 4, 8, 16, 0, 96, 128, 259, 512, 1024, 1024, 4095, 16383], [1, 2, 4, 12, 28, 60, 64, 252, 508, 1023, 2047, 4095, 6143, 12287, 32767]⟩, by kernel_rfl, ?_⟩
          refine ⟨_, _, rfl, by omega, hrowL, rfl, of_decide_eq_true rfl, ?_⟩
          refine And.intro rfl ?_
          refine And.intro ?_ trivial
          refine ⟨rfl, (by first | exact Nat.zero_le _ | exact Nat.le_refl _ | exact Nat.le_succ 1 | decide), (hc1).mono ?_⟩
          rintro d l ⟨rfl, rfl⟩
          refine ⟨rfl, fun _ _ => rfl, rfl, ?_⟩
          refine And.intro (by repeat (first | exact trivial | refine And.intro ⟨rfl, rfl⟩ ?_ | refine And.intro ⟨_, _, rfl, by omega, (by assumption), rfl, of_decide_eq_true rfl, And.intro rfl (And.intro rfl rfl)⟩ ?_)) ?_
          refine And.intro (fun _ => ?_) (fun h => Bool.noConfusion h)
          refine And.intro ?_ trivial
          refine And.intro (by repeat (first | exact trivial | refine And.intro ⟨rfl, rfl⟩ ?_ | refine And.intro ⟨_, _, rfl, by omega, (by assumption), rfl, of_decide_eq_true rfl, And.intro rfl (And.intro rfl rfl)⟩ ?_)) ?_
          refine And.intro ?_ trivial
          refine And.intro (by repeat (first | exact trivial | refine And.intro ⟨rfl, rfl⟩ ?_ | refine And.intro ⟨_, _, rfl, by omega, (by assumption), rfl, of_decide_eq_true rfl, And.intro rfl (And.intro rfl rfl)⟩ ?_)) ?_
          refine ⟨x.legs.length - (k + 1), by omega, s1, true, k + 1, rfl, by omega, by omega, hs1.mono (by omega), he, ?_⟩
          unfold sPr2
          rw [← hw]
          rfl
        | false =>
          refine ⟨⟨24575, [0, 0, 0, 4, 8, 16, 0, 96, 128, 259, 512, 1024, 1024, 4095, 16383], [1, 2, 4, 12, 28, 60, 64, 252, 508, 1023, 2047, 4095, 6143, 12287, 32767]⟩, by kernel_rfl, ?_⟩
          refine ⟨_, _, rfl, by omega, hrowL, rfl, of_decide_eq_true rfl, ?_⟩
          refine And.intro rfl ?_
          refine And.intro ?_ trivial
          refine ⟨rfl, (by first | exact Nat.zero_le _ | exact Nat.le_refl _ | exact Nat.le_succ 1 | decide), (hc1).mono ?_⟩
          rintro d l ⟨rfl, rfl⟩
          refine ⟨rfl, fun _ _ => rfl, rfl, ?_⟩
          refine And.intro (by repeat (first | exact trivial | refine And.intro ⟨rfl, rfl⟩ ?_ | refine And.intro ⟨_, _, rfl, by omega, (by assumption), rfl, of_decide_eq_true rfl, And.intro rfl (And.intro rfl rfl)⟩ ?_)) ?_
          refine And.intro (fun h => Bool.noConfusion h) (fun _ => ?_)
          refine And.intro ?_ trivial
          refine And.intro (by repeat (first | exact trivial | refine And.intro ⟨rfl, rfl⟩ ?_ | refine And.intro ⟨_, _, rfl, by omega, (by assumption), rfl, of_decide_eq_true rfl, And.intro rfl (And.intro rfl rfl)⟩ ?_)) ?_
          refine And.intro ?_ trivial
          refine And.intro (by repeat (first | exact trivial | refine And.intro ⟨rfl, rfl⟩ ?_ | refine And.intro ⟨_, _, rfl, by omega, (by assumption), rfl, of_decide_eq_true rfl, And.intro rfl (And.intro rfl rfl)⟩ ?_)) ?_
          refine ⟨x.legs.length - (k + 1), by omega, s1, false, k + 1, rfl, by omega, by omega, hs1.mono (by omega), he, ?_⟩
          unfold sPr2
          rw [← hw]
          rfl) ?_
  rintro s k hs
  repeat (first | refine And.intro (fun _ => ?_) (fun h => Bool.noConfusion h) | refine And.intro (fun h => Bool.noConfusion h) (fun _ => ?_))
  show Ok _ _ _ _ _
  refine Ok.loopN hLT hmix [] [0, 1, 2, 6, 7, 8, 9, 10, 11, 34, 50, 71] [0,1,2,6,7,8,9,11] [8] (fun n st => st = sPr2 m x sl sp i j s false j) (n := 0) rfl ?_
  rintro n st rfl
  refine And.intro (fun h1 => ?_) (fun h1 => ?_)
  · repeat (first | refine And.intro (fun _ => ?_) (fun h => Bool.noConfusion h) | refine And.intro (fun h => Bool.noConfusion h) (fun _ => ?_))
    refine ⟨⟨33554431, [0, 1, 0, 4, 8, 16, 0, 64, 128, 256, 512, 1056, 2048, 4096, 8194, 0, 32768, 65536, 196608, 327680, 589824, 1114112, 2162688, 98303, 16777215], [1, 3, 4, 12, 28, 60, 64, 192, 448, 960, 1984, 4092, 8188, 16380, 32767, 32768, 98304, 229376, 491520, 1015808, 2064384, 4161536, 8355840, 8519679, 33554431]⟩, by kernel_rfl, ?_⟩
    refine ⟨_, _, rfl, by omega, hrowN, rfl, of_decide_eq_true rfl, ?_⟩
    refine And.intro rfl ?_
    refine And.intro (fun h => Bool.noConfusion h) (fun _ => ?_)
    refine And.intro (fun h => Bool.noConfusion h) (fun _ => ?_)
    refine And.intro (fun h => Bool.noConfusion h) (fun _ => ?_)
    refine And.intro ?_ trivial
    refine And.intro (by repeat (first | exact trivial | refine And.intro ⟨rfl, rfl⟩ ?_ | refine And.intro ⟨_, _, rfl, by omega, (by assumption), rfl, of_decide_eq_true rfl, And.intro rfl (And.intro rfl rfl)⟩ ?_)) ?_
    refine And.intro ?_ trivial
    refine And.intro (by repeat (first | exact trivial | refine And.intro ⟨rfl, rfl⟩ ?_ | refine And.intro ⟨_, _, rfl, by omega, (by assumption), rfl, of_decide_eq_true rfl, And.intro rfl (And.intro rfl rfl)⟩ ?_)) ?_
    rw [← hpw _ false hs.2 hs.1, show priceB m x i j = false by unfold priceB; rw [hs.2]; rfl]
    exact And.intro rfl rfl
  · repeat (first | refine And.intro (fun _ => ?_) (fun h => Bool.noConfusion h) | refine And.intro (fun h => Bool.noConfusion h) (fun _ => ?_))
    refine ⟨⟨33554431, [0, 1, 0, 4, 8, 16, 0, 64, 128, 256, 512, 1056, 2048, 4096, 8194, 0, 32768, 65536, 196608, 327680, 589824, 1114112, 2162688, 98303, 16777215], [1, 3, 4, 12, 28, 60, 64, 192, 448, 960, 1984, 4092, 8188, 16380, 32767, 32768, 98304, 229376, 491520, 1015808, 2064384, 4161536, 8355840, 8519679, 33554431]⟩, by kernel_rfl, ?_⟩
    refine ⟨_, _, rfl, by omega, hrowN, rfl, of_decide_eq_true rfl, ?_⟩
    refine And.intro rfl ?_
    refine And.intro (fun h => Bool.noConfusion h) (fun _ => ?_)
    refine And.intro (fun h => Bool.noConfusion h) (fun _ => ?_)
    refine And.intro (fun h => Bool.noConfusion h) (fun _ => ?_)
    refine And.intro ?_ trivial
    refine And.intro (by repeat (first | exact trivial | refine And.intro ⟨rfl, rfl⟩ ?_ | refine And.intro ⟨_, _, rfl, by omega, (by assumption), rfl, of_decide_eq_true rfl, And.intro rfl (And.intro rfl rfl)⟩ ?_)) ?_
    refine And.intro ?_ trivial
    refine And.intro (by repeat (first | exact trivial | refine And.intro ⟨rfl, rfl⟩ ?_ | refine And.intro ⟨_, _, rfl, by omega, (by assumption), rfl, of_decide_eq_true rfl, And.intro rfl (And.intro rfl rfl)⟩ ?_)) ?_
    rw [← hpw _ false hs.2 hs.1, show priceB m x i j = false by unfold priceB; rw [hs.2]; rfl]
    exact And.intro rfl rfl
theorem c_insert_price (m : Mp) (hm : okMp m) (x : Srch) (hx : okX x) (sl sp : Nat) (i j : Nat) (hij : i ≤ j) (hj : j ≤ x.legs.length) {r p b : Nat} {sto : List Ob} (hr : r ≤ sto.length) (hp : sto[p]? = some (mbox m)) (hb : sto[b]? = some (xbox p sl sp x)) (hne : p ≠ b) (hpr : p < r) (hbr : b < r) : Tri Try.prog 120 r [.gptr b 0, .int .i64 (i : Int), .int .i64 (j : Int)] sto (fun d k => d = .tup [.int .i64 (priceW m x i j), .bool (priceB m x i j)] ∧ k = sto) :=
  (c_insert_price_0 m hm x hx sl sp i j hij hj).box2RO (nr_mcs m) (nr_xtl sl sp x) rfl rfl (fun d h => by subst h; exact ⟨rfl, rfl⟩) hr hp hb hne hpr hbr
end Go.Lv

namespace Go.Lv
open Go.Proofs

noncomputable def rowJ (i : Nat) : Nat → Nat → List (Nat × Nat)
  | _, 0 => []
  | j, k + 1 => (i, j) :: rowJ i (j + 1) k
noncomputable def rowsI (n : Nat) : Nat → Nat → List (Nat × Nat)
  | _, 0 => []
  | i, k + 1 => rowJ i i (n + 1 - i) ++ rowsI n (i + 1) k
noncomputable def bestG (m : Mp) (x : Srch) (B : Int) : List (Nat × Nat) → Spt → Int → Bool → Spt × Int × Bool
  | [], o, t, f => (o, t, f)
  | (i, j) :: ps, o, t, f => if t ≥ B then (o, t, f) else
    if priceB m x i j = true ∧ (f = false ∨ priceW m x i j < o.cost) then bestG m x B ps ⟨x.d.id, i, j, priceW m x i j⟩ (t + 1) true else bestG m x B ps o (t + 1) f
noncomputable def bestX (m : Mp) (x : Srch) (served : Nat) (B : Int) : Spt × Int × Bool := bestG m x B (rowsI x.legs.length served (x.legs.length + 1 - served)) ⟨0, 0, 0, 0⟩ 0 false
noncomputable def bestD (r : Spt × Int × Bool) : D := .tup [encSpt r.1, .int .i64 r.2.1, .bool r.2.2]
noncomputable def rowSp (o : Spt) : List D := [.int .i64 o.drv, .int .i64 o.pick, .int .i64 o.drop, .int .i64 o.cost]
noncomputable def sB1 (m : Mp) (x : Srch) (sl sp : Nat) (B : Int) (o : Spt) (t : Int) (f : Bool) (i : Nat) : DS := ⟨[(0, .gptr 1 0), (2, .int .i64 B), (6, .lptr 6 0 0), (7, .int .i64 0), (8, .bool false), (9, .lptr 9 0 0), (10, .int .i64 t), (11, .bool f), (12, .int .i64 (x.legs.length : Int)), (13, .int .i64 (i : Int))], [(6, [.int .i64 0, .int .i64 0, .int .i64 0, .int .i64 0]), (9, rowSp o)], [mbox m, xbox 0 sl sp x], mR 2⟩
noncomputable def sB2 (m : Mp) (x : Srch) (sl sp : Nat) (B : Int) (o : Spt) (t : Int) (f : Bool) (i j : Nat) : DS := ⟨[(0, .gptr 1 0), (2, .int .i64 B), (6, .lptr 6 0 0), (7, .int .i64 0), (8, .bool false), (9, .lptr 9 0 0), (10, .int .i64 t), (11, .bool f), (12, .int .i64 (x.legs.length : Int)), (13, .int .i64 (i : Int)), (14, .int .i64 (j : Int))], [(6, [.int .i64 0, .int .i64 0, .int .i64 0, .int .i64 0]), (9, rowSp o)], [mbox m, xbox 0 sl sp x], mR 2⟩
theorem rowsI_at {n i : Nat} (h : i ≤ n) : rowsI n i (n + 1 - i) = rowJ i i (n + 1 - i) ++ rowsI n (i + 1) (n - i) := by
  rw [show n + 1 - i = (n - i) + 1 by omega]
  show rowJ i i (n + 1 - i) ++ _ = _
  rw [show n + 1 - i = (n - i) + 1 by omega]
theorem rowJ_at {n i j : Nat} (h : j ≤ n) : rowJ i j (n + 1 - j) = (i, j) :: rowJ i (j + 1) (n - j) := by
  rw [show n + 1 - j = (n - j) + 1 by omega]
  rfl
set_option maxHeartbeats 8000000 in
theorem c_insert_best_0 (m : Mp) (hm : okMp m) (x : Srch) (hx : okX x) (sl sp : Nat) (served : Nat) (hsv : served ≤ x.legs.length) (B : Int) (hB : B ≤ 100000) : Tri Try.prog 115 2 [.gptr 1 0, .int .i64 (served : Int), .int .i64 B] [mbox m, xbox 0 sl sp x] (fun d k => d = bestD (bestX m x served B) ∧ k = [mbox m, xbox 0 sl sp x]) := by
  refine Tri.walk2 (L := LT) (c := {n := 72, ko := [7, 8], kb := [6]}) [] [0, 1, 2, 6, 7, 8, 9, 10, 11, 12, 13, 14, 15, 16, 25, 31, 36, 59] hLT hmix Try.func115 rfl rfl ⟨rfl, rfl⟩ (by show 3 ≤ 72; decide) (by first | exact Nat.zero_le _ | exact Nat.le_refl _ | exact Nat.le_succ 1 | decide) ?_
  have hlen := hx.len
  show Ok _ _ _ _ _
  refine Ok.loopN hLT hmix [] [0, 1, 2, 6, 7, 8, 9, 10, 11, 12, 13, 14, 15, 16, 25, 31, 36, 59] [0,2,6,7,8,9,10,11,12,13] [6,9] (fun n st => ∃ (i : Nat) (o : Spt) (t : Int) (f : Bool), n = x.legs.length + 1 - i ∧ i ≤ x.legs.length + 1 ∧ 0 ≤ t ∧ t ≤ 100000 ∧ bestG m x B (rowsI x.legs.length i (x.legs.length + 1 - i)) o t f = bestX m x served B ∧ st = sB1 m x sl sp B o t f i) (n := (x.legs.length + 1 - served)) ⟨served, ⟨0, 0, 0, 0⟩, 0, false, rfl, by omega, by omega, by omega, rfl, by unfold sB1; rw [← List.length_map (f := rowL)]; rfl⟩ ?_
  rintro n st ⟨i, o, t, f, rfl, hi, ht0, ht1, hgo, rfl⟩
  refine And.intro (fun h1 => ?_) (fun h1 => ?_)
  rotate_left
  · have h1 : ¬ ((i : Nat) : Int) ≤ (x.legs.length : Int) := of_decide_eq_false h1
    rw [show x.legs.length + 1 - i = 0 by omega] at hgo
    rw [← hgo]
    exact And.intro rfl rfl
  have h1 : ((i : Nat) : Int) ≤ (x.legs.length : Int) := of_decide_eq_true h1
  rw [rowsI_at (by omega)] at hgo
  have hwi := wrap_succ (i := i) (n := x.legs.length + 1) (by omega) (by omega)
  show Ok _ _ _ _ _
  refine Ok.loopN hLT hmix [] [0, 1, 2, 6, 7, 8, 9, 10, 11, 12, 13, 14, 15, 16, 25, 31, 36, 59] [0,2,6,7,8,9,10,11,12,13,14] [6,9] (fun n st => ∃ (j : Nat) (o : Spt) (t : Int) (f : Bool), n = x.legs.length + 1 - j ∧ i ≤ j ∧ j ≤ x.legs.length + 1 ∧ 0 ≤ t ∧ t ≤ 100000 ∧ bestG m x B (rowJ i j (x.legs.length + 1 - j) ++ rowsI x.legs.length (i + 1) (x.legs.length - i)) o t f = bestX m x served B ∧ st = sB2 m x sl sp B o t f i j) (n := (x.legs.length + 1 - i)) ⟨i, o, t, f, rfl, Nat.le_refl _, by omega, ht0, ht1, hgo, rfl⟩ ?_
  clear hgo ht0 ht1 o t f
  rintro n st ⟨j, o, t, f, rfl, hij, hj, ht0, ht1, hgo, rfl⟩
  refine And.intro (fun h2 => ?_) (fun h2 => ?_)
  rotate_left
  · have h2 : ¬ ((j : Nat) : Int) ≤ (x.legs.length : Int) := of_decide_eq_false h2
    rw [show x.legs.length + 1 - j = 0 by omega] at hgo
    refine ⟨x.legs.length + 1 - (i + 1), by omega, i + 1, o, t, f, rfl, by omega, ht0, ht1, by rw [show x.legs.length + 1 - (i + 1) = x.legs.length - i by omega]; exact hgo, ?_⟩
    unfold sB1
    rw [← hwi]
    rfl
  have h2 : ((j : Nat) : Int) ≤ (x.legs.length : Int) := of_decide_eq_true h2
  have hwj := wrap_succ (i := j) (n := x.legs.length + 1) (by omega) (by omega)
  rw [rowJ_at (by omega)] at hgo
  replace hgo : (if t ≥ B then (o, t, f) else if priceB m x i j = true ∧ (f = false ∨ priceW m x i j < o.cost) then bestG m x B (rowJ i (j + 1) (x.legs.length - j) ++ rowsI x.legs.length (i + 1) (x.legs.length - i)) ⟨x.d.id, i, j, priceW m x i j⟩ (t + 1) true else bestG m x B (rowJ i (j + 1) (x.legs.length - j) ++ rowsI x.legs.length (i + 1) (x.legs.length - i)) o (t + 1) f) = bestX m x served B := hgo
  refine And.intro (fun h3 => ?_) (fun h3 => ?_)
  · rw [if_pos (show t ≥ B from of_decide_eq_true h3)] at hgo
    rw [← hgo]
    exact And.intro rfl rfl
  have h3 : ¬ t ≥ B := of_decide_eq_false h3
  rw [if_neg h3] at hgo
  have hwt : IntKind.i64.wrap (t + 1) = t + 1 := wrap64 (by omega) (by omega)
  have hpc := c_insert_price m hm x hx sl sp i j hij (by omega) (r := 2) (p := 0) (b := 1) (sto := [mbox m, xbox 0 sl sp x]) (Nat.le_refl 2) rfl rfl (by decide) (by decide) (by decide)
  generalize priceW m x i j = w at hpc hgo
  generalize priceB m x i j = q at hpc hgo
  rw [← hwt] at hgo
  cases q with
  | false =>
    rw [if_neg (by rintro ⟨h, _⟩; cases h)] at hgo
    refine ⟨rfl, (by first | exact Nat.zero_le _ | exact Nat.le_refl _ | exact Nat.le_succ 1 | decide), (hpc).mono ?_⟩
    rintro d l ⟨rfl, rfl⟩
    refine ⟨rfl, fun _ _ => rfl, rfl, ?_⟩
    repeat (first | refine And.intro (fun _ => ?_) (fun h => Bool.noConfusion h) | refine And.intro (fun h => Bool.noConfusion h) (fun _ => ?_))
    refine ⟨x.legs.length + 1 - (j + 1), by omega, j + 1, o, IntKind.i64.wrap (t + 1), f, rfl, by omega, by omega, by rw [hwt]; omega, by rw [hwt]; omega, by rw [show x.legs.length + 1 - (j + 1) = x.legs.length - j by omega]; exact hgo, ?_⟩
    unfold sB2
    rw [← hwj]
    rfl
  | true =>
    cases f with
    | false =>
      rw [if_pos ⟨rfl, .inl rfl⟩] at hgo
      refine ⟨rfl, (by first | exact Nat.zero_le _ | exact Nat.le_refl _ | exact Nat.le_succ 1 | decide), (hpc).mono ?_⟩
      rintro d l ⟨rfl, rfl⟩
      refine ⟨rfl, fun _ _ => rfl, rfl, ?_⟩
      repeat (first | refine And.intro (fun _ => ?_) (fun h => Bool.noConfusion h) | refine And.intro (fun h => Bool.noConfusion h) (fun _ => ?_))
      refine ⟨x.legs.length + 1 - (j + 1), by omega, j + 1, ⟨x.d.id, i, j, w⟩, IntKind.i64.wrap (t + 1), true, rfl, by omega, by omega, by rw [hwt]; omega, by rw [hwt]; omega, by rw [show x.legs.length + 1 - (j + 1) = x.legs.length - j by omega]; exact hgo, ?_⟩
      unfold sB2
      rw [← hwj]
      rfl
    | true =>
      refine ⟨rfl, (by first | exact Nat.zero_le _ | exact Nat.le_refl _ | exact Nat.le_succ 1 | decide), (hpc).mono ?_⟩
      rintro d l ⟨rfl, rfl⟩
      refine ⟨rfl, fun _ _ => rfl, rfl, ?_⟩
      refine And.intro (fun h4 => ?_) (fun h4 => ?_)
      · have h4 : w < o.cost := of_decide_eq_true h4
        rw [if_pos ⟨rfl, .inr h4⟩] at hgo
        repeat (first | refine And.intro (fun _ => ?_) (fun h => Bool.noConfusion h) | refine And.intro (fun h => Bool.noConfusion h) (fun _ => ?_))
        refine ⟨x.legs.length + 1 - (j + 1), by omega, j + 1, ⟨x.d.id, i, j, w⟩, IntKind.i64.wrap (t + 1), true, rfl, by omega, by omega, by rw [hwt]; omega, by rw [hwt]; omega, by rw [show x.legs.length + 1 - (j + 1) = x.legs.length - j by omega]; exact hgo, ?_⟩
        unfold sB2
        rw [← hwj]
        rfl
      · have h4 : ¬ w < o.cost := of_decide_eq_false h4
        rw [if_neg (by rintro ⟨_, h | h⟩; cases h; exact h4 h)] at hgo
        repeat (first | refine And.intro (fun _ => ?_) (fun h => Bool.noConfusion h) | refine And.intro (fun h => Bool.noConfusion h) (fun _ => ?_))
        refine ⟨x.legs.length + 1 - (j + 1), by omega, j + 1, o, IntKind.i64.wrap (t + 1), true, rfl, by omega, by omega, by rw [hwt]; omega, by rw [hwt]; omega, by rw [show x.legs.length + 1 - (j + 1) = x.legs.length - j by omega]; exact hgo, ?_⟩
        unfold sB2
        rw [← hwj]
        rfl
theorem c_insert_best (m : Mp) (hm : okMp m) (x : Srch) (hx : okX x) (sl sp : Nat) (served : Nat) (hsv : served ≤ x.legs.length) (B : Int) (hB : B ≤ 100000) {r p b : Nat} {sto : List Ob} (hr : r ≤ sto.length) (hp : sto[p]? = some (mbox m)) (hb : sto[b]? = some (xbox p sl sp x)) (hne : p ≠ b) (hpr : p < r) (hbr : b < r) : Tri Try.prog 115 r [.gptr b 0, .int .i64 (served : Int), .int .i64 B] sto (fun d k => d = bestD (bestX m x served B) ∧ k = sto) :=
  (c_insert_best_0 m hm x hx sl sp served hsv B hB).box2RO (nr_mcs m) (nr_xtl sl sp x) rfl rfl (fun d h => by subst h; exact ⟨rfl, rfl⟩) hr hp hb hne hpr hbr
end Go.Lv

namespace Go.Lv
open Go.Proofs

set_option maxHeartbeats 8000000 in
theorem c_insert_step_1 (m : Mp) (hm : okMp m) (x : Srch) (sl sp : Nat) (s : Sta) {k : Nat} (hk : k ≤ 1000) (hs : okSta k s) (l : Leg) (hl : okLeg l) : Tri Try.prog 119 1 [.gptr 1 0, .agg (rowT s), .agg (rowL l)] [mbox m, xbox 0 sl sp x] (fun d k => d = stepD m x.d s l ∧ k = [mbox m, xbox 0 sl sp x]) := by
  obtain ⟨now, at_, load, way⟩ := s
  obtain ⟨⟨pl, w, sv⟩, more⟩ := l
  refine Tri.walk2 (L := LT) (c := {n := 78, ko := [7], kb := [6]}) [(54,1,[]),(55,1,[])] [0, 1, 2, 4, 5, 6, 7, 8, 10, 11, 12] hLT hmix Try.func119 rfl rfl ⟨rfl, rfl⟩ (by show 3 ≤ 78; decide) (by first | exact Nat.zero_le _ | exact Nat.le_refl _ | exact Nat.le_succ 1 | decide) ?_
  obtain ⟨a1, a2, a3, a4, a5, a6⟩ := hs
  obtain ⟨b1, b2, b3, b4⟩ := hl
  simp only at a1 a2 a3 a4 a5 a6 b1 b2 b3 b4
  unfold stepD stepB stepS
  have htm := c_geo_Time m hm at_ pl (r := 1) (b1 := 0) (sto := [mbox m, xbox 0 sl sp x]) (show 1 ≤ 2 by decide) rfl (by decide)
  unfold timeD at htm
  have hwy := timeM_le hm at_ pl
  simp only
  generalize timeM m at_ pl = t at htm hwy ⊢
  generalize inM m at_ pl = tb at htm
  have hwn : IntKind.i64.wrap (now + t) = now + t := wrap64 (by omega) (by omega)
  have hbg := c_span_Begin w (IntKind.i64.wrap (now + t)) (r := 1) (sto := [mbox m, xbox 0 sl sp x]) (show 1 ≤ 2 by decide)
  rw [show beginD w (IntKind.i64.wrap (now + t)) = .tup [.int .i64 (bgO w (now + t)), .bool (bgB w (now + t))] by rw [hwn]; exact beginD_bg _ _] at hbg
  have hbl := bgO_le w (now + t) (by omega)
  generalize bgO w (now + t) = bg at hbg hbl ⊢
  generalize bgB w (now + t) = bb at hbg ⊢
  have h1 : IntKind.i64.wrap (bg + sv) = bg + sv := wrap64 (by omega) (by omega)
  have h2 : IntKind.i64.wrap (load + more) = load + more := wrap64 (by omega) (by omega)
  have h3 : IntKind.i64.wrap (way + t) = way + t := wrap64 (by omega) (by omega)
  rw [show D.agg (rowT ⟨bg + sv, pl, load + more, way + t⟩) = .agg [.int .i64 (IntKind.i64.wrap (bg + sv)), .int .i64 pl, .int .i64 (IntKind.i64.wrap (load + more)), .int .i64 (IntKind.i64.wrap (way + t))] by rw [h1, h2, h3]; rfl]
  obtain ⟨wlo, whi⟩ := w
  refine ⟨⟨32767, [0, 1, 2, 4, 0, 16, 0, 64, 128, 296, 512, 1024, 1024, 4095, 16383], [1, 3, 7, 15, 16, 48, 64, 192, 448, 1023, 2047, 4095, 6143, 12287, 32767]⟩, by kernel_rfl, ?_⟩
  refine And.intro ?_ trivial
  refine ⟨rfl, (by first | exact Nat.zero_le _ | exact Nat.le_refl _ | exact Nat.le_succ 1 | decide), (htm).mono ?_⟩
  rintro d l ⟨rfl, rfl⟩
  refine ⟨rfl, fun _ _ => rfl, rfl, ?_⟩
  refine And.intro (by repeat (first | exact trivial | refine And.intro ⟨rfl, rfl⟩ ?_)) ?_
  refine (fun (hrest : _) => And.intro (fun _ => by
      refine And.intro ?_ trivial
      refine And.intro (by repeat (first | exact trivial | refine And.intro ⟨rfl, rfl⟩ ?_)) ?_
      refine And.intro ?_ trivial
      refine And.intro (by repeat (first | exact trivial | refine And.intro ⟨rfl, rfl⟩ ?_)) ?_
      exact hrest) (fun _ => by
      refine And.intro ?_ trivial
      refine And.intro (by repeat (first | exact trivial | refine And.intro ⟨rfl, rfl⟩ ?_)) ?_
      refine And.intro ?_ trivial
      refine And.intro (by repeat (first | exact trivial | refine And.intro ⟨rfl, rfl⟩ ?_)) ?_
      exact hrest)) ?_
  refine ⟨rfl, (by first | exact Nat.zero_le _ | exact Nat.le_refl _ | exact Nat.le_succ 1 | decide), (hbg).mono ?_⟩
  rintro d l ⟨rfl, rfl⟩
  refine ⟨rfl, fun _ _ => rfl, rfl, ?_⟩
  cases bb with
  | false =>
    refine ⟨⟨25165823, [0, 0, 2, 4, 12, 4, 36, 68, 132, 260, 516, 1044, 2052, 4100, 8192, 24576, 8192, 73728, 139264, 270336, 532480, 1089536, 2105344, 8193, 16777215], [1, 2, 6, 14, 30, 38, 102, 230, 486, 998, 2022, 4094, 8190, 16382, 32766, 65534, 81918, 212990, 475134, 999422, 2047998, 4194302, 8388606, 8404991, 33554431]⟩, by kernel_rfl, ?_⟩
    refine And.intro (fun h => Bool.noConfusion h) (fun _ => ?_)
    refine And.intro (fun h => Bool.noConfusion h) (fun _ => ?_)
    refine And.intro (fun h => Bool.noConfusion h) (fun _ => ?_)
    refine And.intro (fun h => Bool.noConfusion h) (fun _ => ?_)
    refine And.intro (fun h => Bool.noConfusion h) (fun _ => ?_)
    refine And.intro ?_ trivial
    refine And.intro (by repeat (first | exact trivial | refine And.intro ⟨rfl, rfl⟩ ?_)) ?_
    refine And.intro ?_ trivial
    refine And.intro (by repeat (first | exact trivial | refine And.intro ⟨rfl, rfl⟩ ?_)) ?_
    exact And.intro rfl rfl
  | true =>
    refine ⟨⟨25165823, [0, 0, 2, 4, 12, 4, 36, 68, 132, 260, 516, 1044, 2052, 4100, 8192, 24576, 8192, 73728, 139264, 270336, 532480, 1089536, 2105344, 8193, 16777215], [1, 2, 6, 14, 30, 38, 102, 230, 486, 998, 2022, 4094, 8190, 16382, 32766, 65534, 81918, 212990, 475134, 999422, 2047998, 4194302, 8388606, 8404991, 33554431]⟩, by kernel_rfl, ?_⟩
    refine And.intro (fun _ => ?_) (fun h => Bool.noConfusion h)
    refine And.intro (fun _ => ?_) (fun h => Bool.noConfusion h)
    refine And.intro (fun g1 => ?_) (fun g1 => ?_)
    · have g1 : IntKind.i64.wrap (bg + sv) ≤ x.d.w.hi := of_decide_eq_true g1
      rw [h1] at g1
      rw [decide_eq_true g1]
      refine And.intro (fun _ => ?_) (fun h => Bool.noConfusion h)
      refine And.intro (fun _ => ?_) (fun h => Bool.noConfusion h)
      refine And.intro (fun g2 => ?_) (fun g2 => ?_)
      · have g2 : IntKind.i64.wrap (load + more) ≤ x.d.room := of_decide_eq_true g2
        rw [h2] at g2
        rw [decide_eq_true g2]
        refine And.intro (fun _ => ?_) (fun h => Bool.noConfusion h)
        refine And.intro ?_ trivial
        refine And.intro (by repeat (first | exact trivial | refine And.intro ⟨rfl, rfl⟩ ?_)) ?_
        refine And.intro ?_ trivial
        refine And.intro (by repeat (first | exact trivial | refine And.intro ⟨rfl, rfl⟩ ?_)) ?_
        exact And.intro rfl rfl
      · have g2 : ¬ IntKind.i64.wrap (load + more) ≤ x.d.room := of_decide_eq_false g2
        rw [h2] at g2
        rw [decide_eq_false g2]
        refine And.intro (fun h => Bool.noConfusion h) (fun _ => ?_)
        refine And.intro ?_ trivial
        refine And.intro (by repeat (first | exact trivial | refine And.intro ⟨rfl, rfl⟩ ?_)) ?_
        refine And.intro ?_ trivial
        refine And.intro (by repeat (first | exact trivial | refine And.intro ⟨rfl, rfl⟩ ?_)) ?_
        exact And.intro rfl rfl
    · have g1 : ¬ IntKind.i64.wrap (bg + sv) ≤ x.d.w.hi := of_decide_eq_false g1
      rw [h1] at g1
      rw [decide_eq_false g1]
      refine And.intro (fun h => Bool.noConfusion h) (fun _ => ?_)
      refine And.intro (fun h => Bool.noConfusion h) (fun _ => ?_)
      refine And.intro (fun h => Bool.noConfusion h) (fun _ => ?_)
      refine And.intro ?_ trivial
      refine And.intro (by repeat (first | exact trivial | refine And.intro ⟨rfl, rfl⟩ ?_)) ?_
      refine And.intro ?_ trivial
      refine And.intro (by repeat (first | exact trivial | refine And.intro ⟨rfl, rfl⟩ ?_)) ?_
      exact And.intro rfl rfl
end Go.Lv
