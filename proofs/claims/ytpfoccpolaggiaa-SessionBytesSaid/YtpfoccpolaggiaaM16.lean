/-
  Part 16 of the texts under the proof: an abstract run of loaded code on data, and what the functions do. No condition.
-/
import Derived.Test.YtpfoccpolaggiaaM15
import Derived.Shelf.Sort.Plain
import Derived.Shelf.Slices.In.SortNone
import Derived.Ground.NamesProg
import Derived.KernelRfl
set_option linter.all false
set_option maxRecDepth 100000
namespace Go.Proofs
open Go.Shelf
def Try.lays189_ren : Go.Shelf.Ren := ⟨fun | 189 => 32 | 125 => 51 | 257 => 50 | 128 => 69 | 129 => 70 | 294 => 60 | 295 => 61 | 296 => 62 | 297 => 63 | 298 => 64 | 299 => 65 | 216 => 66 | 300 => 67 | 301 => 68 | 328 => 73 | 329 => 74 | 330 => 75 | 331 => 76 | 332 => 77 | 215 => 78 | 343 => 79 | n => n, fun | 28 => 35 | 3 => 3 | 46 => 89 | 0 => 0 | 51 => 108 | 53 => 93 | 4 => 4 | 183 => 101 | 182 => 100 | 131 => 105 | 5 => 5 | 9 => 9 | 218 => 111 | 222 => 115 | 228 => 118 | 229 => 119 | n => n, fun | n => n⟩
theorem Try.lays189 : Go.Proofs.Lays.n189 Try.prog Try.lays189_ren := {
  mixed := by kernel_rfl
  f125 := Try.func51.trans (congrArg some (by kernel_rfl))
  f128 := Try.func69.trans (congrArg some (by kernel_rfl))
  f129 := Try.func70.trans (congrArg some (by kernel_rfl))
  f189 := Try.func32.trans (congrArg some (by kernel_rfl))
  f215 := Try.func78.trans (congrArg some (by kernel_rfl))
  f216 := Try.func66.trans (congrArg some (by kernel_rfl))
  f257 := Try.func50.trans (congrArg some (by kernel_rfl))
  f294 := Try.func60.trans (congrArg some (by kernel_rfl))
  f295 := Try.func61.trans (congrArg some (by kernel_rfl))
  f296 := Try.func62.trans (congrArg some (by kernel_rfl))
  f297 := Try.func63.trans (congrArg some (by kernel_rfl))
  f298 := Try.func64.trans (congrArg some (by kernel_rfl))
  f299 := Try.func65.trans (congrArg some (by kernel_rfl))
  f300 := Try.func67.trans (congrArg some (by kernel_rfl))
  f301 := Try.func68.trans (congrArg some (by kernel_rfl))
  f328 := Try.func73.trans (congrArg some (by kernel_rfl))
  f329 := Try.func74.trans (congrArg some (by kernel_rfl))
  f330 := Try.func75.trans (congrArg some (by kernel_rfl))
  f331 := Try.func76.trans (congrArg some (by kernel_rfl))
  f332 := Try.func77.trans (congrArg some (by kernel_rfl))
  f343 := Try.func79.trans (congrArg some (by kernel_rfl))
  t0 := Try.underlying0
  a0 := Try.isAgg0
  z0 := Try.sizeOf0
  v0 := Try.zeroValue0
  t3 := Try.underlying3
  a3 := Try.isAgg3
  z3 := Try.sizeOf3
  v3 := Try.zeroValue3
  t4 := Try.underlying4
  a4 := Try.isAgg4
  z4 := Try.sizeOf4
  v4 := Try.zeroValue4
  t5 := Try.underlying5
  a5 := Try.isAgg5
  z5 := Try.sizeOf5
  v5 := Try.zeroValue5
  t9 := Try.underlying9
  a9 := Try.isAgg9
  z9 := Try.sizeOf9
  v9 := Try.zeroValue9
  t28 := Try.underlying35
  a28 := Try.isAgg35
  z28 := Try.sizeOf35
  v28 := Try.zeroValue35
  t46 := Try.underlying89
  a46 := Try.isAgg89
  z46 := Try.sizeOf89
  v46 := Try.zeroValue89
  t51 := Try.underlying108
  a51 := Try.isAgg108
  z51 := Try.sizeOf108
  v51 := Try.zeroValue108
  t53 := Try.underlying93
  a53 := Try.isAgg93
  z53 := Try.sizeOf93
  v53 := Try.zeroValue93
  t131 := Try.underlying105
  a131 := Try.isAgg105
  z131 := Try.sizeOf105
  v131 := Try.zeroValue105
  t182 := Try.underlying100
  a182 := Try.isAgg100
  z182 := Try.sizeOf100
  v182 := Try.zeroValue100
  t183 := Try.underlying101
  a183 := Try.isAgg101
  z183 := Try.sizeOf101
  v183 := Try.zeroValue101
  t218 := Try.underlying111
  a218 := Try.isAgg111
  z218 := Try.sizeOf111
  v218 := Try.zeroValue111
  t222 := Try.underlying115
  a222 := Try.isAgg115
  z222 := Try.sizeOf115
  v222 := Try.zeroValue115
  t228 := Try.underlying118
  a228 := Try.isAgg118
  z228 := Try.sizeOf118
  v228 := Try.zeroValue118
  t229 := Try.underlying119
  a229 := Try.isAgg119
  z229 := Try.sizeOf119
  v229 := Try.zeroValue119 }
end Go.Proofs
namespace Go.Lv
open Go Go.Proofs Go.Sort

theorem sortC : TurnC Try.prog 32 sortI where
  fn := ⟨_, Try.func32, rfl, rfl⟩
  len := fun zs => (sortI_perm zs).length_eq
  nil := fun p cap w => Any.slices_Sort_int_none Try.lays189 p cap w
  some := fun blk off cap zs w hH hb hz => by
    have := Any.slices_Sort_int Try.lays189 blk off cap zs w hH hb hz
    rw [mergeSort_sortI] at this
    exact this
noncomputable def E18 : Ev := { L := LT, S := (3, { ko := [0] }) :: SS }
theorem E18ok : EvOk Try.prog E18 := ⟨fun f g h => (by cases h), hLT, by kernel_rfl, fun f T s o s' x args tys caps _ _ _ _ h => by cases h⟩
noncomputable def trueR : Rz (D × List Ob) → Bool
  | .ok (.bool b, []) => b
  | _ => false
theorem trueR_tri {n k : Nat} {args : List D} (h : trueR (evF Try.prog E18 n 0 k args []) = true) : Tri Try.prog k 0 args [] (fun d l => d = .bool true ∧ l = []) := by
  unfold trueR at h
  split at h
  · rename_i b he
    subst h
    exact (evF_ok E18ok n 0 k args [] _ _ he).1
  · cases h
/-- The closed sentence. -/
theorem t3 : Tri Try.prog 3 0 [] [] (fun d l => d = .bool true ∧ l = []) := trueR_tri (n := 20) (by kernel_rfl)
end Go.Lv

namespace Go.Lv
open Go.Proofs

theorem hmix : Try.prog.follows .mixedOrders = true := by kernel_rfl

/-! ### Tables -/
structure Rep where
  why : Int
  st : Int
  dr : Int
  tm : Int
  deriving DecidableEq
structure Ent where
  seq : Int
  rp : Rep
  deriving DecidableEq
abbrev Tbl := List (Int × Ent)
noncomputable def encR (r : Rep) : D := .agg [.int .i64 r.why, .int .i64 r.st, .int .i64 r.dr, .int .i64 r.tm]
noncomputable def encE (e : Ent) : D := .agg [.int .i64 e.seq, .int .i64 e.rp.why, .int .i64 e.rp.st, .int .i64 e.rp.dr, .int .i64 e.rp.tm]
noncomputable def encT (m : Tbl) : List (D × D) := m.map fun x => (.int .i64 x.1, encE x.2)
noncomputable def getT (k : Int) : Tbl → Option Ent
  | [] => none
  | x :: r => if k = x.1 then some x.2 else getT k r
noncomputable def setT (k : Int) (e : Ent) : Tbl → Tbl
  | [] => [(k, e)]
  | x :: r => if k = x.1 then (x.1, e) :: r else x :: setT k e r
noncomputable def seqOf (k : Int) (m : Tbl) : Int := match getT k m with
  | some e => e.seq
  | none => 0
theorem findT (k : Int) : ∀ m : Tbl, findE LT 3 (.int .i64 k) (encT m) = some ((getT k m).map encE)
  | [] => rfl
  | x :: r => by
    show (match eqD LT 3 (.int .i64 k) (.int .i64 x.1) with | some true => some (some (encE x.2)) | some false => findE LT 3 (.int .i64 k) (encT r) | none => none) = _
    have e : eqD LT 3 (.int .i64 k) (.int .i64 x.1) = some (decide (k = x.1)) := rfl
    rw [e, findT k r]
    simp only [getT]
    by_cases h : k = x.1
    · rw [if_pos h, decide_eq_true h]; rfl
    · rw [if_neg h, decide_eq_false h]
theorem setEnt (k : Int) (e : Ent) : ∀ m : Tbl, setE LT 3 (.int .i64 k) (encE e) (encT m) = some (encT (setT k e m))
  | [] => rfl
  | x :: r => by
    show (match eqD LT 3 (.int .i64 k) (.int .i64 x.1) with | some true => some ((D.int .i64 x.1, encE e) :: encT r) | some false => (match setE LT 3 (.int .i64 k) (encE e) (encT r) with | some r' => some ((.int .i64 x.1, encE x.2) :: r') | none => none) | none => none) = _
    have e' : eqD LT 3 (.int .i64 k) (.int .i64 x.1) = some (decide (k = x.1)) := rfl
    rw [e', setEnt k e r]
    simp only [setT]
    by_cases h : k = x.1
    · rw [if_pos h, decide_eq_true h]; rfl
    · rw [if_neg h, decide_eq_false h]; rfl
theorem encT_len (m : Tbl) : (encT m).length = m.length := by simp [encT]

noncomputable def stT (m : Tbl) : List Ob := [.map (encT m), .box [.map 0]]
noncomputable def rightZ (a b : Int) : Bool := decide (1 ≤ a) && (decide (a ≤ 1000000) && (decide (1 ≤ b) && decide (b ≤ 1099511627776)))
theorem t31_0 (a b : Int) : Tri Try.prog 31 0 [.int .i64 a, .int .i64 b] [] (fun d l => d = .bool (rightZ a b) ∧ l = []) := by
  refine Tri.walk2 (L := LT) (c := {la := false, n := 19, ko := [4]}) [] [0, 1, 4] hLT hmix Try.func31 rfl rfl ⟨rfl, rfl⟩ (by show 2 ≤ 19; decide) (Nat.le_refl _) ?_
  refine And.intro (fun h1 => And.intro (fun h2 => And.intro (fun h3 => And.intro (fun h4 => ?_) (fun h4 => ?_)) (fun h3 => ?_)) (fun h2 => ?_)) (fun h1 => ?_)
  all_goals
    refine And.intro ?_ rfl
    congr 1
    simp only [rightZ]
    simp only [decide_eq_true_eq, decide_eq_false_iff_not] at *
    first
      | (rw [eq_comm]; simp only [Bool.and_eq_true, decide_eq_true_eq]; omega)
      | (rw [eq_comm]; simp only [Bool.and_eq_false_iff, decide_eq_false_iff_not]; omega)
theorem t31 (a b : Int) {r : Nat} {sto : List Ob} (hr : r ≤ sto.length) : Tri Try.prog 31 r [.int .i64 a, .int .i64 b] sto (fun d l => d = .bool (rightZ a b) ∧ l = sto) :=
  (t31_0 a b).pure rfl rfl rfl rfl hr

/-- Last. -/
theorem t13 (m : Tbl) (k : Int) : Tri Try.prog 13 2 [.gptr 1 0, .int .i64 k] (stT m) (fun d l => d = .int .i64 (seqOf k m) ∧ l = stT m) := by
  refine Tri.walk2 (L := LT) (c := {la := false, n := 12, ko := [4]}) [] [0, 1, 4] hLT hmix Try.func13 rfl rfl ⟨rfl, rfl⟩ (by show 2 ≤ 12; decide) (by show 2 ≤ 2; decide) ?_
  refine And.intro rfl ?_
  have hf := findT k m
  cases hg : getT k m with
  | none =>
    rw [hg] at hf
    refine ⟨none, hf, ?_⟩
    exact ⟨by simp only [seqOf, hg], rfl⟩
  | some e =>
    rw [hg] at hf
    refine ⟨some (encE e), hf, ?_⟩
    exact ⟨by simp only [seqOf, hg], rfl⟩
end Go.Lv

namespace Go.Lv
open Go.Proofs

noncomputable def rep0 : Rep := ⟨0, 0, 0, 0⟩
noncomputable def askZ (k q : Int) (m : Tbl) : Rep × Bool :=
  if rightZ k q = false then (⟨1, 0, 0, 0⟩, false) else match getT k m with
    | some e => if e.seq = q then (e.rp, false) else if q < e.seq then (⟨24, 0, 0, 0⟩, false) else (rep0, true)
    | none => if 16 ≤ m.length then (⟨10, 0, 0, 0⟩, false) else (rep0, true)
noncomputable def askD (k q : Int) (m : Tbl) : D := .tup [encR (askZ k q m).1, .bool (askZ k q m).2]

theorem t11 (m : Tbl) (k q : Int) : Tri Try.prog 11 2 [.gptr 1 0, .int .i64 k, .int .i64 q] (stT m) (fun d l => d = askD k q m ∧ l = stT m) := by
  refine Tri.walk2 (L := LT) (c := {la := false, n := 57, ko := [7], kb := [6]}) [] [0, 1, 2, 6, 7, 8, 9, 19, 25, 35, 44] hLT hmix Try.func11 rfl rfl ⟨rfl, rfl⟩ (by show 3 ≤ 57; decide) (by show 2 ≤ 2; decide) ?_
  refine And.intro rfl ?_
  have hf := findT k m
  cases hg : getT k m with
  | none =>
    rw [hg] at hf
    refine ⟨none, hf, ?_⟩
    refine ⟨rfl, Nat.le_refl 2, (t31 k q (r := 2) (sto := stT m) (Nat.le_refl 2)).mono ?_⟩
    rintro d l ⟨rfl, rfl⟩
    refine ⟨rfl, fun _ _ => rfl, rfl, ?_⟩
    cases hr : rightZ k q with
    | false => exact And.intro (by simp only [askD, askZ, hr, if_true, encR]) rfl
    | true =>
      refine And.intro (fun h1 => ?_) (fun h1 => ?_)
      · refine And.intro ?_ rfl
        have h2 : 16 ≤ m.length := by
          have := of_decide_eq_true h1
          rw [encT_len] at this
          omega
        simp only [askD, askZ, hr, hg, encR]
        rw [if_neg (by simp), if_pos h2]
      · refine And.intro ?_ rfl
        have h2 : ¬ 16 ≤ m.length := by
          have := of_decide_eq_false h1
          rw [encT_len] at this
          omega
        simp only [askD, askZ, hr, hg, encR]
        rw [if_neg (by simp), if_neg h2]
        rfl
  | some e =>
    rw [hg] at hf
    refine ⟨some (encE e), hf, ?_⟩
    refine ⟨rfl, Nat.le_refl 2, (t31 k q (r := 2) (sto := stT m) (Nat.le_refl 2)).mono ?_⟩
    rintro d l ⟨rfl, rfl⟩
    refine ⟨rfl, fun _ _ => rfl, rfl, ?_⟩
    cases hr : rightZ k q with
    | false => exact And.intro (by simp only [askD, askZ, hr, if_true, encR]) rfl
    | true =>
      refine And.intro (fun h1 => ?_) (fun h1 => ?_)
      · refine And.intro ?_ rfl
        have h1 := of_decide_eq_true h1
        simp only [askD, askZ, hr, hg, encR]
        rw [if_neg (by simp), if_pos h1]
      · have h1 := of_decide_eq_false h1
        refine And.intro (fun h2 => ?_) (fun h2 => ?_)
        · refine And.intro ?_ rfl
          have h2 := of_decide_eq_true h2
          simp only [askD, askZ, hr, hg, encR]
          rw [if_neg (by simp), if_neg h1, if_pos h2]
        · refine And.intro ?_ rfl
          have h2 := of_decide_eq_false h2
          simp only [askD, askZ, hr, hg, encR]
          rw [if_neg (by simp), if_neg h1, if_neg h2]
          rfl
end Go.Lv

namespace Go.Lv
open Go.Proofs

noncomputable def doneZ (k q : Int) (r : Rep) (m : Tbl) : Int × Tbl := if (askZ k q m).2 = true then (0, setT k ⟨q, r⟩ m) else (1, m)
theorem t12 (m : Tbl) (k q : Int) (r : Rep) : Tri Try.prog 12 0 [.gptr 1 0, .int .i64 k, .int .i64 q, encR r] (stT m) (fun d l => d = .int .i64 (doneZ k q r m).1 ∧ l = stT (doneZ k q r m).2) := by
  refine Tri.walk2 (L := LT) (c := {la := false, n := 28, ko := [8]}) [] [0, 1, 2, 7, 8, 10, 19] hLT hmix Try.func12 rfl rfl ⟨rfl, rfl⟩ (by show 4 ≤ 28; decide) (Nat.zero_le _) ?_
  refine ⟨rfl, Nat.zero_le 2, (t11 m k q).mono ?_⟩
  rintro d l ⟨hd, rfl⟩
  obtain ⟨⟨pw, ps, pd, pt⟩, fb, hz⟩ : ∃ p b, askZ k q m = (p, b) := ⟨_, _, rfl⟩
  rw [show askD k q m = .tup [.agg [.int .i64 pw, .int .i64 ps, .int .i64 pd, .int .i64 pt], .bool fb] by simp only [askD, hz, encR]] at hd
  subst hd
  have hr : (askZ k q m).2 = fb := by rw [hz]
  refine ⟨rfl, fun _ _ => rfl, rfl, ?_⟩
  cases fb with
  | false =>
    refine And.intro ?_ ?_
    · simp only [doneZ, hr]; rfl
    · simp only [doneZ, hr]; rfl
  | true =>
    refine ⟨⟨255, [0, 1, 2, 4, 0, 0, 0, 96, 255], [1, 3, 7, 15, 16, 32, 64, 224, 511]⟩, by kernel_rfl, ?_⟩
    refine And.intro ?_ trivial
    refine And.intro ⟨Nat.zero_le 0, rfl, rfl⟩ ?_
    refine Exists.intro (encT (setT k ⟨q, r⟩ m)) ?_
    refine And.intro (setEnt k ⟨q, r⟩ m) ?_
    refine And.intro trivial ?_
    refine And.intro ?_ ?_
    · simp only [doneZ, hr]; rfl
    · simp only [doneZ, hr]; rfl
theorem t10 : Tri Try.prog 10 0 [] [] (fun d l => d = .gptr 1 0 ∧ l = stT []) := by
  refine Tri.walk2 (L := LT) (c := {la := false, n := 4, ko := [0], gl := [3]}) [] [0] hLT hmix Try.func10 rfl rfl ⟨rfl, rfl⟩ (by show 0 ≤ 4; decide) (Nat.zero_le _) ?_
  exact ⟨rfl, rfl⟩
end Go.Lv

namespace Go.Lv
open Go.Proofs

theorem encT_split {l1 l2 : List (D × D)} {y : D × D} {m : Tbl} (h : encT m = l1 ++ y :: l2) : ∃ m1 k e m2, m = m1 ++ (k, e) :: m2 ∧ l1 = encT m1 ∧ y = (.int .i64 k, encE e) ∧ l2 = encT m2 := by
  obtain ⟨a, b, h1, h2, h3⟩ := List.map_eq_append_iff.1 h
  obtain ⟨x, c, h4, h5, h6⟩ := List.map_eq_cons_iff.1 h3
  obtain ⟨k, e⟩ := x
  exact ⟨a, k, e, c, by rw [h1, h4], h2.symm, h5.symm, h6.symm⟩
theorem sortI_eq {l l' : List Int} (h : l.Perm l') : sortI l = sortI l' :=
  List.Perm.eq_of_pairwise (le := fun x y => x ≤ y) (fun x y _ _ h1 h2 => by omega) (sortI_sorted _) (sortI_sorted _) (((sortI_perm _).trans h).trans (sortI_perm _).symm)

noncomputable def sS (m : Tbl) (sz : Nat) (zs : List Int) : DS := ⟨[(0, .gptr 1 0), (3, .list (.own sz) (zs.map rowI)), (9, .lptr 9 0 0), (2, .list (.own 0) [])], [], stT m, mR 2⟩
theorem t14 (hC : TurnC Try.prog 32 sortI) (m : Tbl) (hm : m.length ≤ 1000) : Tri Try.prog 14 2 [.gptr 1 0] (stT m) (fun d l => (∃ sz, d = .list (.own sz) ((sortI (m.map Prod.fst)).map rowI) ∧ (sz = 0 ∨ sz = 1)) ∧ l = stT m) := by
  refine Tri.walk2 (L := LT) (c := {la := false, n := 21, ko := [2, 3], xf := [14, 20]}) [(32, 3, [])] [0, 3, 9, 2, 4] hLT hmix Try.func14 rfl rfl ⟨rfl, rfl⟩ (by show 1 ≤ 21; decide) (by show 2 ≤ 2; decide) ?_
  show Ok _ _ _ _ _
  refine Ok.rangeBlk (t := 9) (k := 0) (es := encT m) (t10 := 10) (t11 := 11) (t12 := 12) (n2 := 4) hLT
    (fun l s => ∃ (m1 m2 : Tbl) (sz : Nat), l = encT m2 ∧ (m1 ++ m2).Perm m ∧ ((sz = 0 ∧ m1 = []) ∨ sz = 1) ∧ s = sS m sz (m1.map Prod.fst))
    rfl rfl rfl rfl rfl rfl rfl rfl rfl rfl rfl rfl rfl rfl rfl rfl rfl rfl rfl (by decide) (by decide) rfl (by show 2 ≤ 2; decide) (by show 0 < 2; decide) rfl (by show 9 < 21; decide) hmix [(32, 3, [])] [0, 3, 9, 2, 4] [0, 3, 9, 2] [] ?_ ?_ ?_ ?_
  · refine And.intro rfl (And.intro rfl (And.intro rfl ?_))
    exact ⟨[], m, 0, rfl, by simp, .inl ⟨rfl, rfl⟩, rfl⟩
  · rintro l s ⟨m1, m2, sz, rfl, _, _, rfl⟩
    rfl
  · rintro l1 y l2 s ⟨m1, m2, sz, hl, hp, hsz, rfl⟩
    obtain ⟨n1, k, e, n2, rfl, rfl, rfl, rfl⟩ := encT_split hl.symm
    have hlen : m1.length + (n1.length + (n2.length + 1)) = m.length := by
      have := hp.length_eq
      simpa using this
    have hz : ((m1.map Prod.fst).map rowI) ++ [[.int .i64 k]] = ((m1 ++ [(k, e)]).map Prod.fst).map rowI := by simp [rowI]
    have hp' : (m1 ++ [(k, e)] ++ (n1 ++ n2)).Perm m := by
      refine List.Perm.trans ?_ hp
      simp only [List.append_assoc, List.singleton_append]
      exact List.Perm.append_left m1 List.perm_middle.symm
    have hsz' : sz = 0 ∨ sz = 1 := by rcases hsz with ⟨h, _⟩ | h <;> omega
    rcases hsz' with rfl | rfl
    · refine And.intro trivial ?_
      refine And.intro rfl (And.intro ?_ (And.intro rfl ?_))
      · show (((m1.map Prod.fst).map rowI).length + 1) * 8 ≤ 140737488355328
        simp only [List.length_map]
        omega
      refine And.intro rfl ?_
      refine ⟨m1 ++ [(k, e)], n1 ++ n2, 1, by simp [encT], hp', .inr rfl, ?_⟩
      unfold sS
      rw [← hz]
      rfl
    · refine And.intro trivial ?_
      refine And.intro rfl (And.intro ?_ (And.intro rfl ?_))
      · show (((m1.map Prod.fst).map rowI).length + 1) * 8 ≤ 140737488355328
        simp only [List.length_map]
        omega
      refine And.intro rfl ?_
      refine ⟨m1 ++ [(k, e)], n1 ++ n2, 1, by simp [encT], hp', .inr rfl, ?_⟩
      unfold sS
      rw [← hz]
      rfl
  · rintro s ⟨m1, m2, sz, hl, hp, hsz, rfl⟩
    have hm2 : m2 = [] := by
      cases m2 with
      | nil => rfl
      | cons x r => simp [encT] at hl
    subst hm2
    rw [List.append_nil] at hp
    have hs : sortI (m.map Prod.fst) = sortI (m1.map Prod.fst) := sortI_eq (hp.map Prod.fst).symm
    have hlen := hp.length_eq
    rw [hs]
    rcases hsz with ⟨rfl, rfl⟩ | rfl
    · refine OpOk.turn (zs := []) hC rfl rfl rfl rfl (fun _ => ?_) (fun h => absurd rfl h)
      exact And.intro ⟨0, rfl, .inl rfl⟩ rfl
    · refine OpOk.turn (zs := m1.map Prod.fst) hC rfl rfl rfl rfl (fun h => ?_) (fun h => ⟨⟨rfl, rfl⟩, rfl, by simp only [List.length_map]; omega, ?_⟩)
      · rw [h]
        exact And.intro ⟨1, rfl, .inr rfl⟩ rfl
      · exact And.intro ⟨1, rfl, .inr rfl⟩ rfl
end Go.Lv

namespace Go.Lv
open Go.Proofs

noncomputable def rowB (z : Int) : List D := [.int .u8 z]
noncomputable def zu (n : Int) : Int := IntKind.u64.wrap (IntKind.u64.wrap n * 2 ^ min (Int.toNat 1) IntKind.u64.bits)
noncomputable def zn (u : Int) : Int := IntKind.u64.wrap (BitVec.ofInt IntKind.u64.bits (if IntKind.u64.signed then -1 else IntKind.u64.max) ^^^ BitVec.ofInt IntKind.u64.bits u).toNat
noncomputable def zigU (n : Int) : Int := if n < 0 then zn (zu n) else zu n
noncomputable def zsh (n : Int) : Int := IntKind.u64.wrap (n.fdiv (2 ^ min (Int.toNat 63) IntKind.i64.bits))
noncomputable def zx (a b : Int) : Int := IntKind.u64.wrap (BitVec.ofInt IntKind.u64.bits a ^^^ BitVec.ofInt IntKind.u64.bits b).toNat
theorem wrapU (z : Int) : IntKind.u64.wrap z = z % 18446744073709551616 := by simp [IntKind.wrap, IntKind.bits, IntKind.signed]
theorem zu_range (n : Int) : 0 ≤ zu n ∧ zu n < 18446744073709551616 := by
  unfold zu
  rw [wrapU]
  omega
theorem zn_range (n : Int) : 0 ≤ zn n ∧ zn n < 18446744073709551616 := by
  unfold zn
  rw [wrapU]
  omega
theorem zigU_range (n : Int) : 0 ≤ zigU n ∧ zigU n < 18446744073709551616 := by
  unfold zigU
  split
  · exact zn_range _
  · exact zu_range _
theorem zig_eq {n : Int} (h1 : -9223372036854775808 ≤ n) (h2 : n ≤ 9223372036854775807) : zx (zu n) (zsh n) = zigU n := by
  have e63 : (2 : Int) ^ min (Int.toNat 63) IntKind.i64.bits = 9223372036854775808 := by decide
  unfold zigU
  split
  · rename_i h
    have e : zsh n = 18446744073709551615 := by
      unfold zsh
      rw [e63, wrapU]
      have : n.fdiv 9223372036854775808 = -1 := by
        rw [Int.fdiv_eq_ediv_of_nonneg _ (by omega)]
        omega
      rw [this]
      decide
    rw [e]
    unfold zx zn
    rw [BitVec.xor_comm]
    rfl
  · rename_i h
    have e : zsh n = 0 := by
      unfold zsh
      rw [e63, wrapU]
      have : n.fdiv 9223372036854775808 = 0 := by
        rw [Int.fdiv_eq_ediv_of_nonneg _ (by omega)]
        omega
      rw [this]
      decide
    rw [e]
    obtain ⟨r1, r2⟩ := zu_range n
    generalize zu n = u at r1 r2
    show IntKind.u64.wrap ((BitVec.ofInt 64 u ^^^ BitVec.ofInt 64 0).toNat : Int) = u
    rw [show BitVec.ofInt 64 0 = 0#64 by decide, BitVec.xor_zero, wrapU, BitVec.toNat_ofInt]
    omega
theorem t71_0 (n : Int) (h1 : -9223372036854775808 ≤ n) (h2 : n ≤ 9223372036854775807) : Tri Try.prog 71 0 [.int .i64 n] [] (fun d l => d = .int .u64 (zigU n) ∧ l = []) := by
  refine Tri.walk2 (L := LT) (c := {la := false, n := 10, ko := [2]}) [] [0, 2] hLT hmix Try.func71 rfl rfl ⟨rfl, rfl⟩ (by show 1 ≤ 10; decide) (Nat.le_refl _) ?_
  refine And.intro ?_ rfl
  rw [← zig_eq h1 h2]
  rfl

noncomputable def orB (u : Int) : Int := IntKind.u8.wrap (BitVec.ofInt IntKind.u8.bits (IntKind.u8.wrap u) ||| BitVec.ofInt IntKind.u8.bits 128).toNat
noncomputable def sh7 (u : Int) : Int := u.fdiv (2 ^ min (Int.toNat 7) IntKind.u64.bits)
theorem sh7_eq {u : Int} : sh7 u = u / 128 := by
  unfold sh7
  rw [show (2 : Int) ^ min (Int.toNat 7) IntKind.u64.bits = 128 by decide, Int.fdiv_eq_ediv_of_nonneg _ (by omega)]
/-- A number's groups. -/
noncomputable def putB : Nat → Int → List Int
  | 0, u => [IntKind.u8.wrap u]
  | f + 1, u => if u ≥ 128 then orB u :: putB f (sh7 u) else [IntKind.u8.wrap u]
noncomputable def numB (n : Int) : List Int := putB 9 (zigU n)
theorem putB_len : ∀ (f : Nat) (u : Int), (putB f u).length ≤ f + 1
  | 0, u => by simp [putB]
  | f + 1, u => by
    unfold putB
    split
    · have := putB_len f (sh7 u); simp; omega
    · simp
theorem putB_end {f : Nat} {u : Int} (h : ¬ u ≥ 128) : putB f u = [IntKind.u8.wrap u] := by
  cases f with
  | zero => rfl
  | succ f => unfold putB; rw [if_neg h]
theorem pow128 (f : Nat) : (128 : Int) ^ (f + 1) = 128 * 128 ^ f := by rw [Int.pow_succ, Int.mul_comm]
theorem sh7_lt {u : Int} {f : Nat} (h0 : 0 ≤ u) (h : u < 128 ^ (f + 2)) : 0 ≤ sh7 u ∧ sh7 u < 128 ^ (f + 1) := by
  rw [sh7_eq]
  rw [pow128 (f + 1)] at h
  omega

noncomputable def sP (sz : Nat) (bs : List Int) (n u : Int) : DS := ⟨[(0, .list (.own sz) (bs.map rowB)), (5, .int .u64 u), (4, .list (.own 0) [])], [], [], mR 0⟩
/-- put. -/
theorem t54_0 (sz : Nat) (hsz : sz = 0 ∨ sz = 1) (bs : List Int) (hb : bs.length ≤ 140737488355300) (n : Int) (h1 : -9223372036854775808 ≤ n) (h2 : n ≤ 9223372036854775807) :
    Tri Try.prog 54 0 [.list (.own sz) (bs.map rowB), .int .i64 n] [] (fun d l => d = .list (.own 1) ((bs ++ numB n).map rowB) ∧ l = []) := by
  refine Tri.walk2 (L := LT) (c := {la := false, n := 23, ko := [0, 4], xf := [10, 18]}) [] [0, 1, 4, 5, 9] hLT hmix Try.func54 rfl rfl ⟨rfl, rfl⟩ (by show 2 ≤ 23; decide) (Nat.le_refl _) ?_
  have hz := zigU_range n
  have start : ∀ (sz : Nat), (sz = 0 ∨ sz = 1) → ∃ (f : Nat) (u : Int) (pre : List Int), 9 = f ∧ 0 ≤ u ∧ u < 128 ^ (f + 1) ∧ pre ++ putB f u = numB n ∧ pre.length + f = 9 ∧ ((pre = [] ∧ (sz = 0 ∨ sz = 1)) ∨ sz = 1) ∧ sP sz bs n (zigU n) = sP sz (bs ++ pre) n u := fun sz hsz =>
    ⟨9, zigU n, [], rfl, hz.1, by have : (128 : Int) ^ (9 + 1) = 1180591620717411303424 := by decide
                                  omega, rfl, rfl, .inl ⟨rfl, hsz⟩, by rw [List.append_nil]⟩
  have rest : ∀ (sz : Nat), (sz = 0 ∨ sz = 1) → ∀ s, nmB [0, 5, 4] [] s = sP sz bs n (zigU n) → ∀ c Q, (∀ k s, (∃ (sz f : Nat) (u : Int) (pre : List Int), k = f ∧ 0 ≤ u ∧ u < 128 ^ (f + 1) ∧ pre ++ putB f u = numB n ∧ pre.length + f = 9 ∧ (sz = 0 ∨ sz = 1) ∧ s = sP sz (bs ++ pre) n u) → wC Try.prog ⟨LT, {la := false, n := 23, ko := [0, 4], xf := [10, 18]}, 0, 0⟩ [] [0, 1, 4, 5, 9] c s (Ex.then (fun s' => ∃ k', k' < k ∧ ∃ (sz f : Nat) (u : Int) (pre : List Int), k' = f ∧ 0 ≤ u ∧ u < 128 ^ (f + 1) ∧ pre ++ putB f u = numB n ∧ pre.length + f = 9 ∧ (sz = 0 ∨ sz = 1) ∧ nmB [0, 5, 4] [] s' = sP sz (bs ++ pre) n u) Q)) → Ok Try.prog ⟨LT, {la := false, n := 23, ko := [0, 4], xf := [10, 18]}, 0, 0⟩ (.loop c) s Q := by
    intro sz hsz s hs c Q hr
    refine Ok.loopN hLT hmix [] [0, 1, 4, 5, 9] [0, 5, 4] [] (fun k s => ∃ (sz f : Nat) (u : Int) (pre : List Int), k = f ∧ 0 ≤ u ∧ u < 128 ^ (f + 1) ∧ pre ++ putB f u = numB n ∧ pre.length + f = 9 ∧ (sz = 0 ∨ sz = 1) ∧ s = sP sz (bs ++ pre) n u) (n := 9) ?_ hr
    obtain ⟨f, u, pre, q1, q2, q3, q4, q5, q6, q7⟩ := start sz hsz
    refine ⟨sz, f, u, pre, q1, q2, q3, q4, q5, hsz, ?_⟩
    rw [hs]
    exact q7
  rcases hsz with rfl | rfl
  all_goals
    refine ⟨rfl, Nat.le_refl 0, (t71_0 n h1 h2).mono ?_⟩
    rintro d l ⟨rfl, rfl⟩
    refine ⟨rfl, fun _ _ => rfl, rfl, ?_⟩
    show Ok _ _ _ _ _
    refine rest _ (by simp) _ rfl _ _ ?_
    rintro f s ⟨sz, _, u, pre, rfl, hu0, hu1, hpre, hlen, hsz, rfl⟩
    have hroom : ((bs ++ pre).map rowB).length + 1 ≤ 140737488355328 := by
      simp only [List.length_map, List.length_append]
      omega
    rcases hsz with rfl | rfl
    all_goals
      refine And.intro (fun h => ?_) (fun h => ?_)
      · have h := of_decide_eq_true h
        cases f with
        | zero => exact absurd h (by simp at hu1; omega)
        | succ f =>
          refine And.intro trivial ?_
          refine And.intro rfl (And.intro ?_ (And.intro rfl ?_))
          · show (((bs ++ pre).map rowB).length + 1) * 1 ≤ 140737488355328
            omega
          have hs7 := sh7_lt hu0 hu1
          refine ⟨f, Nat.lt_succ_self f, 1, f, sh7 u, pre ++ [orB u], rfl, hs7.1, hs7.2, ?_, by simp; omega, .inr rfl, ?_⟩
          · rw [← hpre]
            conv => rhs; unfold putB
            rw [if_pos h]
            simp
          · have : (bs ++ (pre ++ [orB u])).map rowB = (bs ++ pre).map rowB ++ [rowB (orB u)] := by simp
            unfold sP
            rw [this]
            rfl
      · have h := of_decide_eq_false h
        refine And.intro trivial ?_
        refine And.intro rfl (And.intro ?_ (And.intro rfl ?_))
        · show (((bs ++ pre).map rowB).length + 1) * 1 ≤ 140737488355328
          omega
        refine And.intro ?_ rfl
        rw [← hpre, putB_end h]
        have : (bs ++ (pre ++ [IntKind.u8.wrap u])).map rowB = (bs ++ pre).map rowB ++ [rowB (IntKind.u8.wrap u)] := by simp
        rw [this]
        rfl

/-- again. -/
theorem t41_0 (bs : List Int) (hb : bs.length ≤ 140737488354000) (k : Int) (h1 : 0 ≤ k) (h2 : k ≤ 1000) :
    Tri Try.prog 41 0 [.list .imm (bs.map rowB), .int .i64 k] [] (fun d l => d = .list (.own 1) (bs.map rowB) ∧ l = []) := by
  refine Tri.walk2 (L := LT) (c := {la := false, n := 14, ko := [4, 5], xf := [11]}) [] [0, 1, 4, 5] hLT hmix Try.func41 rfl rfl ⟨rfl, rfl⟩ (by show 2 ≤ 14; decide) (Nat.le_refl _) ?_
  have hw : IntKind.i64.wrap (((bs.map rowB).length : Int) + k) = (bs.length : Int) + k := by
    rw [List.length_map, wrap64 (by omega) (by omega)]
  refine And.intro ?_ ?_
  · show 0 ≤ 0 ∧ (0 : Int) ≤ IntKind.i64.wrap (((bs.map rowB).length : Int) + k) ∧ IntKind.i64.wrap (((bs.map rowB).length : Int) + k) * (1 : Nat) ≤ 2 * (140737488355328 : Nat) ∧ IntKind.i64.wrap (((bs.map rowB).length : Int) + k) ≤ 9223372036854775807 ∧ 0 < 1
    rw [hw]
    omega
  refine And.intro trivial ?_
  refine And.intro rfl (And.intro ?_ (And.intro ?_ ?_))
  · show (0 + (bs.map rowB).length) * 1 ≤ 140737488355328
    simp only [List.length_map]
    omega
  · simp [allLen, rowB]
    intro a _
    rfl
  exact And.intro rfl rfl
/-- Num. -/
theorem t37_0 (bs : List Int) (hb : bs.length ≤ 140737488354000) (n : Int) (h1 : -9223372036854775808 ≤ n) (h2 : n ≤ 9223372036854775807) :
    Tri Try.prog 37 0 [.list .imm (bs.map rowB), .int .i64 n] [] (fun d l => d = .list (.own 1) ((bs ++ numB n).map rowB) ∧ l = []) := by
  refine Tri.walk2 (L := LT) (c := {la := false, n := 9, ko := [4]}) [(54, 0, [0])] [0, 1, 4] hLT hmix Try.func37 rfl rfl ⟨rfl, rfl⟩ (by show 2 ≤ 9; decide) (Nat.le_refl _) ?_
  refine ⟨rfl, Nat.le_refl 0, (t41_0 bs hb 10 (by omega) (by omega)).mono ?_⟩
  rintro d l ⟨rfl, rfl⟩
  refine ⟨rfl, fun _ _ => rfl, rfl, ?_⟩
  refine ⟨rfl, Nat.le_refl 0, (t54_0 1 (.inr rfl) bs (by omega) n h1 h2).mono ?_⟩
  rintro d l ⟨rfl, rfl⟩
  refine ⟨rfl, fun _ _ => rfl, rfl, ?_⟩
  exact And.intro rfl rfl
end Go.Lv

namespace Go.Lv
open Go.Proofs

theorem allLenB (bs : List Int) : allLen 1 (bs.map rowB) = true := by
  simp [allLen, rowB]
noncomputable def sQ (bs : List Int) (u : Int) : DS := ⟨[(5, .list (.own 1) (bs.map rowB)), (6, .int .u64 u), (4, .list (.own 0) [])], [], [], mR 0⟩
theorem t39_0 (bs : List Int) (hb : bs.length ≤ 140737488355000) (n : Int) :
    Tri Try.prog 39 0 [.list .imm (bs.map rowB), .int .i64 n] [] (fun d l => d = .list (.own 1) ((bs ++ numB n).map rowB) ∧ l = []) := by
  refine Tri.walk2 (L := LT) (c := {la := false, n := 32, ko := [4, 5], xf := [19, 27]}) [] [0, 1, 4, 5, 6, 14, 18] hLT hmix Try.func39 rfl rfl ⟨rfl, rfl⟩ (by show 2 ≤ 32; decide) (Nat.le_refl _) ?_
  have hz := zigU_range n
  refine And.intro trivial ?_
  refine And.intro rfl (And.intro ?_ (And.intro (allLenB bs) ?_))
  · show (0 + (bs.map rowB).length) * 1 ≤ 140737488355328
    simp only [List.length_map]
    omega
  have fin : ∀ (s : DS) (u0 : Int), u0 = zigU n → nmB [5, 6, 4] [] s = sQ bs u0 → ∀ c Q, (∀ f s, (∃ (u : Int) (pre : List Int), 0 ≤ u ∧ u < 128 ^ (f + 1) ∧ pre ++ putB f u = numB n ∧ pre.length + f = 9 ∧ s = sQ (bs ++ pre) u) → wC Try.prog ⟨LT, {la := false, n := 32, ko := [4, 5], xf := [19, 27]}, 0, 0⟩ [] [0, 1, 4, 5, 6, 14, 18] c s (Ex.then (fun s' => ∃ k', k' < f ∧ ∃ (u : Int) (pre : List Int), 0 ≤ u ∧ u < 128 ^ (k' + 1) ∧ pre ++ putB k' u = numB n ∧ pre.length + k' = 9 ∧ nmB [5, 6, 4] [] s' = sQ (bs ++ pre) u) Q)) → Ok Try.prog ⟨LT, {la := false, n := 32, ko := [4, 5], xf := [19, 27]}, 0, 0⟩ (.loop c) s Q := by
    intro s u0 hu0 hs c Q hr
    refine Ok.loopN hLT hmix [] [0, 1, 4, 5, 6, 14, 18] [5, 6, 4] [] (fun f s => ∃ (u : Int) (pre : List Int), 0 ≤ u ∧ u < 128 ^ (f + 1) ∧ pre ++ putB f u = numB n ∧ pre.length + f = 9 ∧ s = sQ (bs ++ pre) u) (n := 9) ⟨zigU n, [], hz.1, ?_, rfl, rfl, ?_⟩ hr
    · have : (128 : Int) ^ (9 + 1) = 1180591620717411303424 := by decide
      omega
    · rw [List.append_nil, ← hu0]
      exact hs
  refine And.intro (fun hn => ?_) (fun hn => ?_)
  · have hn := of_decide_eq_true hn
    show Ok _ _ _ _ _
    refine fin _ (zn (zu n)) (by unfold zigU; rw [if_pos hn]) rfl _ _ ?_
    rintro f s ⟨u, pre, hu0, hu1, hpre, hlen, rfl⟩
    have hroom : ((bs ++ pre).map rowB).length + 1 ≤ 140737488355328 := by
      simp only [List.length_map, List.length_append]
      omega
    refine And.intro (fun h => ?_) (fun h => ?_)
    · have h := of_decide_eq_true h
      cases f with
      | zero => exact absurd h (by simp at hu1; omega)
      | succ f =>
        refine And.intro trivial ?_
        refine And.intro rfl (And.intro ?_ (And.intro rfl ?_))
        · show (((bs ++ pre).map rowB).length + 1) * 1 ≤ 140737488355328
          omega
        have hs7 := sh7_lt hu0 hu1
        refine ⟨f, Nat.lt_succ_self f, sh7 u, pre ++ [orB u], hs7.1, hs7.2, ?_, by simp; omega, ?_⟩
        · rw [← hpre]
          conv => rhs; unfold putB
          rw [if_pos h]
          simp
        · have : (bs ++ (pre ++ [orB u])).map rowB = (bs ++ pre).map rowB ++ [rowB (orB u)] := by simp
          unfold sQ
          rw [this]
          rfl
    · have h := of_decide_eq_false h
      refine And.intro trivial ?_
      refine And.intro rfl (And.intro ?_ (And.intro rfl ?_))
      · show (((bs ++ pre).map rowB).length + 1) * 1 ≤ 140737488355328
        omega
      refine And.intro ?_ rfl
      rw [← hpre, putB_end h]
      have : (bs ++ (pre ++ [IntKind.u8.wrap u])).map rowB = (bs ++ pre).map rowB ++ [rowB (IntKind.u8.wrap u)] := by simp
      rw [this]
      rfl
  · have hn := of_decide_eq_false hn
    show Ok _ _ _ _ _
    refine fin _ (zu n) (by unfold zigU; rw [if_neg hn]) rfl _ _ ?_
    rintro f s ⟨u, pre, hu0, hu1, hpre, hlen, rfl⟩
    have hroom : ((bs ++ pre).map rowB).length + 1 ≤ 140737488355328 := by
      simp only [List.length_map, List.length_append]
      omega
    refine And.intro (fun h => ?_) (fun h => ?_)
    · have h := of_decide_eq_true h
      cases f with
      | zero => exact absurd h (by simp at hu1; omega)
      | succ f =>
        refine And.intro trivial ?_
        refine And.intro rfl (And.intro ?_ (And.intro rfl ?_))
        · show (((bs ++ pre).map rowB).length + 1) * 1 ≤ 140737488355328
          omega
        have hs7 := sh7_lt hu0 hu1
        refine ⟨f, Nat.lt_succ_self f, sh7 u, pre ++ [orB u], hs7.1, hs7.2, ?_, by simp; omega, ?_⟩
        · rw [← hpre]
          conv => rhs; unfold putB
          rw [if_pos h]
          simp
        · have : (bs ++ (pre ++ [orB u])).map rowB = (bs ++ pre).map rowB ++ [rowB (orB u)] := by simp
          unfold sQ
          rw [this]
          rfl
    · have h := of_decide_eq_false h
      refine And.intro trivial ?_
      refine And.intro rfl (And.intro ?_ (And.intro rfl ?_))
      · show (((bs ++ pre).map rowB).length + 1) * 1 ≤ 140737488355328
        omega
      refine And.intro ?_ rfl
      rw [← hpre, putB_end h]
      have : (bs ++ (pre ++ [IntKind.u8.wrap u])).map rowB = (bs ++ pre).map rowB ++ [rowB (IntKind.u8.wrap u)] := by simp
      rw [this]
      rfl

noncomputable def in64' (z : Int) : Prop := -9223372036854775808 ≤ z ∧ z ≤ 9223372036854775807
noncomputable def inRep (r : Rep) : Prop := in64' r.why ∧ in64' r.st ∧ in64' r.dr ∧ in64' r.tm
noncomputable def repB (r : Rep) : List Int := numB r.why ++ (numB r.st ++ (numB r.dr ++ numB r.tm))
theorem numB_len (n : Int) : (numB n).length ≤ 10 := putB_len 9 _
theorem repB_len (r : Rep) : (repB r).length ≤ 40 := by
  have h1 := numB_len r.why
  have h2 := numB_len r.st
  have h3 := numB_len r.dr
  have h4 := numB_len r.tm
  simp only [repB, List.length_append]
  omega
theorem t38_0 (bs : List Int) (hb : bs.length ≤ 140737488353900) (r : Rep) (hr : inRep r) :
    Tri Try.prog 38 0 [.list .imm (bs.map rowB), encR r] [] (fun d l => d = .list (.own 1) ((bs ++ repB r).map rowB) ∧ l = []) := by
  refine Tri.walk2 (L := LT) (c := {la := false, n := 18, ko := [4]}) [] [0, 3, 4] hLT hmix Try.func38 rfl rfl ⟨rfl, rfl⟩ (by show 2 ≤ 18; decide) (Nat.le_refl _) ?_
  refine ⟨⟨16383, [0, 0, 2, 5, 0, 16, 40, 0, 128, 320, 0, 1024, 2560, 8191], [1, 2, 6, 15, 16, 48, 127, 128, 384, 1023, 1024, 3072, 8191, 16383]⟩, by kernel_rfl, ?_⟩
  have h1 := numB_len r.why
  have h2 := numB_len r.st
  have h3 := numB_len r.dr
  refine And.intro ?_ trivial
  refine ⟨rfl, Nat.le_refl 0, (t37_0 bs (by omega) r.why hr.1.1 hr.1.2).mono ?_⟩
  rintro d l ⟨rfl, rfl⟩
  refine ⟨rfl, fun _ _ => rfl, rfl, ?_⟩
  refine And.intro ⟨⟨rfl, rfl⟩, ⟨rfl, rfl⟩, ⟨rfl, rfl⟩, ⟨rfl, rfl⟩, ⟨rfl, rfl⟩, ⟨rfl, rfl⟩, trivial⟩ ?_
  refine And.intro ?_ trivial
  refine ⟨rfl, Nat.le_refl 0, (t37_0 (bs ++ numB r.why) (by simp only [List.length_append]; omega) r.st hr.2.1.1 hr.2.1.2).mono ?_⟩
  rintro d l ⟨rfl, rfl⟩
  refine ⟨rfl, fun _ _ => rfl, rfl, ?_⟩
  refine And.intro ⟨⟨rfl, rfl⟩, ⟨rfl, rfl⟩, ⟨rfl, rfl⟩, ⟨rfl, rfl⟩, trivial⟩ ?_
  refine And.intro ?_ trivial
  refine ⟨rfl, Nat.le_refl 0, (t37_0 (bs ++ numB r.why ++ numB r.st) (by simp only [List.length_append]; omega) r.dr hr.2.2.1.1 hr.2.2.1.2).mono ?_⟩
  rintro d l ⟨rfl, rfl⟩
  refine ⟨rfl, fun _ _ => rfl, rfl, ?_⟩
  refine And.intro ⟨⟨rfl, rfl⟩, ⟨rfl, rfl⟩, trivial⟩ ?_
  refine And.intro ?_ trivial
  refine ⟨rfl, Nat.le_refl 0, (t37_0 (bs ++ numB r.why ++ numB r.st ++ numB r.dr) (by simp only [List.length_append]; omega) r.tm hr.2.2.2.1 hr.2.2.2.2).mono ?_⟩
  rintro d l ⟨rfl, rfl⟩
  refine ⟨rfl, fun _ _ => rfl, rfl, ?_⟩
  refine And.intro trivial ?_
  refine And.intro ?_ trivial
  refine And.intro trivial ?_
  refine And.intro ?_ rfl
  simp only [repB, List.append_assoc]
theorem t40_0 (bs : List Int) (hb : bs.length ≤ 140737488353900) (r : Rep) :
    Tri Try.prog 40 0 [.list .imm (bs.map rowB), encR r] [] (fun d l => d = .list (.own 1) ((bs ++ repB r).map rowB) ∧ l = []) := by
  refine Tri.walk2 (L := LT) (c := {la := false, n := 18, ko := [4]}) [] [0, 3, 4] hLT hmix Try.func40 rfl rfl ⟨rfl, rfl⟩ (by show 2 ≤ 18; decide) (Nat.le_refl _) ?_
  refine ⟨⟨16383, [0, 0, 2, 5, 0, 16, 40, 0, 128, 320, 0, 1024, 2560, 8191], [1, 2, 6, 15, 16, 48, 127, 128, 384, 1023, 1024, 3072, 8191, 16383]⟩, by kernel_rfl, ?_⟩
  have h1 := numB_len r.why
  have h2 := numB_len r.st
  have h3 := numB_len r.dr
  refine And.intro ?_ trivial
  refine ⟨rfl, Nat.le_refl 0, (t39_0 bs (by omega) r.why).mono ?_⟩
  rintro d l ⟨rfl, rfl⟩
  refine ⟨rfl, fun _ _ => rfl, rfl, ?_⟩
  refine And.intro ⟨⟨rfl, rfl⟩, ⟨rfl, rfl⟩, ⟨rfl, rfl⟩, ⟨rfl, rfl⟩, ⟨rfl, rfl⟩, ⟨rfl, rfl⟩, trivial⟩ ?_
  refine And.intro ?_ trivial
  refine ⟨rfl, Nat.le_refl 0, (t39_0 (bs ++ numB r.why) (by simp only [List.length_append]; omega) r.st).mono ?_⟩
  rintro d l ⟨rfl, rfl⟩
  refine ⟨rfl, fun _ _ => rfl, rfl, ?_⟩
  refine And.intro ⟨⟨rfl, rfl⟩, ⟨rfl, rfl⟩, ⟨rfl, rfl⟩, ⟨rfl, rfl⟩, trivial⟩ ?_
  refine And.intro ?_ trivial
  refine ⟨rfl, Nat.le_refl 0, (t39_0 (bs ++ numB r.why ++ numB r.st) (by simp only [List.length_append]; omega) r.dr).mono ?_⟩
  rintro d l ⟨rfl, rfl⟩
  refine ⟨rfl, fun _ _ => rfl, rfl, ?_⟩
  refine And.intro ⟨⟨rfl, rfl⟩, ⟨rfl, rfl⟩, trivial⟩ ?_
  refine And.intro ?_ trivial
  refine ⟨rfl, Nat.le_refl 0, (t39_0 (bs ++ numB r.why ++ numB r.st ++ numB r.dr) (by simp only [List.length_append]; omega) r.tm).mono ?_⟩
  rintro d l ⟨rfl, rfl⟩
  refine ⟨rfl, fun _ _ => rfl, rfl, ?_⟩
  refine And.intro trivial ?_
  refine And.intro ?_ trivial
  refine And.intro trivial ?_
  refine And.intro ?_ rfl
  simp only [repB, List.append_assoc]

theorem t35_0 (al bl : List Int) (ha : al.length ≤ 1000000000000000) (hb : bl.length ≤ 1000000000000000) :
    Tri Try.prog 35 0 [.list .imm (al.map rowI), .list .imm (bl.map rowI)] [] (fun d l => d = .bool (decide (al = bl)) ∧ l = []) := by
  refine Tri.walk2 (L := LT) (c := {la := false, n := 26, ko := [4]}) [] [0, 1, 4, 5, 10, 14, 25] hLT hmix Try.func35 rfl rfl ⟨rfl, rfl⟩ (by show 2 ≤ 26; decide) (Nat.le_refl _) ?_
  refine And.intro (fun hn => ?_) (fun hn => ?_)
  · refine And.intro ?_ rfl
    have : ¬ al = bl := by
      rintro rfl
      simp at hn
    rw [decide_eq_false this]
  · have hlen : al.length = bl.length := by
      simp at hn
      omega
    show Ok _ _ _ _ _
    refine Ok.loopN hLT hmix [] [0, 1, 4, 5, 10, 14, 25] [0, 1, 5, 4] [] (fun n s => ∃ i : Nat, n = al.length - i ∧ i ≤ al.length ∧ (∀ j, j < i → al[j]? = bl[j]?) ∧ s = ⟨[(0, .list .imm (al.map rowI)), (1, .list .imm (bl.map rowI)), (5, .int .i64 (i : Int)), (4, .bool false)], [], [], mR 0⟩) (n := al.length) ⟨0, rfl, Nat.zero_le _, fun j hj => absurd hj (Nat.not_lt_zero j), rfl⟩ ?_
    rintro n s ⟨i, rfl, hi, heq, rfl⟩
    refine And.intro (fun h => ?_) (fun h => ?_)
    · have h : ((i : Nat) : Int) < ((al.map rowI).length : Int) := of_decide_eq_true h
      rw [List.length_map] at h
      have hi1 : i < al.length := by omega
      have hi2 : i < bl.length := by omega
      refine ⟨⟨511, [0, 0, 3, 4, 0, 0, 48, 64, 136], [1, 2, 7, 15, 16, 32, 112, 240, 511]⟩, by kernel_rfl, ?_⟩
      refine ⟨al.map rowI, [.int .i64 al[i]], rfl, by omega, by rw [Int.toNat_natCast, List.getElem?_map, List.getElem?_eq_getElem hi1]; rfl, rfl, by decide, ?_⟩
      refine And.intro rfl ?_
      refine ⟨bl.map rowI, [.int .i64 bl[i]], rfl, by omega, by rw [Int.toNat_natCast, List.getElem?_map, List.getElem?_eq_getElem hi2]; rfl, rfl, by decide, ?_⟩
      refine And.intro rfl ?_
      refine And.intro (fun hne => ?_) (fun hne => ?_)
      · refine And.intro ?_ rfl
        have : ¬ al = bl := by
          rintro rfl
          simp at hne
        rw [decide_eq_false this]
      · have hq : al[i] = bl[i] := by simpa using hne
        have hw : IntKind.i64.wrap ((i : Int) + 1) = ((i + 1 : Nat) : Int) := by
          rw [wrap64 (by omega) (by omega)]
          omega
        refine ⟨al.length - (i + 1), by omega, i + 1, rfl, by omega, fun j hj => ?_, ?_⟩
        · rcases Nat.lt_or_ge j i with h' | h'
          · exact heq j h'
          · have : j = i := by omega
            subst this
            rw [List.getElem?_eq_getElem hi1, List.getElem?_eq_getElem hi2, hq]
        · rw [← hw]
          rfl
    · have h : ¬ ((i : Nat) : Int) < ((al.map rowI).length : Int) := of_decide_eq_false h
      rw [List.length_map] at h
      refine And.intro ?_ rfl
      have : al = bl := by
        apply List.ext_getElem?
        intro j
        rcases Nat.lt_or_ge j al.length with h' | h'
        · exact heq j (by omega)
        · rw [List.getElem?_eq_none h', List.getElem?_eq_none (by omega)]
      rw [decide_eq_true this]

theorem t19_0 (al bl : List Int) (ha : al.length ≤ 1000000000000000) (hb : bl.length ≤ 1000000000000000) :
    Tri Try.prog 19 0 [.list .imm (al.map rowB), .list .imm (bl.map rowB)] [] (fun d l => d = .bool (decide (al = bl)) ∧ l = []) := by
  refine Tri.walk2 (L := LT) (c := {la := false, n := 26, ko := [4]}) [] [0, 1, 4, 5, 10, 14, 25] hLT hmix Try.func19 rfl rfl ⟨rfl, rfl⟩ (by show 2 ≤ 26; decide) (Nat.le_refl _) ?_
  refine And.intro (fun hn => ?_) (fun hn => ?_)
  · refine And.intro ?_ rfl
    have : ¬ al = bl := by
      rintro rfl
      simp at hn
    rw [decide_eq_false this]
  · have hlen : al.length = bl.length := by
      simp at hn
      omega
    show Ok _ _ _ _ _
    refine Ok.loopN hLT hmix [] [0, 1, 4, 5, 10, 14, 25] [0, 1, 5, 4] [] (fun n s => ∃ i : Nat, n = al.length - i ∧ i ≤ al.length ∧ (∀ j, j < i → al[j]? = bl[j]?) ∧ s = ⟨[(0, .list .imm (al.map rowB)), (1, .list .imm (bl.map rowB)), (5, .int .i64 (i : Int)), (4, .bool false)], [], [], mR 0⟩) (n := al.length) ⟨0, rfl, Nat.zero_le _, fun j hj => absurd hj (Nat.not_lt_zero j), rfl⟩ ?_
    rintro n s ⟨i, rfl, hi, heq, rfl⟩
    refine And.intro (fun h => ?_) (fun h => ?_)
    · have h : ((i : Nat) : Int) < ((al.map rowB).length : Int) := of_decide_eq_true h
      rw [List.length_map] at h
      have hi1 : i < al.length := by omega
      have hi2 : i < bl.length := by omega
      refine ⟨⟨511, [0, 0, 3, 4, 0, 0, 48, 64, 136], [1, 2, 7, 15, 16, 32, 112, 240, 511]⟩, by kernel_rfl, ?_⟩
      refine ⟨al.map rowB, [.int .u8 al[i]], rfl, by omega, by rw [Int.toNat_natCast, List.getElem?_map, List.getElem?_eq_getElem hi1]; rfl, rfl, by decide, ?_⟩
      refine And.intro rfl ?_
      refine ⟨bl.map rowB, [.int .u8 bl[i]], rfl, by omega, by rw [Int.toNat_natCast, List.getElem?_map, List.getElem?_eq_getElem hi2]; rfl, rfl, by decide, ?_⟩
      refine And.intro rfl ?_
      refine And.intro (fun hne => ?_) (fun hne => ?_)
      · refine And.intro ?_ rfl
        have : ¬ al = bl := by
          rintro rfl
          simp at hne
        rw [decide_eq_false this]
      · have hq : al[i] = bl[i] := by simpa using hne
        have hw : IntKind.i64.wrap ((i : Int) + 1) = ((i + 1 : Nat) : Int) := by
          rw [wrap64 (by omega) (by omega)]
          omega
        refine ⟨al.length - (i + 1), by omega, i + 1, rfl, by omega, fun j hj => ?_, ?_⟩
        · rcases Nat.lt_or_ge j i with h' | h'
          · exact heq j h'
          · have : j = i := by omega
            subst this
            rw [List.getElem?_eq_getElem hi1, List.getElem?_eq_getElem hi2, hq]
        · rw [← hw]
          rfl
    · have h : ¬ ((i : Nat) : Int) < ((al.map rowB).length : Int) := of_decide_eq_false h
      rw [List.length_map] at h
      refine And.intro ?_ rfl
      have : al = bl := by
        apply List.ext_getElem?
        intro j
        rcases Nat.lt_or_ge j al.length with h' | h'
        · exact heq j (by omega)
        · rw [List.getElem?_eq_none h', List.getElem?_eq_none (by omega)]
      rw [decide_eq_true this]
end Go.Lv

namespace Go.Lv
open Go.Proofs

noncomputable def rowT (x : Int × Ent) : List D := [.int .i64 x.1, .int .i64 x.2.seq, .int .i64 x.2.rp.why, .int .i64 x.2.rp.st, .int .i64 x.2.rp.dr, .int .i64 x.2.rp.tm]
theorem row_at {α : Type} {f : α → List D} (l : List α) {i : Nat} (hi : i < l.length) : (l.map f)[((i : Nat) : Int).toNat]? = some (f l[i]) := by
  rw [Int.toNat_natCast, List.getElem?_map, List.getElem?_eq_getElem hi]
  rfl
theorem wrap_succ {i n : Nat} (hi : i < n) (hn : n ≤ 1000000000000000) : IntKind.i64.wrap ((i : Int) + 1) = ((i + 1 : Nat) : Int) := by
  rw [wrap64 (by omega) (by omega)]
  omega
/-- Last, the document's. -/
theorem t34_0 (l : Tbl) (hl : l.length ≤ 1000000000000) (k : Int) : Tri Try.prog 34 0 [.list .imm (l.map rowT), .int .i64 k] [] (fun d l' => d = .int .i64 (seqOf k l) ∧ l' = []) := by
  refine Tri.walk2 (L := LT) (c := {la := false, n := 24, ko := [4]}) [] [0, 1, 4, 5, 9, 18] hLT hmix Try.func34 rfl rfl ⟨rfl, rfl⟩ (by show 2 ≤ 24; decide) (Nat.le_refl _) ?_
  show Ok _ _ _ _ _
  refine Ok.loopN hLT hmix [] [0, 1, 4, 5, 9, 18] [0, 1, 5, 4] [] (fun n s => ∃ i : Nat, n = l.length - i ∧ i ≤ l.length ∧ getT k (l.drop i) = getT k l ∧ s = ⟨[(0, .list .imm (l.map rowT)), (1, .int .i64 k), (5, .int .i64 (i : Int)), (4, .int .i64 0)], [], [], mR 0⟩) (n := l.length) ⟨0, rfl, Nat.zero_le _, rfl, rfl⟩ ?_
  rintro n s ⟨i, rfl, hi, heq, rfl⟩
  refine And.intro (fun h => ?_) (fun h => ?_)
  · have h : ((i : Nat) : Int) < ((l.map rowT).length : Int) := of_decide_eq_true h
    rw [List.length_map] at h
    have hi1 : i < l.length := by omega
    have hd : l.drop i = l[i] :: l.drop (i + 1) := List.drop_eq_getElem_cons hi1
    refine ⟨l.map rowT, rowT l[i], rfl, by omega, row_at l hi1, rfl, by decide, ?_⟩
    refine And.intro (fun hq => ?_) (fun hq => ?_)
    · have hq : l[i].1 = k := of_decide_eq_true hq
      refine ⟨l.map rowT, rowT l[i], rfl, by omega, row_at l hi1, rfl, by decide, ?_⟩
      refine And.intro ?_ rfl
      have : getT k l = some l[i].2 := by rw [← heq, hd]; simp [getT, hq]
      simp only [seqOf, this]
    · have hq : ¬ l[i].1 = k := of_decide_eq_false hq
      have hw := wrap_succ hi1 (by omega)
      refine ⟨l.length - (i + 1), by omega, i + 1, rfl, by omega, ?_, ?_⟩
      · rw [← heq, hd]
        have : ¬ k = l[i].1 := fun e => hq e.symm
        simp [getT, this]
      · rw [← hw]
        rfl
  · have h : ¬ ((i : Nat) : Int) < ((l.map rowT).length : Int) := of_decide_eq_false h
    rw [List.length_map] at h
    refine And.intro ?_ rfl
    have : getT k l = none := by rw [← heq, List.drop_eq_nil_of_le (by omega)]; rfl
    simp only [seqOf, this]
/-- Sessions, the document's. -/
theorem t36_0 (l : Tbl) (hl : l.length ≤ 1000000000000) : Tri Try.prog 36 0 [.list .imm (l.map rowT)] [] (fun d l' => (∃ sz, d = .list (.own sz) ((l.map Prod.fst).map rowI) ∧ (sz = 0 ∨ sz = 1)) ∧ l' = []) := by
  refine Tri.walk2 (L := LT) (c := {la := false, n := 20, ko := [2, 3], xf := [11, 19]}) [] [0, 2, 3, 4, 8] hLT hmix Try.func36 rfl rfl ⟨rfl, rfl⟩ (by show 1 ≤ 20; decide) (Nat.le_refl _) ?_
  show Ok _ _ _ _ _
  refine Ok.loopN hLT hmix [] [0, 2, 3, 4, 8] [0, 3, 4, 2] [] (fun n s => ∃ (i sz : Nat), n = l.length - i ∧ i ≤ l.length ∧ (sz = 0 ∨ sz = 1) ∧ s = ⟨[(0, .list .imm (l.map rowT)), (3, .list (.own sz) (((l.take i).map Prod.fst).map rowI)), (4, .int .i64 (i : Int)), (2, .list (.own 0) [])], [], [], mR 0⟩) (n := l.length) ⟨0, 0, rfl, Nat.zero_le _, .inl rfl, rfl⟩ ?_
  rintro n s ⟨i, sz, rfl, hi, hsz, rfl⟩
  rcases hsz with rfl | rfl
  all_goals
    refine And.intro (fun h => ?_) (fun h => ?_)
    · have h : ((i : Nat) : Int) < ((l.map rowT).length : Int) := of_decide_eq_true h
      rw [List.length_map] at h
      have hi1 : i < l.length := by omega
      refine ⟨l.map rowT, rowT l[i], rfl, by omega, row_at l hi1, rfl, by decide, ?_⟩
      refine And.intro trivial ?_
      refine And.intro rfl (And.intro ?_ (And.intro rfl ?_))
      · show ((((l.take i).map Prod.fst).map rowI).length + 1) * 8 ≤ 140737488355328
        simp only [List.length_map, List.length_take]
        omega
      have hw := wrap_succ hi1 (by omega)
      refine ⟨l.length - (i + 1), by omega, i + 1, 1, rfl, by omega, .inr rfl, ?_⟩
      have ht : ((l.take (i + 1)).map Prod.fst).map rowI = ((l.take i).map Prod.fst).map rowI ++ [rowI l[i].1] := by
        rw [List.take_succ, List.getElem?_eq_getElem hi1, List.map_append, List.map_append]
        rfl
      rw [ht, ← hw]
      rfl
    · have h : ¬ ((i : Nat) : Int) < ((l.map rowT).length : Int) := of_decide_eq_false h
      rw [List.length_map] at h
      have ht : l.take i = l := List.take_of_length_le (by omega)
      rw [ht]
      exact And.intro ⟨_, rfl, by simp⟩ rfl

/-- Ask, the document's. -/
theorem askZ_bad {k q : Int} {l : Tbl} (h : ¬ (1 ≤ k ∧ k ≤ 1000000 ∧ 1 ≤ q ∧ q ≤ 1099511627776)) : askZ k q l = (⟨1, 0, 0, 0⟩, false) := by
  have : rightZ k q = false := by
    cases hr : rightZ k q with
    | false => rfl
    | true =>
      simp only [rightZ, Bool.and_eq_true, decide_eq_true_eq] at hr
      exact absurd hr h
  simp only [askZ, this, if_true]
theorem rightZ_of {k q : Int} (h : 1 ≤ k ∧ k ≤ 1000000 ∧ 1 ≤ q ∧ q ≤ 1099511627776) : rightZ k q = true := by
  simp only [rightZ, Bool.and_eq_true, decide_eq_true_eq]
  exact h
set_option maxHeartbeats 1000000 in
theorem t52_0 (l : Tbl) (hl : l.length ≤ 1000000000000) (k q : Int) : Tri Try.prog 52 0 [.list .imm (l.map rowT), .int .i64 k, .int .i64 q] [] (fun d l' => d = askD k q l ∧ l' = []) := by
  refine Tri.walk2 (L := LT) (c := {la := false, n := 63, ko := [7], kb := [6]}) [] [0, 1, 2, 6, 7, 8, 22, 27, 36, 43, 55, 60] hLT hmix Try.func52 rfl rfl ⟨rfl, rfl⟩ (by show 3 ≤ 63; decide) (Nat.le_refl _) ?_
  have bad : ¬ (1 ≤ k ∧ k ≤ 1000000 ∧ 1 ≤ q ∧ q ≤ 1099511627776) → D.tup [.agg [.int .i64 1, .int .i64 0, .int .i64 0, .int .i64 0], .bool false] = askD k q l := fun h => by simp only [askD, askZ_bad h, encR]
  refine And.intro (fun h1 => And.intro (bad fun h => by have := of_decide_eq_true h1; omega) rfl) (fun h1 => ?_)
  refine And.intro (fun h2 => And.intro (bad fun h => by have := of_decide_eq_true h2; omega) rfl) (fun h2 => ?_)
  refine And.intro (fun h3 => And.intro (bad fun h => by have := of_decide_eq_true h3; omega) rfl) (fun h3 => ?_)
  refine And.intro (fun h4 => And.intro (bad fun h => by have := of_decide_eq_true h4; omega) rfl) (fun h4 => ?_)
  have hr : rightZ k q = true := rightZ_of ⟨by have := of_decide_eq_false h1; omega, by have := of_decide_eq_false h2; omega, by have := of_decide_eq_false h3; omega, by have := of_decide_eq_false h4; omega⟩
  clear bad
  show Ok _ _ _ _ _
  refine Ok.loopN hLT hmix [] [0, 1, 2, 6, 7, 8, 22, 27, 36, 43, 55, 60] [0, 1, 2, 8, 6, 7] [6] (fun n s => ∃ i : Nat, n = l.length - i ∧ i ≤ l.length ∧ getT k (l.drop i) = getT k l ∧ s = ⟨[(0, .list .imm (l.map rowT)), (1, .int .i64 k), (2, .int .i64 q), (8, .int .i64 (i : Int)), (6, .lptr 6 0 0), (7, .bool false)], [(6, [.int .i64 0, .int .i64 0, .int .i64 0, .int .i64 0])], [], mR 0⟩) (n := l.length) ⟨0, rfl, Nat.zero_le _, rfl, rfl⟩ ?_
  rintro n s ⟨i, rfl, hi, heq, rfl⟩
  refine And.intro (fun h => ?_) (fun h => ?_)
  · have h : ((i : Nat) : Int) < ((l.map rowT).length : Int) := of_decide_eq_true h
    rw [List.length_map] at h
    have hi1 : i < l.length := by omega
    have hd : l.drop i = l[i] :: l.drop (i + 1) := List.drop_eq_getElem_cons hi1
    refine ⟨l.map rowT, rowT l[i], rfl, by omega, row_at l hi1, rfl, by decide, ?_⟩
    refine And.intro (fun hq => ?_) (fun hq => ?_)
    · have hq : ¬ l[i].1 = k := by simpa using hq
      have hw := wrap_succ hi1 (by omega)
      refine ⟨l.length - (i + 1), by omega, i + 1, rfl, by omega, ?_, ?_⟩
      · rw [← heq, hd]
        have : ¬ k = l[i].1 := fun e => hq e.symm
        simp [getT, this]
      · rw [← hw]
        rfl
    · have hq : l[i].1 = k := by simpa using hq
      have hg : getT k l = some l[i].2 := by rw [← heq, hd]; simp [getT, hq]
      refine ⟨l.map rowT, rowT l[i], rfl, by omega, row_at l hi1, rfl, by decide, ?_⟩
      refine And.intro (fun h5 => ?_) (fun h5 => ?_)
      · have h5 : l[i].2.seq = q := of_decide_eq_true h5
        refine ⟨l.map rowT, rowT l[i], rfl, by omega, row_at l hi1, rfl, by decide, ?_⟩
        refine And.intro ?_ rfl
        simp only [askD, askZ, hr, hg, encR]
        rw [if_neg (by simp), if_pos h5]
      · have h5 : ¬ l[i].2.seq = q := of_decide_eq_false h5
        refine ⟨l.map rowT, rowT l[i], rfl, by omega, row_at l hi1, rfl, by decide, ?_⟩
        refine And.intro (fun h6 => ?_) (fun h6 => ?_)
        · have h6 : l[i].2.seq > q := of_decide_eq_true h6
          refine And.intro ?_ rfl
          simp only [askD, askZ, hr, hg, encR]
          rw [if_neg (by simp), if_neg h5, if_pos h6]
        · have h6 : ¬ l[i].2.seq > q := of_decide_eq_false h6
          refine And.intro ?_ rfl
          simp only [askD, askZ, hr, hg, encR]
          rw [if_neg (by simp), if_neg h5, if_neg h6]
          rfl
  · have h : ¬ ((i : Nat) : Int) < ((l.map rowT).length : Int) := of_decide_eq_false h
    rw [List.length_map] at h
    have hg : getT k l = none := by rw [← heq, List.drop_eq_nil_of_le (by omega)]; rfl
    refine And.intro (fun h5 => ?_) (fun h5 => ?_)
    · have h5 : ((l.map rowT).length : Int) ≥ 16 := of_decide_eq_true h5
      rw [List.length_map] at h5
      refine And.intro ?_ rfl
      simp only [askD, askZ, hr, hg, encR]
      rw [if_neg (by simp), if_pos (by omega)]
    · have h5 : ¬ ((l.map rowT).length : Int) ≥ 16 := of_decide_eq_false h5
      rw [List.length_map] at h5
      refine And.intro ?_ rfl
      simp only [askD, askZ, hr, hg, encR]
      rw [if_neg (by simp), if_neg (by omega)]
      rfl
end Go.Lv

namespace Go.Lv
open Go.Proofs

/-- An entry put among rows that rise. -/
noncomputable def insR (k : Int) (e : Ent) : Tbl → Tbl
  | [] => [(k, e)]
  | x :: r => if x.1 < k then x :: insR k e r else if x.1 = k then (k, e) :: r else (k, e) :: x :: r
theorem insR_end (k : Int) (e : Ent) : ∀ (l : Tbl), (∀ x, x ∈ l → x.1 < k) → insR k e l = l ++ [(k, e)]
  | [], _ => rfl
  | x :: r, h => by
    unfold insR
    rw [if_pos (h x (by simp)), insR_end k e r fun y hy => h y (by simp [hy])]
    rfl
theorem insR_at (k : Int) (e : Ent) : ∀ (l : Tbl) (i : Nat) (hi : i < l.length), (∀ x, x ∈ l.take i → x.1 < k) → ¬ l[i].1 < k → insR k e l = l.take i ++ (k, e) :: (if l[i].1 = k then l.drop (i + 1) else l.drop i)
  | [], i, hi, _, _ => by simp at hi
  | x :: r, 0, hi, _, h => by
    have h : ¬ x.1 < k := h
    simp only [insR, if_neg h, List.take_zero, List.nil_append, List.getElem_cons_zero, List.drop_zero]
    split <;> rfl
  | x :: r, i + 1, hi, hl, h => by
    have hx : x.1 < k := hl x (by simp)
    have hi' : i < r.length := by simpa using hi
    have := insR_at k e r i hi' (fun y hy => hl y (by simp [hy])) (by simpa using h)
    simp only [insR, if_pos hx, List.take_succ_cons, List.cons_append, List.getElem_cons_succ, List.drop_succ_cons]
    rw [this]
noncomputable def doneR (k q : Int) (r : Rep) (l : Tbl) : Int × Tbl := if (askZ k q l).2 = true then (0, insR k ⟨q, r⟩ l) else (1, l)
theorem allLenT (l : Tbl) : allLen 6 (l.map rowT) = true := by simp [allLen, rowT]
theorem allLen_mono {n : Nat} {xs ys : List (List D)} (h : allLen n xs = true) (hs : ∀ r, r ∈ ys → r ∈ xs) : allLen n ys = true := by
  unfold allLen at *
  rw [List.all_eq_true] at *
  exact fun r hr => h r (hs r hr)

theorem rows_eq (l m : Tbl) (x : Int × Ent) (i j : Nat) (h : m = l.take i ++ x :: l.drop j) :
    ([] ++ (((l.map rowT).drop 0).take (((i : Nat) : Int).toNat - 0)) ++ [rowT x]) ++ ((l.map rowT).drop j).take ((l.map rowT).length - j) = m.map rowT := by
  rw [h, Int.toNat_natCast, Nat.sub_zero, List.drop_zero, List.nil_append, ← List.map_take, List.take_of_length_le (l := (l.map rowT).drop j) (by simp), ← List.map_drop, List.map_append, List.map_cons, List.append_assoc]
  rfl

set_option maxHeartbeats 4000000 in
theorem t53_0 (l : Tbl) (hl : l.length ≤ 1000000000) (k q : Int) (r : Rep) :
    Tri Try.prog 53 0 [.list .imm (l.map rowT), .int .i64 k, .int .i64 q, encR r] [] (fun d l' => (∃ kd, d = .tup [.list kd ((doneR k q r l).2.map rowT), .int .i64 (doneR k q r l).1] ∧ (kd = .own 6 ∨ kd = .imm)) ∧ l' = []) := by
  refine Tri.walk2 (L := LT) (c := {la := false, n := 72, ko := [8, 9, 14], xf := [67]}) [] [0, 1, 2, 7, 8, 9, 11, 12, 13, 14, 23, 41, 64] hLT hmix Try.func53 rfl rfl ⟨rfl, rfl⟩ (by show 4 ≤ 72; decide) (Nat.le_refl _) ?_
  refine ⟨rfl, Nat.le_refl 0, (t52_0 l (by omega) k q).mono ?_⟩
  rintro d l' ⟨hd, rfl⟩
  obtain ⟨⟨pw, ps, pd, pt⟩, fb, hz⟩ : ∃ p b, askZ k q l = (p, b) := ⟨_, _, rfl⟩
  rw [show askD k q l = .tup [.agg [.int .i64 pw, .int .i64 ps, .int .i64 pd, .int .i64 pt], .bool fb] by simp only [askD, hz, encR]] at hd
  subst hd
  refine ⟨rfl, fun _ _ => rfl, rfl, ?_⟩
  cases fb with
  | false =>
    have hdr : doneR k q r l = (1, l) := by simp [doneR, hz]
    rw [hdr]
    exact And.intro ⟨.imm, rfl, .inr rfl⟩ rfl
  | true =>
    have hdr : doneR k q r l = (0, insR k ⟨q, r⟩ l) := by simp [doneR, hz]
    rw [hdr]
    show Ok _ _ _ _ _
    refine Ok.loopN hLT hmix [] [0, 1, 2, 7, 8, 9, 11, 12, 13, 14, 23, 41, 64] [0, 1, 13, 12, 8, 9] [12] (fun n s => ∃ i : Nat, n = l.length - i ∧ i ≤ l.length ∧ (∀ x, x ∈ l.take i → x.1 < k) ∧ s = ⟨[(0, .list .imm (l.map rowT)), (1, .int .i64 k), (13, .int .i64 (i : Int)), (12, .lptr 12 0 0), (8, .list (.own 0) []), (9, .int .i64 0)], [(12, [.int .i64 k, .int .i64 q, .int .i64 r.why, .int .i64 r.st, .int .i64 r.dr, .int .i64 r.tm])], [], mR 0⟩) (n := l.length) ⟨0, rfl, Nat.zero_le _, fun x hx => by simp at hx, rfl⟩ ?_
    rintro n s ⟨i, rfl, hi, hlt, rfl⟩
    have hroom1 : (0 + (((l.map rowT).drop 0).take (((i : Nat) : Int).toNat - 0)).length) * 48 ≤ 140737488355328 := by
      simp only [List.length_take, List.length_drop, List.length_map]
      omega
    have hall1 : allLen 6 (((l.map rowT).drop 0).take (((i : Nat) : Int).toNat - 0)) = true := allLen_mono (allLenT l) fun r hr => List.mem_of_mem_drop (List.mem_of_mem_take hr)
    have hroom2 : (([] ++ (((l.map rowT).drop 0).take (((i : Nat) : Int).toNat - 0))).length + 1) * 48 ≤ 140737488355328 := by
      simp only [List.nil_append, List.length_take, List.length_drop, List.length_map]
      omega
    have hroom3 : ∀ (y : List D) (j m : Nat), (([] ++ (((l.map rowT).drop 0).take (((i : Nat) : Int).toNat - 0)) ++ [y]).length + (((l.map rowT).drop j).take m).length) * 48 ≤ 140737488355328 := fun y j m => by
      simp only [List.nil_append, List.length_append, List.length_cons, List.length_nil, List.length_take, List.length_drop, List.length_map]
      omega
    have hall3 : ∀ (j m : Nat), allLen 6 (((l.map rowT).drop j).take m) = true := fun j m => allLen_mono (allLenT l) fun r hr => List.mem_of_mem_drop (List.mem_of_mem_take hr)
    refine And.intro (fun h => ?_) (fun h => ?_)
    · have h : ((i : Nat) : Int) < ((l.map rowT).length : Int) := of_decide_eq_true h
      rw [List.length_map] at h
      have hi1 : i < l.length := by omega
      refine ⟨l.map rowT, rowT l[i], rfl, by omega, row_at l hi1, rfl, by decide, ?_⟩
      refine And.intro (fun hq => ?_) (fun hq => ?_)
      · have hq : l[i].1 < k := of_decide_eq_true hq
        have hw := wrap_succ hi1 (by omega)
        refine ⟨l.length - (i + 1), by omega, i + 1, rfl, by omega, fun x hx => ?_, ?_⟩
        · rw [List.take_succ, List.getElem?_eq_getElem hi1] at hx
          rcases List.mem_append.1 hx with hx | hx
          · exact hlt x hx
          · have : x = l[i] := by simpa using hx
            rw [this]; exact hq
        · rw [← hw]
          rfl
      · have hq : ¬ l[i].1 < k := of_decide_eq_false hq
        refine ⟨⟨511, [0, 0, 0, 6, 9, 0, 32, 80, 255], [1, 2, 4, 14, 31, 32, 96, 255, 511]⟩, by kernel_rfl, ?_⟩
        refine And.intro ⟨by omega, by rw [List.length_map]; omega⟩ (And.intro (Nat.zero_le _) (And.intro (by decide) (And.intro (allLenT l) ?_)))
        refine And.intro rfl ?_
        refine And.intro ?_ (And.intro ?_ trivial)
        focus
          refine And.intro (And.intro ⟨rfl, rfl⟩ (And.intro (And.intro ⟨by omega, by rw [List.length_map]; omega⟩ (And.intro (Nat.zero_le _) (And.intro (by decide) (And.intro (allLenT l) (And.intro rfl (And.intro rfl rfl)))))) (And.intro ⟨rfl, rfl⟩ (And.intro ⟨rfl, rfl⟩ trivial)))) ?_
          refine And.intro ?_ (And.intro ?_ trivial)
          focus
            refine And.intro trivial (And.intro rfl (And.intro hroom1 (And.intro hall1 ?_)))
            refine And.intro ⟨⟨rfl, rfl⟩, trivial⟩ ?_
            refine And.intro ?_ trivial
            refine And.intro trivial ?_
            refine And.intro ?_ trivial
            refine And.intro trivial (And.intro rfl (And.intro hroom2 (And.intro rfl ?_)))
            refine And.intro trivial ?_
            refine And.intro ?_ trivial
            refine And.intro trivial ?_
          rotate_left
          focus
            refine And.intro (And.intro (And.intro ⟨by omega, by rw [List.length_map]; omega⟩ (And.intro (Nat.zero_le _) (And.intro (by decide) (And.intro (allLenT l) (And.intro rfl (And.intro rfl rfl)))))) (And.intro ⟨rfl, rfl⟩ (And.intro ⟨rfl, rfl⟩ trivial))) ?_
            refine And.intro ?_ trivial
            refine And.intro trivial (And.intro rfl (And.intro hroom1 (And.intro hall1 ?_)))
            refine And.intro trivial ?_
            refine And.intro ?_ trivial
            refine And.intro trivial (And.intro rfl (And.intro hroom2 (And.intro rfl ?_)))
            refine And.intro trivial ?_
            refine And.intro ?_ trivial
            refine And.intro trivial ?_
        rotate_left 2
        focus
          refine And.intro (And.intro (And.intro ⟨by omega, by rw [List.length_map]; omega⟩ (And.intro (Nat.zero_le _) (And.intro (by decide) (And.intro (allLenT l) (And.intro rfl (And.intro rfl rfl)))))) (And.intro ⟨rfl, rfl⟩ (And.intro ⟨rfl, rfl⟩ trivial))) ?_
          refine And.intro ?_ trivial
          refine And.intro (And.intro (And.intro ⟨by omega, by rw [List.length_map]; omega⟩ (And.intro (Nat.zero_le _) (And.intro (by decide) (And.intro (allLenT l) (And.intro rfl (And.intro rfl rfl)))))) (And.intro ⟨rfl, rfl⟩ (And.intro ⟨rfl, rfl⟩ trivial))) ?_
          refine And.intro ?_ trivial
          refine And.intro trivial (And.intro rfl (And.intro hroom1 (And.intro hall1 ?_)))
          refine And.intro trivial ?_
          refine And.intro ?_ trivial
          refine And.intro trivial (And.intro rfl (And.intro hroom2 (And.intro rfl ?_)))
          refine And.intro trivial ?_
          refine And.intro ?_ trivial
          refine And.intro trivial ?_
        all_goals
          refine And.intro (fun _ => ?_) (fun h9 => absurd (of_decide_eq_false h9) (by rw [List.length_map]; omega))
          refine ⟨l.map rowT, rowT l[i], rfl, by omega, row_at l hi1, rfl, by decide, ?_⟩
          have hins := insR_at k ⟨q, r⟩ l i hi1 hlt hq
          refine And.intro (fun h10 => ?_) (fun h10 => ?_)
          · have h10 : l[i].1 = k := of_decide_eq_true h10
            have hw := wrap_succ hi1 (by omega)
            rw [if_pos h10] at hins
            refine And.intro (Nat.le_refl _) (And.intro ⟨by rw [hw]; omega, by rw [hw, List.length_map]; omega⟩ (And.intro (by decide) (And.intro (allLenT l) ?_)))
            refine And.intro trivial (And.intro rfl (And.intro (hroom3 _ _ _) (And.intro (hall3 _ _) ?_)))
            have hins : insR k ⟨q, r⟩ l = l.take i ++ (k, ⟨q, r⟩) :: l.drop ((IntKind.i64.wrap ((i : Int) + 1)).toNat) := by
              rw [hw, Int.toNat_natCast]
              exact hins
            exact And.intro ⟨.own 6, congrArg (fun rows => D.tup [D.list (.own 6) rows, .int .i64 0]) (rows_eq l _ (k, ⟨q, r⟩) i _ hins), .inl rfl⟩ rfl
          · have h10 : ¬ l[i].1 = k := of_decide_eq_false h10
            rw [if_neg h10] at hins
            refine And.intro (Nat.le_refl _) (And.intro ⟨by omega, by rw [List.length_map]; omega⟩ (And.intro (by decide) (And.intro (allLenT l) ?_)))
            refine And.intro trivial (And.intro rfl (And.intro (hroom3 _ _ _) (And.intro (hall3 _ _) ?_)))
            have hins : insR k ⟨q, r⟩ l = l.take i ++ (k, ⟨q, r⟩) :: l.drop (((i : Nat) : Int).toNat) := by
              rw [Int.toNat_natCast]
              exact hins
            exact And.intro ⟨.own 6, congrArg (fun rows => D.tup [D.list (.own 6) rows, .int .i64 0]) (rows_eq l _ (k, ⟨q, r⟩) i _ hins), .inl rfl⟩ rfl
    · have h : ¬ ((i : Nat) : Int) < ((l.map rowT).length : Int) := of_decide_eq_false h
      rw [List.length_map] at h
      refine ⟨⟨511, [0, 0, 0, 6, 9, 0, 32, 80, 255], [1, 2, 4, 14, 31, 32, 96, 255, 511]⟩, by kernel_rfl, ?_⟩
      refine And.intro ⟨by omega, by rw [List.length_map]; omega⟩ (And.intro (Nat.zero_le _) (And.intro (by decide) (And.intro (allLenT l) ?_)))
      refine And.intro rfl ?_
      refine And.intro ?_ (And.intro ?_ trivial)
      focus
        refine And.intro (And.intro ⟨rfl, rfl⟩ (And.intro (And.intro ⟨by omega, by rw [List.length_map]; omega⟩ (And.intro (Nat.zero_le _) (And.intro (by decide) (And.intro (allLenT l) (And.intro rfl (And.intro rfl rfl)))))) (And.intro ⟨rfl, rfl⟩ (And.intro ⟨rfl, rfl⟩ trivial)))) ?_
        refine And.intro ?_ (And.intro ?_ trivial)
        focus
          refine And.intro trivial (And.intro rfl (And.intro hroom1 (And.intro hall1 ?_)))
          refine And.intro ⟨⟨rfl, rfl⟩, trivial⟩ ?_
          refine And.intro ?_ trivial
          refine And.intro trivial ?_
          refine And.intro ?_ trivial
          refine And.intro trivial (And.intro rfl (And.intro hroom2 (And.intro rfl ?_)))
          refine And.intro trivial ?_
          refine And.intro ?_ trivial
          refine And.intro trivial ?_
        rotate_left
        focus
          refine And.intro (And.intro (And.intro ⟨by omega, by rw [List.length_map]; omega⟩ (And.intro (Nat.zero_le _) (And.intro (by decide) (And.intro (allLenT l) (And.intro rfl (And.intro rfl rfl)))))) (And.intro ⟨rfl, rfl⟩ (And.intro ⟨rfl, rfl⟩ trivial))) ?_
          refine And.intro ?_ trivial
          refine And.intro trivial (And.intro rfl (And.intro hroom1 (And.intro hall1 ?_)))
          refine And.intro trivial ?_
          refine And.intro ?_ trivial
          refine And.intro trivial (And.intro rfl (And.intro hroom2 (And.intro rfl ?_)))
          refine And.intro trivial ?_
          refine And.intro ?_ trivial
          refine And.intro trivial ?_
      rotate_left 2
      focus
        refine And.intro (And.intro (And.intro ⟨by omega, by rw [List.length_map]; omega⟩ (And.intro (Nat.zero_le _) (And.intro (by decide) (And.intro (allLenT l) (And.intro rfl (And.intro rfl rfl)))))) (And.intro ⟨rfl, rfl⟩ (And.intro ⟨rfl, rfl⟩ trivial))) ?_
        refine And.intro ?_ trivial
        refine And.intro (And.intro (And.intro ⟨by omega, by rw [List.length_map]; omega⟩ (And.intro (Nat.zero_le _) (And.intro (by decide) (And.intro (allLenT l) (And.intro rfl (And.intro rfl rfl)))))) (And.intro ⟨rfl, rfl⟩ (And.intro ⟨rfl, rfl⟩ trivial))) ?_
        refine And.intro ?_ trivial
        refine And.intro trivial (And.intro rfl (And.intro hroom1 (And.intro hall1 ?_)))
        refine And.intro trivial ?_
        refine And.intro ?_ trivial
        refine And.intro trivial (And.intro rfl (And.intro hroom2 (And.intro rfl ?_)))
        refine And.intro trivial ?_
        refine And.intro ?_ trivial
        refine And.intro trivial ?_
      all_goals
        refine And.intro (fun h9 => absurd (of_decide_eq_true h9) (by rw [List.length_map]; omega)) (fun _ => ?_)
        refine And.intro (Nat.le_refl _) (And.intro ⟨by omega, by rw [List.length_map]; omega⟩ (And.intro (by decide) (And.intro (allLenT l) ?_)))
        refine And.intro trivial (And.intro rfl (And.intro (hroom3 _ _ _) (And.intro (hall3 _ _) ?_)))
        have ht : l.take i = l := List.take_of_length_le (by omega)
        have hins : insR k ⟨q, r⟩ l = l.take i ++ (k, ⟨q, r⟩) :: l.drop (((i : Nat) : Int).toNat) := by
          rw [Int.toNat_natCast, List.drop_eq_nil_of_le (by omega), ht]
          rw [ht] at hlt
          exact insR_end k ⟨q, r⟩ l hlt
        exact And.intro ⟨.own 6, congrArg (fun rows => D.tup [D.list (.own 6) rows, .int .i64 0]) (rows_eq l _ (k, ⟨q, r⟩) i _ hins), .inl rfl⟩ rfl
end Go.Lv

namespace Go.Lv
open Go.Proofs

noncomputable def rowsB : Tbl → List Int
  | [] => []
  | x :: r => numB x.1 ++ (numB x.2.seq ++ (repB x.2.rp ++ rowsB r))
noncomputable def tblB (l : Tbl) : List Int := numB (l.length : Int) ++ rowsB l
theorem rowsB_len : ∀ l : Tbl, (rowsB l).length ≤ 60 * l.length
  | [] => by simp [rowsB]
  | x :: r => by
    have h1 := numB_len x.1
    have h2 := numB_len x.2.seq
    have h3 := repB_len x.2.rp
    have h4 := rowsB_len r
    simp only [rowsB, List.length_append, List.length_cons]
    omega
theorem rowsB_append : ∀ l m : Tbl, rowsB (l ++ m) = rowsB l ++ rowsB m
  | [], m => rfl
  | x :: r, m => by simp only [List.cons_append, rowsB, rowsB_append r m, List.append_assoc]
theorem rowsB_take (l : Tbl) {i : Nat} (hi : i < l.length) : rowsB (l.take (i + 1)) = rowsB (l.take i) ++ (numB l[i].1 ++ (numB l[i].2.seq ++ repB l[i].2.rp)) := by
  rw [List.take_succ, List.getElem?_eq_getElem hi, rowsB_append]
  simp [rowsB]
set_option maxHeartbeats 4000000 in
/-- The document's Put. -/
theorem t20_0 (bs : List Int) (l : Tbl) (hb : bs.length + 100 * l.length ≤ 140737488353000) (hl : l.length ≤ 1000000000) :
    Tri Try.prog 20 0 [.list .imm (bs.map rowB), .list .imm (l.map rowT)] [] (fun d l' => d = .list .imm ((bs ++ tblB l).map rowB) ∧ l' = []) := by
  refine Tri.walk2 (L := LT) (c := {la := false, n := 37, ko := [4]}) [] [0, 1, 4, 5, 6, 14] hLT hmix Try.func20 rfl rfl ⟨rfl, rfl⟩ (by show 2 ≤ 37; decide) (Nat.le_refl _) ?_
  refine ⟨rfl, Nat.le_refl 0, (t39_0 bs (by omega) ((l.map rowT).length : Int)).mono ?_⟩
  rintro d l' ⟨rfl, rfl⟩
  refine ⟨rfl, fun _ _ => rfl, rfl, ?_⟩
  show Ok _ _ _ _ _
  refine Ok.loopN hLT hmix [] [0, 1, 4, 5, 6, 14] [1, 5, 6, 4] [] (fun n s => ∃ i : Nat, n = l.length - i ∧ i ≤ l.length ∧ s = ⟨[(1, .list .imm (l.map rowT)), (5, .list .imm ((bs ++ numB ((l.map rowT).length : Int) ++ rowsB (l.take i)).map rowB)), (6, .int .i64 (i : Int)), (4, .list (.own 0) [])], [], [], mR 0⟩) (n := l.length) ⟨0, rfl, Nat.zero_le _, by rw [List.take_zero]; show _ = (⟨[(1, _), (5, .list .imm ((bs ++ numB ((l.map rowT).length : Int) ++ []).map rowB)), _, _], _, _, _⟩ : DS); rw [List.append_nil]; rfl⟩ ?_
  rintro n s ⟨i, rfl, hi, rfl⟩
  have hn := numB_len ((l.map rowT).length : Int)
  have hrb := rowsB_len (l.take i)
  have hti : (l.take i).length ≤ l.length := by rw [List.length_take]; omega
  refine And.intro (fun h => ?_) (fun h => ?_)
  · have h : ((i : Nat) : Int) < ((l.map rowT).length : Int) := of_decide_eq_true h
    rw [List.length_map] at h
    have hi1 : i < l.length := by omega
    have h1 := numB_len l[i].1
    have h2 := numB_len l[i].2.seq
    have hw := wrap_succ hi1 (by omega)
    refine ⟨⟨524287, [0, 0, 0, 6, 8, 16, 33, 0, 0, 384, 512, 1024, 2112, 0, 0, 24576, 32768, 65536, 135168, 524287], [1, 2, 4, 14, 30, 62, 127, 128, 256, 896, 1920, 3968, 8191, 8192, 16384, 57344, 122880, 253952, 524287, 1048575]⟩, by kernel_rfl, ?_⟩
    refine ⟨l.map rowT, rowT l[i], rfl, by omega, row_at l hi1, rfl, by decide, ?_⟩
    refine And.intro rfl ?_
    refine ⟨l.map rowT, rowT l[i], rfl, by omega, row_at l hi1, rfl, by decide, ?_⟩
    refine And.intro rfl ?_
    refine ⟨l.map rowT, rowT l[i], rfl, by omega, row_at l hi1, rfl, by decide, ?_⟩
    refine And.intro rfl ?_
    refine And.intro ?_ trivial
    refine ⟨rfl, Nat.le_refl 0, (t39_0 (bs ++ numB ((l.map rowT).length : Int) ++ rowsB (l.take i)) (by simp only [List.length_append]; omega) l[i].1).mono ?_⟩
    rintro d l' ⟨rfl, rfl⟩
    refine ⟨rfl, fun _ _ => rfl, rfl, ?_⟩
    refine And.intro (And.intro ⟨rfl, rfl⟩ (And.intro ⟨rfl, rfl⟩ (And.intro ⟨l.map rowT, rowT l[i], rfl, by omega, row_at l hi1, rfl, by decide, And.intro rfl (And.intro rfl rfl)⟩ (And.intro ⟨rfl, rfl⟩ (And.intro ⟨rfl, rfl⟩ (And.intro ⟨rfl, rfl⟩ (And.intro ⟨rfl, rfl⟩ (And.intro ⟨l.map rowT, rowT l[i], rfl, by omega, row_at l hi1, rfl, by decide, And.intro rfl (And.intro rfl rfl)⟩ (And.intro ⟨rfl, rfl⟩ (And.intro ⟨rfl, rfl⟩ trivial)))))))))) ?_
    refine And.intro ?_ trivial
    refine ⟨rfl, Nat.le_refl 0, (t39_0 (bs ++ numB ((l.map rowT).length : Int) ++ rowsB (l.take i) ++ numB l[i].1) (by simp only [List.length_append]; omega) l[i].2.seq).mono ?_⟩
    rintro d l' ⟨rfl, rfl⟩
    refine ⟨rfl, fun _ _ => rfl, rfl, ?_⟩
    refine And.intro (And.intro ⟨rfl, rfl⟩ (And.intro ⟨rfl, rfl⟩ (And.intro ⟨l.map rowT, rowT l[i], rfl, by omega, row_at l hi1, rfl, by decide, And.intro rfl (And.intro rfl rfl)⟩ (And.intro ⟨rfl, rfl⟩ (And.intro ⟨rfl, rfl⟩ trivial))))) ?_
    refine And.intro ?_ trivial
    refine ⟨rfl, Nat.le_refl 0, (t40_0 (bs ++ numB ((l.map rowT).length : Int) ++ rowsB (l.take i) ++ numB l[i].1 ++ numB l[i].2.seq) (by simp only [List.length_append]; omega) l[i].2.rp).mono ?_⟩
    rintro d l' ⟨rfl, rfl⟩
    refine ⟨rfl, fun _ _ => rfl, rfl, ?_⟩
    refine And.intro trivial ?_
    refine And.intro ?_ trivial
    refine And.intro trivial ?_
    refine ⟨l.length - (i + 1), by omega, i + 1, rfl, by omega, ?_⟩
    rw [rowsB_take l hi1, ← hw]
    have : bs ++ numB ((l.map rowT).length : Int) ++ (rowsB (l.take i) ++ (numB l[i].1 ++ (numB l[i].2.seq ++ repB l[i].2.rp))) = bs ++ numB ((l.map rowT).length : Int) ++ rowsB (l.take i) ++ numB l[i].1 ++ numB l[i].2.seq ++ repB l[i].2.rp := by simp only [List.append_assoc]
    rw [this]
    rfl
  · have h : ¬ ((i : Nat) : Int) < ((l.map rowT).length : Int) := of_decide_eq_false h
    rw [List.length_map] at h
    refine And.intro ?_ rfl
    have ht : l.take i = l := List.take_of_length_le (by omega)
    rw [ht]
    simp only [tblB, List.length_map, List.append_assoc]
end Go.Lv

namespace Go.Lv
open Go.Proofs

theorem nrBLL_B : ∀ bs : List Int, nrBLL 0 (bs.map rowB) = true
  | [] => rfl
  | b :: r => by
    show (nrBL 0 (rowB b) && nrBLL 0 (r.map rowB)) = true
    rw [nrBLL_B r]
    rfl
theorem nrBL_B {bs : List Int} {d : D} (hd : nrB 0 d = true) : nrBL 0 [.list .imm (bs.map rowB), d] = true := by
  show (nrBLL 0 (bs.map rowB) && (nrB 0 d && true)) = true
  rw [nrBLL_B, hd]
  rfl
theorem t37 (bs : List Int) (hb : bs.length ≤ 140737488354000) (n : Int) (h1 : -9223372036854775808 ≤ n) (h2 : n ≤ 9223372036854775807) {r : Nat} {sto : List Ob} (hr : r ≤ sto.length) :
    Tri Try.prog 37 r [.list .imm (bs.map rowB), .int .i64 n] sto (fun d l => d = .list (.own 1) ((bs ++ numB n).map rowB) ∧ l = sto) :=
  (t37_0 bs hb n h1 h2).pure rfl (nrBL_B rfl) rfl (nrBLL_B _) hr
theorem t38 (bs : List Int) (hb : bs.length ≤ 140737488353900) (p : Rep) (hp : inRep p) {r : Nat} {sto : List Ob} (hr : r ≤ sto.length) :
    Tri Try.prog 38 r [.list .imm (bs.map rowB), encR p] sto (fun d l => d = .list (.own 1) ((bs ++ repB p).map rowB) ∧ l = sto) :=
  (t38_0 bs hb p hp).pure rfl (nrBL_B rfl) rfl (nrBLL_B _) hr

noncomputable def tabK (m : Tbl) (ks : List Int) : Tbl := ks.map fun k => (k, (getT k m).getD ⟨0, rep0⟩)
noncomputable def tabR (m : Tbl) : Tbl := tabK m (sortI (m.map Prod.fst))
theorem getT_mem {k : Int} {e : Ent} : ∀ {m : Tbl}, getT k m = some e → (k, e) ∈ m
  | [], h => by cases h
  | x :: r, h => by
    unfold getT at h
    split at h
    · rename_i hk
      cases h
      rw [hk]
      exact List.mem_cons_self
    · exact List.mem_cons_of_mem _ (getT_mem h)
theorem getT_key {k : Int} : ∀ {m : Tbl}, k ∈ m.map Prod.fst → ∃ e, getT k m = some e
  | [], h => by simp at h
  | x :: r, h => by
    unfold getT
    split
    · exact ⟨_, rfl⟩
    · rename_i hk
      refine getT_key ?_
      rcases List.mem_cons.1 h with h | h
      · exact absurd h hk
      · exact h
noncomputable def inTbl (m : Tbl) : Prop := ∀ x, x ∈ m → in64' x.1 ∧ in64' x.2.seq ∧ inRep x.2.rp
set_option maxHeartbeats 8000000 in
/-- Put. -/
theorem t18 (hC : TurnC Try.prog 32 sortI) (m : Tbl) (hm : m.length ≤ 1000) (hin : inTbl m) (bs : List Int) (hb : bs.length + 100 * m.length ≤ 140737488353000) :
    Tri Try.prog 18 2 [.gptr 1 0, .list .imm (bs.map rowB)] (stT m) (fun d l' => d = .list (.own 1) ((bs ++ (numB (m.length : Int) ++ rowsB (tabR m))).map rowB) ∧ l' = stT m) := by
  refine Tri.walk2 (L := LT) (c := {la := false, n := 41, ko := [4, 5], xf := [29, 40]}) [] [0, 1, 4, 5, 7, 8, 17, 18, 19, 20] hLT hmix Try.func18 rfl rfl ⟨rfl, rfl⟩ (by show 2 ≤ 41; decide) (by show 2 ≤ 2; decide) ?_
  have hlm : ((encT m).length : Int) = (m.length : Int) := by rw [encT_len]
  refine ⟨rfl, Nat.le_refl 2, (t37 bs (by omega) ((encT m).length : Int) (by rw [hlm]; omega) (by rw [hlm]; omega) (r := 2) (sto := stT m) (Nat.le_refl 2)).mono ?_⟩
  rintro d l' ⟨rfl, rfl⟩
  refine ⟨rfl, fun _ _ => rfl, rfl, ?_⟩
  refine ⟨rfl, Nat.le_refl 2, (t14 hC m hm).mono ?_⟩
  rintro d l' ⟨⟨sz, rfl, hsz⟩, rfl⟩
  refine ⟨rfl, fun _ _ => rfl, rfl, ?_⟩
  unfold tabR
  have hkeys : ∀ k, k ∈ sortI (m.map Prod.fst) → k ∈ m.map Prod.fst := fun k h => (sortI_perm _).mem_iff.1 h
  have hlk : (sortI (m.map Prod.fst)).length = m.length := by rw [(sortI_perm _).length_eq, List.length_map]
  generalize sortI (m.map Prod.fst) = ks at hkeys hlk
  rw [hlm]
  rcases hsz with rfl | rfl
  · show Ok _ _ _ _ _
    refine Ok.loopN hLT hmix [] [0, 1, 4, 5, 7, 8, 17, 18, 19, 20] [0, 5, 17, 18, 19, 4] [] (fun n s => ∃ i : Nat, n = ks.length - i ∧ i ≤ ks.length ∧ s = ⟨[(0, .gptr 1 0), (5, .list (.own 1) ((bs ++ numB (m.length : Int) ++ rowsB (tabK m (ks.take i))).map rowB)), (17, .list (.own 0) (ks.map rowI)), (18, .int .i64 ((ks.map rowI).length : Int)), (19, .int .i64 (i : Int)), (4, .list (.own 0) [])], [], stT m, mR 2⟩) (n := ks.length) ⟨0, rfl, Nat.zero_le _, by rw [List.take_zero]; show _ = (⟨[_, (5, .list (.own 1) ((bs ++ numB (m.length : Int) ++ []).map rowB)), _, _, _, _], _, _, _⟩ : DS); rw [List.append_nil]; rfl⟩ ?_
    rintro n s ⟨i, rfl, hi, rfl⟩
    have hn := numB_len (m.length : Int)
    have hrb := rowsB_len (tabK m (ks.take i))
    have hti : (tabK m (ks.take i)).length ≤ ks.length := by simp only [tabK, List.length_map, List.length_take]; omega
    refine And.intro (fun h => ?_) (fun h => ?_)
    · have h : ((i : Nat) : Int) < ((ks.map rowI).length : Int) := of_decide_eq_true h
      rw [List.length_map] at h
      have hi1 : i < ks.length := by omega
      have hrow := row_at (f := rowI) ks hi1
      have hw := wrap_succ hi1 (by omega)
      refine ⟨ks.map rowI, rowI ks[i], rfl, by omega, hrow, rfl, (by show 0 < 1; decide), ?_⟩
      refine ⟨[.int .i64 ks[i]], .int .i64 ks[i], ?_, rfl, rfl, ?_⟩
      · show (match (match ((ks.map rowI)[((i : Nat) : Int).toNat]? : Option (List D)) with | some r => if r.length = 1 then some r else none | none => none) with | some r => sliceL r 0 1 | none => none) = _
        rw [hrow]
        rfl
      obtain ⟨e, hg⟩ := getT_key (hkeys ks[i] (List.getElem_mem hi1))
      obtain ⟨hk, hq, he⟩ := hin _ (getT_mem hg)
      have hf := findT ks[i] m
      rw [hg] at hf
      have htk : rowsB (tabK m (ks.take (i + 1))) = rowsB (tabK m (ks.take i)) ++ (numB ks[i] ++ (numB e.seq ++ repB e.rp)) := by
        unfold tabK
        rw [List.take_succ, List.getElem?_eq_getElem hi1, List.map_append, rowsB_append]
        simp [rowsB, hg]
      generalize ks[i] = k at hg hk hf htk
      refine And.intro rfl ⟨some (encE e), hf, ?_⟩
      have h1 := numB_len k
      have h2 := numB_len e.seq
      have h3 := repB_len e.rp
      have hroom : (((bs ++ numB (m.length : Int) ++ rowsB (tabK m (ks.take i))).map rowB).length + (([] ++ numB k ++ numB e.seq ++ repB e.rp).map rowB).length) * 1 ≤ 140737488355328 := by
        simp only [List.length_map, List.length_append, List.length_nil]
        omega
      refine ⟨⟨1023, [0, 0, 2, 0, 8, 20, 0, 64, 160, 257, 1023], [1, 2, 6, 8, 24, 62, 64, 192, 510, 1023, 2047]⟩, by kernel_rfl, ?_⟩
      refine And.intro ?_ (And.intro ?_ trivial)
      focus
        refine And.intro (And.intro ⟨rfl, rfl⟩ (And.intro ⟨rfl, rfl⟩ (And.intro ⟨rfl, rfl⟩ (And.intro ⟨rfl, rfl⟩ (And.intro ⟨rfl, rfl⟩ trivial))))) ?_
        refine And.intro ?_ trivial
        refine ⟨rfl, Nat.le_refl 2, (t37 [] (by simp) k hk.1 hk.2 (r := 2) (sto := stT m) (Nat.le_refl 2)).mono ?_⟩
        rintro d l' ⟨rfl, rfl⟩
        refine ⟨rfl, fun _ _ => rfl, rfl, ?_⟩
        refine And.intro (And.intro ⟨rfl, rfl⟩ (And.intro ⟨rfl, rfl⟩ (And.intro ⟨rfl, rfl⟩ (And.intro ⟨rfl, rfl⟩ trivial)))) ?_
        refine And.intro ?_ trivial
        refine ⟨rfl, Nat.le_refl 2, (t37 ([] ++ numB k) (by simp only [List.length_append, List.length_nil]; omega) e.seq hq.1 hq.2 (r := 2) (sto := stT m) (Nat.le_refl 2)).mono ?_⟩
        rintro d l' ⟨rfl, rfl⟩
        refine ⟨rfl, fun _ _ => rfl, rfl, ?_⟩
        refine And.intro (And.intro ⟨rfl, rfl⟩ (And.intro ⟨rfl, rfl⟩ trivial)) ?_
        refine And.intro ?_ trivial
        refine ⟨rfl, Nat.le_refl 2, (t38 ([] ++ numB k ++ numB e.seq) (by simp only [List.length_append, List.length_nil]; omega) e.rp he (r := 2) (sto := stT m) (Nat.le_refl 2)).mono ?_⟩
        rintro d l' ⟨rfl, rfl⟩
        refine ⟨rfl, fun _ _ => rfl, rfl, ?_⟩
        refine And.intro trivial ?_
        refine And.intro ?_ trivial
        refine And.intro trivial (And.intro rfl (And.intro hroom (And.intro (allLenB _) ?_)))
        refine And.intro trivial ?_
        refine And.intro ?_ trivial
        refine And.intro trivial ?_
      rotate_left
      focus
        refine ⟨rfl, Nat.le_refl 2, (t37 [] (by simp) k hk.1 hk.2 (r := 2) (sto := stT m) (Nat.le_refl 2)).mono ?_⟩
        rintro d l' ⟨rfl, rfl⟩
        refine ⟨rfl, fun _ _ => rfl, rfl, ?_⟩
        refine And.intro (And.intro ⟨rfl, rfl⟩ (And.intro ⟨rfl, rfl⟩ (And.intro ⟨rfl, rfl⟩ (And.intro ⟨rfl, rfl⟩ trivial)))) ?_
        refine And.intro ?_ (And.intro ?_ trivial)
        focus
          refine And.intro (And.intro ⟨rfl, rfl⟩ (And.intro ⟨rfl, rfl⟩ (And.intro ⟨rfl, rfl⟩ (And.intro ⟨rfl, rfl⟩ trivial)))) ?_
          refine And.intro ?_ trivial
          refine ⟨rfl, Nat.le_refl 2, (t37 ([] ++ numB k) (by simp only [List.length_append, List.length_nil]; omega) e.seq hq.1 hq.2 (r := 2) (sto := stT m) (Nat.le_refl 2)).mono ?_⟩
          rintro d l' ⟨rfl, rfl⟩
          refine ⟨rfl, fun _ _ => rfl, rfl, ?_⟩
          refine And.intro (And.intro ⟨rfl, rfl⟩ (And.intro ⟨rfl, rfl⟩ trivial)) ?_
          refine And.intro ?_ trivial
          refine ⟨rfl, Nat.le_refl 2, (t38 ([] ++ numB k ++ numB e.seq) (by simp only [List.length_append, List.length_nil]; omega) e.rp he (r := 2) (sto := stT m) (Nat.le_refl 2)).mono ?_⟩
          rintro d l' ⟨rfl, rfl⟩
          refine ⟨rfl, fun _ _ => rfl, rfl, ?_⟩
          refine And.intro trivial ?_
          refine And.intro ?_ trivial
          refine And.intro trivial (And.intro rfl (And.intro hroom (And.intro (allLenB _) ?_)))
          refine And.intro trivial ?_
          refine And.intro ?_ trivial
          refine And.intro trivial ?_
        rotate_left
        focus
          refine ⟨rfl, Nat.le_refl 2, (t37 ([] ++ numB k) (by simp only [List.length_append, List.length_nil]; omega) e.seq hq.1 hq.2 (r := 2) (sto := stT m) (Nat.le_refl 2)).mono ?_⟩
          rintro d l' ⟨rfl, rfl⟩
          refine ⟨rfl, fun _ _ => rfl, rfl, ?_⟩
          refine And.intro (And.intro ⟨rfl, rfl⟩ (And.intro ⟨rfl, rfl⟩ trivial)) ?_
          refine And.intro ?_ (And.intro ?_ trivial)
          focus
            refine And.intro (And.intro ⟨rfl, rfl⟩ (And.intro ⟨rfl, rfl⟩ trivial)) ?_
            refine And.intro ?_ trivial
            refine ⟨rfl, Nat.le_refl 2, (t38 ([] ++ numB k ++ numB e.seq) (by simp only [List.length_append, List.length_nil]; omega) e.rp he (r := 2) (sto := stT m) (Nat.le_refl 2)).mono ?_⟩
            rintro d l' ⟨rfl, rfl⟩
            refine ⟨rfl, fun _ _ => rfl, rfl, ?_⟩
            refine And.intro trivial ?_
            refine And.intro ?_ trivial
            refine And.intro trivial (And.intro rfl (And.intro hroom (And.intro (allLenB _) ?_)))
            refine And.intro trivial ?_
            refine And.intro ?_ trivial
            refine And.intro trivial ?_
          rotate_left
          focus
            refine ⟨rfl, Nat.le_refl 2, (t38 ([] ++ numB k ++ numB e.seq) (by simp only [List.length_append, List.length_nil]; omega) e.rp he (r := 2) (sto := stT m) (Nat.le_refl 2)).mono ?_⟩
            rintro d l' ⟨rfl, rfl⟩
            refine ⟨rfl, fun _ _ => rfl, rfl, ?_⟩
            refine And.intro trivial ?_
            refine And.intro ?_ trivial
            refine And.intro trivial ?_
            refine And.intro ?_ trivial
            refine And.intro trivial (And.intro rfl (And.intro hroom (And.intro (allLenB _) ?_)))
            refine And.intro trivial ?_
            refine And.intro ?_ trivial
            refine And.intro trivial ?_
      all_goals
        refine ⟨ks.length - (i + 1), by omega, i + 1, rfl, by omega, ?_⟩
        rw [htk, ← hw]
        have : (bs ++ numB (m.length : Int) ++ (rowsB (tabK m (ks.take i)) ++ (numB k ++ (numB e.seq ++ repB e.rp)))).map rowB = (bs ++ numB (m.length : Int) ++ rowsB (tabK m (ks.take i))).map rowB ++ ([] ++ numB k ++ numB e.seq ++ repB e.rp).map rowB := by simp only [List.map_append, List.append_assoc, List.nil_append, List.map_nil]
        rw [this]
        rfl
    · have h : ¬ ((i : Nat) : Int) < ((ks.map rowI).length : Int) := of_decide_eq_false h
      rw [List.length_map] at h
      refine And.intro ?_ rfl
      have ht : ks.take i = ks := List.take_of_length_le (by omega)
      rw [ht]
      simp only [List.append_assoc]
  · show Ok _ _ _ _ _
    refine Ok.loopN hLT hmix [] [0, 1, 4, 5, 7, 8, 17, 18, 19, 20] [0, 5, 17, 18, 19, 4] [] (fun n s => ∃ i : Nat, n = ks.length - i ∧ i ≤ ks.length ∧ s = ⟨[(0, .gptr 1 0), (5, .list (.own 1) ((bs ++ numB (m.length : Int) ++ rowsB (tabK m (ks.take i))).map rowB)), (17, .list (.own 1) (ks.map rowI)), (18, .int .i64 ((ks.map rowI).length : Int)), (19, .int .i64 (i : Int)), (4, .list (.own 0) [])], [], stT m, mR 2⟩) (n := ks.length) ⟨0, rfl, Nat.zero_le _, by rw [List.take_zero]; show _ = (⟨[_, (5, .list (.own 1) ((bs ++ numB (m.length : Int) ++ []).map rowB)), _, _, _, _], _, _, _⟩ : DS); rw [List.append_nil]; rfl⟩ ?_
    rintro n s ⟨i, rfl, hi, rfl⟩
    have hn := numB_len (m.length : Int)
    have hrb := rowsB_len (tabK m (ks.take i))
    have hti : (tabK m (ks.take i)).length ≤ ks.length := by simp only [tabK, List.length_map, List.length_take]; omega
    refine And.intro (fun h => ?_) (fun h => ?_)
    · have h : ((i : Nat) : Int) < ((ks.map rowI).length : Int) := of_decide_eq_true h
      rw [List.length_map] at h
      have hi1 : i < ks.length := by omega
      have hrow := row_at (f := rowI) ks hi1
      have hw := wrap_succ hi1 (by omega)
      refine ⟨ks.map rowI, rowI ks[i], rfl, by omega, hrow, rfl, (by show 0 < 1; decide), ?_⟩
      refine ⟨[.int .i64 ks[i]], .int .i64 ks[i], ?_, rfl, rfl, ?_⟩
      · show (match (match ((ks.map rowI)[((i : Nat) : Int).toNat]? : Option (List D)) with | some r => if r.length = 1 then some r else none | none => none) with | some r => sliceL r 0 1 | none => none) = _
        rw [hrow]
        rfl
      obtain ⟨e, hg⟩ := getT_key (hkeys ks[i] (List.getElem_mem hi1))
      obtain ⟨hk, hq, he⟩ := hin _ (getT_mem hg)
      have hf := findT ks[i] m
      rw [hg] at hf
      have htk : rowsB (tabK m (ks.take (i + 1))) = rowsB (tabK m (ks.take i)) ++ (numB ks[i] ++ (numB e.seq ++ repB e.rp)) := by
        unfold tabK
        rw [List.take_succ, List.getElem?_eq_getElem hi1, List.map_append, rowsB_append]
        simp [rowsB, hg]
      generalize ks[i] = k at hg hk hf htk
      refine And.intro rfl ⟨some (encE e), hf, ?_⟩
      have h1 := numB_len k
      have h2 := numB_len e.seq
      have h3 := repB_len e.rp
      have hroom : (((bs ++ numB (m.length : Int) ++ rowsB (tabK m (ks.take i))).map rowB).length + (([] ++ numB k ++ numB e.seq ++ repB e.rp).map rowB).length) * 1 ≤ 140737488355328 := by
        simp only [List.length_map, List.length_append, List.length_nil]
        omega
      refine ⟨⟨1023, [0, 0, 2, 0, 8, 20, 0, 64, 160, 257, 1023], [1, 2, 6, 8, 24, 62, 64, 192, 510, 1023, 2047]⟩, by kernel_rfl, ?_⟩
      refine And.intro ?_ (And.intro ?_ trivial)
      focus
        refine And.intro (And.intro ⟨rfl, rfl⟩ (And.intro ⟨rfl, rfl⟩ (And.intro ⟨rfl, rfl⟩ (And.intro ⟨rfl, rfl⟩ (And.intro ⟨rfl, rfl⟩ trivial))))) ?_
        refine And.intro ?_ trivial
        refine ⟨rfl, Nat.le_refl 2, (t37 [] (by simp) k hk.1 hk.2 (r := 2) (sto := stT m) (Nat.le_refl 2)).mono ?_⟩
        rintro d l' ⟨rfl, rfl⟩
        refine ⟨rfl, fun _ _ => rfl, rfl, ?_⟩
        refine And.intro (And.intro ⟨rfl, rfl⟩ (And.intro ⟨rfl, rfl⟩ (And.intro ⟨rfl, rfl⟩ (And.intro ⟨rfl, rfl⟩ trivial)))) ?_
        refine And.intro ?_ trivial
        refine ⟨rfl, Nat.le_refl 2, (t37 ([] ++ numB k) (by simp only [List.length_append, List.length_nil]; omega) e.seq hq.1 hq.2 (r := 2) (sto := stT m) (Nat.le_refl 2)).mono ?_⟩
        rintro d l' ⟨rfl, rfl⟩
        refine ⟨rfl, fun _ _ => rfl, rfl, ?_⟩
        refine And.intro (And.intro ⟨rfl, rfl⟩ (And.intro ⟨rfl, rfl⟩ trivial)) ?_
        refine And.intro ?_ trivial
        refine ⟨rfl, Nat.le_refl 2, (t38 ([] ++ numB k ++ numB e.seq) (by simp only [List.length_append, List.length_nil]; omega) e.rp he (r := 2) (sto := stT m) (Nat.le_refl 2)).mono ?_⟩
        rintro d l' ⟨rfl, rfl⟩
        refine ⟨rfl, fun _ _ => rfl, rfl, ?_⟩
        refine And.intro trivial ?_
        refine And.intro ?_ trivial
        refine And.intro trivial (And.intro rfl (And.intro hroom (And.intro (allLenB _) ?_)))
        refine And.intro trivial ?_
        refine And.intro ?_ trivial
        refine And.intro trivial ?_
      rotate_left
      focus
        refine ⟨rfl, Nat.le_refl 2, (t37 [] (by simp) k hk.1 hk.2 (r := 2) (sto := stT m) (Nat.le_refl 2)).mono ?_⟩
        rintro d l' ⟨rfl, rfl⟩
        refine ⟨rfl, fun _ _ => rfl, rfl, ?_⟩
        refine And.intro (And.intro ⟨rfl, rfl⟩ (And.intro ⟨rfl, rfl⟩ (And.intro ⟨rfl, rfl⟩ (And.intro ⟨rfl, rfl⟩ trivial)))) ?_
        refine And.intro ?_ (And.intro ?_ trivial)
        focus
          refine And.intro (And.intro ⟨rfl, rfl⟩ (And.intro ⟨rfl, rfl⟩ (And.intro ⟨rfl, rfl⟩ (And.intro ⟨rfl, rfl⟩ trivial)))) ?_
          refine And.intro ?_ trivial
          refine ⟨rfl, Nat.le_refl 2, (t37 ([] ++ numB k) (by simp only [List.length_append, List.length_nil]; omega) e.seq hq.1 hq.2 (r := 2) (sto := stT m) (Nat.le_refl 2)).mono ?_⟩
          rintro d l' ⟨rfl, rfl⟩
          refine ⟨rfl, fun _ _ => rfl, rfl, ?_⟩
          refine And.intro (And.intro ⟨rfl, rfl⟩ (And.intro ⟨rfl, rfl⟩ trivial)) ?_
          refine And.intro ?_ trivial
          refine ⟨rfl, Nat.le_refl 2, (t38 ([] ++ numB k ++ numB e.seq) (by simp only [List.length_append, List.length_nil]; omega) e.rp he (r := 2) (sto := stT m) (Nat.le_refl 2)).mono ?_⟩
          rintro d l' ⟨rfl, rfl⟩
          refine ⟨rfl, fun _ _ => rfl, rfl, ?_⟩
          refine And.intro trivial ?_
          refine And.intro ?_ trivial
          refine And.intro trivial (And.intro rfl (And.intro hroom (And.intro (allLenB _) ?_)))
          refine And.intro trivial ?_
          refine And.intro ?_ trivial
          refine And.intro trivial ?_
        rotate_left
        focus
          refine ⟨rfl, Nat.le_refl 2, (t37 ([] ++ numB k) (by simp only [List.length_append, List.length_nil]; omega) e.seq hq.1 hq.2 (r := 2) (sto := stT m) (Nat.le_refl 2)).mono ?_⟩
          rintro d l' ⟨rfl, rfl⟩
          refine ⟨rfl, fun _ _ => rfl, rfl, ?_⟩
          refine And.intro (And.intro ⟨rfl, rfl⟩ (And.intro ⟨rfl, rfl⟩ trivial)) ?_
          refine And.intro ?_ (And.intro ?_ trivial)
          focus
            refine And.intro (And.intro ⟨rfl, rfl⟩ (And.intro ⟨rfl, rfl⟩ trivial)) ?_
            refine And.intro ?_ trivial
            refine ⟨rfl, Nat.le_refl 2, (t38 ([] ++ numB k ++ numB e.seq) (by simp only [List.length_append, List.length_nil]; omega) e.rp he (r := 2) (sto := stT m) (Nat.le_refl 2)).mono ?_⟩
            rintro d l' ⟨rfl, rfl⟩
            refine ⟨rfl, fun _ _ => rfl, rfl, ?_⟩
            refine And.intro trivial ?_
            refine And.intro ?_ trivial
            refine And.intro trivial (And.intro rfl (And.intro hroom (And.intro (allLenB _) ?_)))
            refine And.intro trivial ?_
            refine And.intro ?_ trivial
            refine And.intro trivial ?_
          rotate_left
          focus
            refine ⟨rfl, Nat.le_refl 2, (t38 ([] ++ numB k ++ numB e.seq) (by simp only [List.length_append, List.length_nil]; omega) e.rp he (r := 2) (sto := stT m) (Nat.le_refl 2)).mono ?_⟩
            rintro d l' ⟨rfl, rfl⟩
            refine ⟨rfl, fun _ _ => rfl, rfl, ?_⟩
            refine And.intro trivial ?_
            refine And.intro ?_ trivial
            refine And.intro trivial ?_
            refine And.intro ?_ trivial
            refine And.intro trivial (And.intro rfl (And.intro hroom (And.intro (allLenB _) ?_)))
            refine And.intro trivial ?_
            refine And.intro ?_ trivial
            refine And.intro trivial ?_
      all_goals
        refine ⟨ks.length - (i + 1), by omega, i + 1, rfl, by omega, ?_⟩
        rw [htk, ← hw]
        have : (bs ++ numB (m.length : Int) ++ (rowsB (tabK m (ks.take i)) ++ (numB k ++ (numB e.seq ++ repB e.rp)))).map rowB = (bs ++ numB (m.length : Int) ++ rowsB (tabK m (ks.take i))).map rowB ++ ([] ++ numB k ++ numB e.seq ++ repB e.rp).map rowB := by simp only [List.map_append, List.append_assoc, List.nil_append, List.map_nil]
        rw [this]
        rfl
    · have h : ¬ ((i : Nat) : Int) < ((ks.map rowI).length : Int) := of_decide_eq_false h
      rw [List.length_map] at h
      refine And.intro ?_ rfl
      have ht : ks.take i = ks := List.take_of_length_le (by omega)
      rw [ht]
      simp only [List.append_assoc]
end Go.Lv

namespace Go.Lv
open Go.Proofs

theorem getT_set (k : Int) (e : Ent) : ∀ m : Tbl, getT k (setT k e m) = some e
  | [] => by simp [setT, getT]
  | x :: r => by
    unfold setT
    split
    · rename_i h; simp [getT, h]
    · rename_i h; simp [getT, h, getT_set k e r]
theorem setT_len (k : Int) (e : Ent) : ∀ m : Tbl, (setT k e m).length = if getT k m = none then m.length + 1 else m.length
  | [] => by simp [setT, getT]
  | x :: r => by
    unfold setT getT
    split
    · simp
    · simp only [List.length_cons, setT_len k e r]
      split <;> rfl
theorem right_iff (a b : Int) : rightZ a b = true ↔ 1 ≤ a ∧ a ≤ 1000000 ∧ 1 ≤ b ∧ b ≤ 1099511627776 := by
  simp [rightZ]
/-- What SessionOnce asks of a table. -/
theorem once (k q : Int) (r : Rep) (m : Tbl) (hm : m.length ≤ 16) :
    (∃ m', doneZ k q r m = (0, m') ∧ m'.length ≤ 16 ∧ seqOf k m' = q ∧ seqOf k m ≤ q ∧ askZ k q m' = (r, false) ∧ (1 < q → askZ k (q - 1) m' = (⟨24, 0, 0, 0⟩, false))) ∨
    (doneZ k q r m = (1, m) ∧ ∃ p, askZ k q m = (p, false)) := by
  cases hf : (askZ k q m).2 with
  | false => exact .inr ⟨by simp [doneZ, hf], (askZ k q m).1, by rw [← hf]⟩
  | true =>
    refine .inl ⟨setT k ⟨q, r⟩ m, by simp [doneZ, hf], ?_⟩
    have hg := getT_set k ⟨q, r⟩ m
    have hr : rightZ k q = true := by
      cases h : rightZ k q with
      | true => rfl
      | false => simp [askZ, h] at hf
    have hr' := (right_iff k q).1 hr
    have hlen := setT_len k ⟨q, r⟩ m
    have hold : (getT k m = none ∧ m.length < 16) ∨ ∃ e, getT k m = some e ∧ e.seq < q := by
      simp only [askZ, hr, Bool.true_eq_false, if_false] at hf
      cases hgm : getT k m with
      | none =>
        rw [hgm] at hf
        simp only at hf
        split at hf
        · cases hf
        · exact .inl ⟨rfl, by omega⟩
      | some e =>
        rw [hgm] at hf
        simp only at hf
        split at hf
        · cases hf
        · split at hf
          · cases hf
          · exact .inr ⟨e, rfl, by omega⟩
    refine ⟨?_, by simp [seqOf, hg], ?_, by simp [askZ, hr, hg], fun h1 => ?_⟩
    · rcases hold with ⟨h, h2⟩ | ⟨e, h, _⟩
      · rw [hlen, if_pos h]; omega
      · rw [hlen, if_neg (by rw [h]; simp)]; exact hm
    · rcases hold with ⟨h, _⟩ | ⟨e, h, h2⟩
      · simp only [seqOf, h]; omega
      · simp only [seqOf, h]; omega
    · have hr2 : rightZ k (q - 1) = true := (right_iff k (q - 1)).2 ⟨hr'.1, hr'.2.1, by omega, by omega⟩
      simp only [askZ, hr2, hg, Bool.true_eq_false, if_false]
      rw [if_neg (by show ¬ q = q - 1; omega), if_pos (by show q - 1 < q; omega)]

/-! ### The law's arguments -/
structure AskR where
  kind : Int
  sess : Int
  seq : Int
  rp : Rep
noncomputable def encA (a : AskR) : List D := [.int .i64 a.kind, .int .i64 a.sess, .int .i64 a.seq, .int .i64 a.rp.why, .int .i64 a.rp.st, .int .i64 a.rp.dr, .int .i64 a.rp.tm]
noncomputable def in64 (z : Int) : Prop := -9223372036854775808 ≤ z ∧ z ≤ 9223372036854775807
theorem okI3 {n : Nat} {x : List D} (h : OkD LT (n + 1) 3 x) : ∃ i, x = [.int .i64 i] ∧ in64 i := h
theorem okI24 {n : Nat} {x : List D} (h : OkD LT (n + 1) 24 x) : ∃ i, x = [.int .i64 i] ∧ in64 i := h
theorem okRep {n : Nat} {x : List D} (h : OkD LT (n + 2) 26 x) : ∃ r : Rep, x = [.int .i64 r.why, .int .i64 r.st, .int .i64 r.dr, .int .i64 r.tm] := by
  obtain ⟨x1, y1, rfl, _, h1, x2, y2, rfl, _, h2, x3, y3, rfl, _, h3, x4, y4, rfl, _, h4, rfl⟩ := h
  obtain ⟨i1, rfl, _⟩ := okI24 h1
  obtain ⟨i2, rfl, _⟩ := okI3 h2
  obtain ⟨i3, rfl, _⟩ := okI3 h3
  obtain ⟨i4, rfl, _⟩ := okI3 h4
  exact ⟨⟨i1, i2, i3, i4⟩, rfl⟩
theorem okAsk {n : Nat} {x : List D} (h : OkD LT (n + 3) 34 x) : ∃ a : AskR, x = encA a ∧ in64 a.seq := by
  obtain ⟨x1, y1, rfl, _, h1, x2, y2, rfl, _, h2, x3, y3, rfl, _, h3, x4, y4, rfl, _, h4, rfl⟩ := h
  obtain ⟨i1, rfl, _⟩ := okI3 h1
  obtain ⟨i2, rfl, _⟩ := okI3 h2
  obtain ⟨i3, rfl, hi⟩ := okI3 h3
  obtain ⟨r, rfl⟩ := okRep h4
  exact ⟨⟨i1, i2, i3, r⟩, rfl, hi⟩
theorem okAsks {n : Nat} {x : List D} (h : OkD LT (n + 4) 32 x) : ∃ al : List AskR, x = [.list .imm (al.map encA)] ∧ (∀ a, a ∈ al → in64 a.seq) ∧ al.length ≤ 9223372036854775807 := by
  obtain ⟨xs, rfl, hl, h⟩ := h
  have key : ∀ xs : List (List D), (∀ r, r ∈ xs → r.length = LT.size 34 ∧ OkD LT (n + 3) 34 r) → ∃ al : List AskR, xs = al.map encA ∧ ∀ a, a ∈ al → in64 a.seq := by
    intro xs
    induction xs with
    | nil => intro _; exact ⟨[], rfl, fun a ha => by cases ha⟩
    | cons x r ih =>
      intro h
      obtain ⟨a, rfl, ha⟩ := okAsk (h x (by simp)).2
      obtain ⟨al, rfl, has⟩ := ih fun y hy => h y (by simp [hy])
      exact ⟨a :: al, rfl, fun b hb => by
        rcases List.mem_cons.1 hb with e | hb
        · rw [e]; exact ha
        · exact has b hb⟩
  obtain ⟨al, rfl, has⟩ := key xs h
  exact ⟨al, rfl, has, by simpa using hl⟩
end Go.Lv

namespace Go.Lv
open Go.Proofs

noncomputable def sO (al : List AskR) (i : Nat) (m : Tbl) : DS := ⟨[(0, .list .imm (al.map encA)), (3, .gptr 1 0), (4, .int .i64 i)], [], stT m, mR 0⟩
noncomputable def M4 : Ms := [(10, 1, []), (12, 1, [])]
set_option maxHeartbeats 4000000 in
theorem t4 (al : List AskR) (hal : ∀ a, a ∈ al → in64 a.seq) (hlen : al.length ≤ 9223372036854775807) : Tri Try.prog 4 0 [.list .imm (al.map encA)] [] (fun d l => d = .bool true) := by
  refine Tri.walk2 (L := LT) (c := {la := false, n := 118, ko := [2]}) M4 [0, 2, 3, 4, 5, 6, 7, 8, 9, 10, 11, 12, 15, 23, 76, 78, 84, 97, 100, 116] hLT hmix Try.func4 rfl rfl ⟨rfl, rfl⟩ (by show 1 ≤ 118; decide) (Nat.le_refl _) ?_
  refine ⟨rfl, Nat.le_refl 0, t10.mono ?_⟩
  rintro d l ⟨rfl, rfl⟩
  refine ⟨rfl, fun k hk => absurd hk (Nat.not_lt_zero k), rfl, ?_⟩
  refine And.intro (fun h => by cases h) (fun _ => ?_)
  show Ok _ _ _ _ _
  refine Ok.loopN hLT hmix M4 [0, 2, 3, 4, 5, 6, 7, 8, 9, 10, 11, 12, 15, 23, 76, 78, 84, 97, 100, 116] [0, 3, 4] [] (fun n s => ∃ (i : Nat) (m : Tbl), n = 60 - i ∧ i ≤ 60 ∧ m.length ≤ 16 ∧ s = sO al i m) (n := 60) ⟨0, [], rfl, by omega, by simp, rfl⟩ ?_
  rintro n s ⟨i, m, rfl, hi, hm, rfl⟩
  refine And.intro (fun h1 => ?_) (fun h1 => ?_)
  · refine And.intro (fun h2 => ?_) (fun h2 => ?_)
    · have hi1 : i < al.length := by
        have := of_decide_eq_true h1
        simp only [List.length_map] at this
        omega
      have hi2 : i < 60 := by have := of_decide_eq_true h2; omega
      have hseq := hal (al[i]) (List.getElem_mem hi1)
      have hrow : (al.map encA)[((i : Nat) : Int).toNat]? = some (encA al[i]) := by
        rw [Int.toNat_natCast, List.getElem?_map, List.getElem?_eq_getElem hi1]
        rfl
      generalize al[i] = a at hseq hrow
      have hw : IntKind.i64.wrap ((i : Int) + 1) = ((i + 1 : Nat) : Int) := by
        rw [wrap64 (by omega) (by omega)]
        omega
      refine ⟨al.map encA, encA a, rfl, by omega, hrow, rfl, by decide, ?_⟩
      refine ⟨rfl, Nat.zero_le 2, (t13 m a.sess).mono ?_⟩
      rintro d l ⟨rfl, rfl⟩
      refine ⟨rfl, fun _ _ => rfl, rfl, ?_⟩
      refine ⟨rfl, Nat.le_refl 0, (t12 m a.sess a.seq a.rp).mono ?_⟩
      rintro d l ⟨hd, hl⟩
      rcases once a.sess a.seq a.rp m hm with ⟨m', hz, hm', hn, hw2, ha, hb⟩ | ⟨hz, p, ha⟩
      · rw [hz] at hd hl
        subst hd; subst hl
        refine ⟨rfl, fun k hk => absurd hk (Nat.not_lt_zero k), rfl, ?_⟩
        refine ⟨rfl, Nat.zero_le 2, (t13 m' a.sess).mono ?_⟩
        rintro d l ⟨rfl, rfl⟩
        refine ⟨rfl, fun _ _ => rfl, rfl, ?_⟩
        refine ⟨rfl, Nat.zero_le 2, (t11 m' a.sess a.seq).mono ?_⟩
        rintro d l ⟨hd, rfl⟩
        rw [show askD a.sess a.seq m' = .tup [encR a.rp, .bool false] by simp only [askD, ha]] at hd
        subst hd
        refine ⟨rfl, fun _ _ => rfl, rfl, ?_⟩
        -- not less than it was
        refine And.intro (fun h => absurd (of_decide_eq_true h) (by rw [hn]; omega)) (fun _ => ?_)
        refine ⟨rfl, Nat.zero_le 2, (t14 sortC m' (by omega)).mono ?_⟩
        rintro d l ⟨⟨sz, rfl, hsz⟩, rfl⟩
        rcases hsz with rfl | rfl
        all_goals
          refine ⟨rfl, fun _ _ => rfl, rfl, ?_⟩
          have hle : ((sortI (m'.map Prod.fst)).map rowI).length ≤ 16 := by
            rw [List.length_map, (sortI_perm _).length_eq, List.length_map]
            exact hm'
          refine And.intro (fun h => absurd (of_decide_eq_true h) (by omega)) (fun _ => ?_)
          -- it is the number done
          refine And.intro (fun h => by simp at h) (fun _ => ?_)
          refine And.intro (fun h => by rw [hn] at h; simp at h) (fun _ => ?_)
          refine And.intro (fun h => by simp at h) (fun _ => ?_)
          refine And.intro (fun h3 => ?_) (fun h3 => ?_)
          · have h3 : 1 < a.seq := of_decide_eq_true h3
            have hw3 : IntKind.i64.wrap (a.seq - 1) = a.seq - 1 := wrap64 (by have := hseq.1; omega) (by have := hseq.2; omega)
            refine ⟨rfl, Nat.zero_le 2, (t11 m' a.sess (IntKind.i64.wrap (a.seq - 1))).mono ?_⟩
            rintro d l ⟨hd, rfl⟩
            rw [show askD a.sess (IntKind.i64.wrap (a.seq - 1)) m' = .tup [encR ⟨24, 0, 0, 0⟩, .bool false] by simp only [askD, hw3, hb h3]] at hd
            subst hd
            refine ⟨rfl, fun _ _ => rfl, rfl, ?_⟩
            refine And.intro (fun h => by simp at h) (fun _ => ?_)
            refine ⟨60 - (i + 1), by omega, i + 1, m', rfl, by omega, hm', ?_⟩
            unfold sO
            rw [← hw]
            rfl
          · refine ⟨60 - (i + 1), by omega, i + 1, m', rfl, by omega, hm', ?_⟩
            unfold sO
            rw [← hw]
            rfl
      · rw [hz] at hd hl
        subst hd; subst hl
        refine ⟨rfl, fun k hk => absurd hk (Nat.not_lt_zero k), rfl, ?_⟩
        refine ⟨rfl, Nat.zero_le 2, (t13 m a.sess).mono ?_⟩
        rintro d l ⟨rfl, rfl⟩
        refine ⟨rfl, fun _ _ => rfl, rfl, ?_⟩
        refine ⟨rfl, Nat.zero_le 2, (t11 m a.sess a.seq).mono ?_⟩
        rintro d l ⟨hd, rfl⟩
        rw [show askD a.sess a.seq m = .tup [.agg [.int .i64 p.why, .int .i64 p.st, .int .i64 p.dr, .int .i64 p.tm], .bool false] by simp only [askD, ha, encR]] at hd
        subst hd
        refine ⟨rfl, fun _ _ => rfl, rfl, ?_⟩
        refine And.intro (fun h => absurd (of_decide_eq_true h) (by omega)) (fun _ => ?_)
        refine ⟨rfl, Nat.zero_le 2, (t14 sortC m (by omega)).mono ?_⟩
        rintro d l ⟨⟨sz, rfl, hsz⟩, rfl⟩
        rcases hsz with rfl | rfl
        all_goals
          refine ⟨rfl, fun _ _ => rfl, rfl, ?_⟩
          have hle : ((sortI (m.map Prod.fst)).map rowI).length ≤ 16 := by
            rw [List.length_map, (sortI_perm _).length_eq, List.length_map]
            exact hm
          refine And.intro (fun h => absurd (of_decide_eq_true h) (by omega)) (fun _ => ?_)
          refine And.intro (fun _ => ?_) (fun h => by simp at h)
          refine And.intro (fun h => by simp at h) (fun _ => ?_)
          refine ⟨60 - (i + 1), by omega, i + 1, m, rfl, by omega, hm, ?_⟩
          unfold sO
          rw [← hw]
          rfl
    · refine ⟨rfl, Nat.zero_le 2, (t3.pure rfl rfl rfl rfl (r := 2) (sto := stT m) (Nat.le_refl 2)).mono ?_⟩
      rintro d l ⟨rfl, rfl⟩
      refine ⟨rfl, fun _ _ => rfl, rfl, ?_⟩
      exact rfl
  · refine ⟨rfl, Nat.zero_le 2, (t3.pure rfl rfl rfl rfl (r := 2) (sto := stT m) (Nat.le_refl 2)).mono ?_⟩
    rintro d l ⟨rfl, rfl⟩
    refine ⟨rfl, fun _ _ => rfl, rfl, ?_⟩
    exact rfl
end Go.Lv

namespace Go.Lv
open Go.Proofs

noncomputable def rise (l : Tbl) : Prop := l.Pairwise fun x y => x.1 < y.1
/-- A table and rows that rise have the same entries. -/
structure RT (m l : Tbl) : Prop where
  perm : m.Perm l
  rise : rise l
noncomputable def keysND (m : Tbl) : Prop := (m.map Prod.fst).Nodup
theorem rise_nd {l : Tbl} (h : rise l) : keysND l := by
  unfold keysND rise at *
  rw [List.Nodup, List.pairwise_map]
  exact h.imp fun h e => by omega
theorem RT.nd {m l : Tbl} (h : RT m l) : keysND m := (h.perm.map Prod.fst).nodup_iff.2 (rise_nd h.rise)
theorem getT_iff {k : Int} {e : Ent} : ∀ {m : Tbl}, keysND m → (getT k m = some e ↔ (k, e) ∈ m)
  | [], _ => by simp [getT]
  | x :: r, h => by
    unfold keysND at h
    rw [List.map_cons, List.nodup_cons] at h
    unfold getT
    split
    · rename_i hk
      constructor
      · intro h'
        cases h'
        rw [hk]
        exact List.mem_cons_self
      · intro h'
        rcases List.mem_cons.1 h' with h' | h'
        · rw [← h']
        · exact absurd (hk ▸ List.mem_map_of_mem (f := Prod.fst) h') h.1
    · rename_i hk
      rw [getT_iff (m := r) h.2]
      constructor
      · exact fun h' => List.mem_cons_of_mem _ h'
      · intro h'
        rcases List.mem_cons.1 h' with h' | h'
        · exact absurd (by rw [← h']) hk
        · exact h'
theorem RT.get {m l : Tbl} (h : RT m l) (k : Int) : getT k m = getT k l := by
  have h1 := h.nd
  have h2 := rise_nd h.rise
  cases hm : getT k m with
  | some e =>
    have := (getT_iff h2).2 (h.perm.mem_iff.1 ((getT_iff h1).1 hm))
    rw [this]
  | none =>
    cases hl : getT k l with
    | none => rfl
    | some e =>
      have := (getT_iff h1).2 (h.perm.mem_iff.2 ((getT_iff h2).1 hl))
      rw [this] at hm
      cases hm
theorem RT.len {m l : Tbl} (h : RT m l) : m.length = l.length := h.perm.length_eq
theorem RT.ask {m l : Tbl} (h : RT m l) (k q : Int) : askZ k q m = askZ k q l := by
  unfold askZ
  rw [h.get k, h.len]
theorem RT.seq {m l : Tbl} (h : RT m l) (k : Int) : seqOf k m = seqOf k l := by
  unfold seqOf
  rw [h.get k]
theorem setT_perm (k : Int) (e : Ent) : ∀ {m : Tbl}, keysND m → (setT k e m).Perm ((k, e) :: m.filter fun x => x.1 != k)
  | [], _ => by simp [setT]
  | x :: r, h => by
    unfold keysND at h
    rw [List.map_cons, List.nodup_cons] at h
    unfold setT
    split
    · rename_i hk
      have : r.filter (fun x => x.1 != k) = r := List.filter_eq_self.2 fun y hy => by
        have : y.1 ≠ k := fun e => h.1 (by rw [← hk, ← e]; exact List.mem_map_of_mem hy)
        simp [this]
      rw [List.filter_cons]
      have hx : (x.1 != k) = false := by simp [hk]
      rw [hx, this, ← hk]
      exact .refl _
    · rename_i hk
      rw [List.filter_cons]
      have hx : (x.1 != k) = true := by
        have : x.1 ≠ k := fun e => hk e.symm
        simp [this]
      rw [hx]
      exact ((setT_perm k e (m := r) h.2).cons x).trans (List.Perm.swap _ _ _)
theorem insR_perm (k : Int) (e : Ent) : ∀ {l : Tbl}, rise l → (insR k e l).Perm ((k, e) :: l.filter fun x => x.1 != k)
  | [], _ => by simp [insR]
  | x :: r, h => by
    unfold rise at h
    rw [List.pairwise_cons] at h
    unfold insR
    rw [List.filter_cons]
    split
    · rename_i hk
      have hx : (x.1 != k) = true := by
        have : x.1 ≠ k := by omega
        simp [this]
      rw [hx]
      exact ((insR_perm k e (l := r) h.2).cons x).trans (List.Perm.swap _ _ _)
    · rename_i hk
      have hr : r.filter (fun x => x.1 != k) = r := List.filter_eq_self.2 fun y hy => by
        have := h.1 y hy
        have : y.1 ≠ k := by omega
        simp [this]
      split
      · rename_i hk2
        have hx : (x.1 != k) = false := by simp [hk2]
        rw [hx, hr]
        exact .refl _
      · rename_i hk2
        have hx : (x.1 != k) = true := by simp [hk2]
        rw [hx, hr]
        exact .refl _
theorem insR_rise (k : Int) (e : Ent) {l : Tbl} (h : rise l) : rise (insR k e l) := by
  induction l with
  | nil => exact List.pairwise_singleton _ _
  | cons x r ih =>
    unfold rise at h
    rw [List.pairwise_cons] at h
    unfold insR
    split
    · rename_i hk
      unfold rise
      rw [List.pairwise_cons]
      refine ⟨fun y hy => ?_, ih h.2⟩
      rcases List.mem_cons.1 ((insR_perm k e h.2).mem_iff.1 hy) with e' | hy
      · rw [e']; exact hk
      · exact h.1 y (List.mem_filter.1 hy).1
    · rename_i hk
      split
      · rename_i hk2
        unfold rise
        rw [List.pairwise_cons]
        exact ⟨fun y hy => by have := h.1 y hy; show k < y.1; omega, h.2⟩
      · rename_i hk2
        unfold rise
        rw [List.pairwise_cons, List.pairwise_cons]
        refine ⟨fun y hy => ?_, h⟩
        show k < y.1
        rcases List.mem_cons.1 hy with e' | hy
        · rw [e']; omega
        · have := h.1 y hy; omega
theorem RT.done {m l : Tbl} (h : RT m l) (k q : Int) (r : Rep) : (doneZ k q r m).1 = (doneR k q r l).1 ∧ RT (doneZ k q r m).2 (doneR k q r l).2 := by
  unfold doneZ doneR
  rw [h.ask k q]
  split
  · exact ⟨rfl, (setT_perm k ⟨q, r⟩ h.nd).trans (((h.perm.filter _).cons _).trans (insR_perm k ⟨q, r⟩ h.rise).symm), insR_rise k ⟨q, r⟩ h.rise⟩
  · exact ⟨rfl, h⟩
theorem RT.keys {m l : Tbl} (h : RT m l) : sortI (m.map Prod.fst) = l.map Prod.fst := by
  refine List.Perm.eq_of_pairwise (le := fun x y => x ≤ y) (fun x y _ _ h1 h2 => by omega) (sortI_sorted _) ?_ ((sortI_perm _).trans (h.perm.map Prod.fst))
  rw [List.pairwise_map]
  exact h.rise.imp fun h => by omega
theorem RT.tab {m l : Tbl} (h : RT m l) : tabR m = l := by
  unfold tabR tabK
  rw [h.keys, List.map_map]
  have : ∀ x, x ∈ l → ((fun k => (k, (getT k m).getD ⟨0, rep0⟩)) ∘ Prod.fst) x = x := fun x hx => by
    have hg := (getT_iff h.nd).2 (h.perm.mem_iff.2 (show (x.1, x.2) ∈ l from hx))
    show (x.1, (getT x.1 m).getD ⟨0, rep0⟩) = x
    rw [hg]
    rfl
  rw [List.map_congr_left this]
  simp
theorem done_in {k q : Int} {r : Rep} {m : Tbl} (h : inTbl m) (hk : in64' k) (hq : in64' q) (hr : inRep r) (hnd : keysND m) : inTbl (doneZ k q r m).2 := by
  unfold doneZ
  split
  · intro x hx
    rcases List.mem_cons.1 ((setT_perm k ⟨q, r⟩ hnd).mem_iff.1 hx) with e | hx
    · rw [e]; exact ⟨hk, hq, hr⟩
    · exact h x (List.mem_filter.1 hx).1
  · exact h
theorem done_len {k q : Int} {r : Rep} {m : Tbl} (hm : m.length ≤ 16) : (doneZ k q r m).2.length ≤ 16 := by
  rcases once k q r m hm with ⟨m', hz, hm', _⟩ | ⟨hz, _⟩
  · rw [hz]; exact hm'
  · rw [hz]; exact hm
theorem RT.nil : RT [] [] := ⟨.refl _, List.Pairwise.nil⟩
end Go.Lv

namespace Go.Lv
open Go.Proofs

theorem nrBLL_T : ∀ l : Tbl, nrBLL 0 (l.map rowT) = true
  | [] => rfl
  | b :: r => by
    show (nrBL 0 (rowT b) && nrBLL 0 (r.map rowT)) = true
    rw [nrBLL_T r]
    rfl
theorem nrBLL_I : ∀ l : List Int, nrBLL 0 (l.map rowI) = true
  | [] => rfl
  | b :: r => by
    show (nrBL 0 (rowI b) && nrBLL 0 (r.map rowI)) = true
    rw [nrBLL_I r]
    rfl
theorem nrBL_T1 {l : Tbl} {ds : List D} (hd : nrBL 0 ds = true) : nrBL 0 (.list .imm (l.map rowT) :: ds) = true := by
  show (nrBLL 0 (l.map rowT) && nrBL 0 ds) = true
  rw [nrBLL_T, hd]
  rfl
theorem t52 (l : Tbl) (hl : l.length ≤ 1000000000000) (k q : Int) {r : Nat} {sto : List Ob} (hr : r ≤ sto.length) : Tri Try.prog 52 r [.list .imm (l.map rowT), .int .i64 k, .int .i64 q] sto (fun d l' => d = askD k q l ∧ l' = sto) :=
  (t52_0 l hl k q).pure rfl (nrBL_T1 rfl) rfl rfl hr
theorem t34 (l : Tbl) (hl : l.length ≤ 1000000000000) (k : Int) {r : Nat} {sto : List Ob} (hr : r ≤ sto.length) : Tri Try.prog 34 r [.list .imm (l.map rowT), .int .i64 k] sto (fun d l' => d = .int .i64 (seqOf k l) ∧ l' = sto) :=
  (t34_0 l hl k).pure rfl (nrBL_T1 rfl) rfl rfl hr
theorem t53 (l : Tbl) (hl : l.length ≤ 1000000000) (k q : Int) (p : Rep) {r : Nat} {sto : List Ob} (hr : r ≤ sto.length) :
    Tri Try.prog 53 r [.list .imm (l.map rowT), .int .i64 k, .int .i64 q, encR p] sto (fun d l' => (∃ kd, d = .tup [.list kd ((doneR k q p l).2.map rowT), .int .i64 (doneR k q p l).1] ∧ (kd = .own 6 ∨ kd = .imm)) ∧ l' = sto) :=
  (t53_0 l hl k q p).pureR rfl (nrBL_T1 rfl) (fun d ⟨kd, h, hk⟩ => by
    subst h
    rcases hk with rfl | rfl
    · exact ⟨rfl, by show (nrBLL 0 ((doneR k q p l).2.map rowT) && (true && true)) = true; rw [nrBLL_T]; rfl⟩
    · exact ⟨rfl, by show (nrBLL 0 ((doneR k q p l).2.map rowT) && (true && true)) = true; rw [nrBLL_T]; rfl⟩) hr
theorem t36 (l : Tbl) (hl : l.length ≤ 1000000000000) {r : Nat} {sto : List Ob} (hr : r ≤ sto.length) : Tri Try.prog 36 r [.list .imm (l.map rowT)] sto (fun d l' => (∃ sz, d = .list (.own sz) ((l.map Prod.fst).map rowI) ∧ (sz = 0 ∨ sz = 1)) ∧ l' = sto) :=
  (t36_0 l hl).pureR rfl (nrBL_T1 rfl) (fun d ⟨sz, h, hk⟩ => by subst h; exact ⟨rfl, nrBLL_I _⟩) hr
theorem t20 (bs : List Int) (l : Tbl) (hb : bs.length + 100 * l.length ≤ 140737488353000) (hl : l.length ≤ 1000000000) {r : Nat} {sto : List Ob} (hr : r ≤ sto.length) :
    Tri Try.prog 20 r [.list .imm (bs.map rowB), .list .imm (l.map rowT)] sto (fun d l' => d = .list .imm ((bs ++ tblB l).map rowB) ∧ l' = sto) :=
  (t20_0 bs l hb hl).pure rfl (by
    show (nrBLL 0 (bs.map rowB) && (nrBLL 0 (l.map rowT) && true)) = true
    rw [nrBLL_B, nrBLL_T]
    rfl) rfl (nrBLL_B _) hr
theorem t35 (al bl : List Int) (ha : al.length ≤ 1000000000000000) (hb : bl.length ≤ 1000000000000000) {r : Nat} {sto : List Ob} (hr : r ≤ sto.length) :
    Tri Try.prog 35 r [.list .imm (al.map rowI), .list .imm (bl.map rowI)] sto (fun d l => d = .bool (decide (al = bl)) ∧ l = sto) :=
  (t35_0 al bl ha hb).pure rfl (by
    show (nrBLL 0 (al.map rowI) && (nrBLL 0 (bl.map rowI) && true)) = true
    rw [nrBLL_I, nrBLL_I]
    rfl) rfl rfl hr
theorem t19 (al bl : List Int) (ha : al.length ≤ 1000000000000000) (hb : bl.length ≤ 1000000000000000) {r : Nat} {sto : List Ob} (hr : r ≤ sto.length) :
    Tri Try.prog 19 r [.list .imm (al.map rowB), .list .imm (bl.map rowB)] sto (fun d l => d = .bool (decide (al = bl)) ∧ l = sto) :=
  (t19_0 al bl ha hb).pure rfl (by
    show (nrBLL 0 (al.map rowB) && (nrBLL 0 (bl.map rowB) && true)) = true
    rw [nrBLL_B, nrBLL_B]
    rfl) rfl rfl hr
noncomputable def inAsk (a : AskR) : Prop := in64' a.sess ∧ in64' a.seq ∧ inRep a.rp
/-- What holds of a table and its rows. -/
structure TR (m l : Tbl) : Prop where
  rt : RT m l
  len : m.length ≤ 16
  rng : inTbl m
set_option maxHeartbeats 4000000 in
/-- call. -/
theorem t33 (m l : Tbl) (h : TR m l) (a : AskR) (ha : inAsk a) :
    Tri Try.prog 33 0 [.gptr 1 0, .list .imm (l.map rowT), .agg (encA a)] (stT m) (fun d l' => ∃ m' lr, d = .tup [.list .imm (lr.map rowT), .bool true] ∧ l' = stT m' ∧ TR m' lr) := by
  refine Tri.walk2 (L := LT) (c := {la := false, n := 67, ko := [6, 7], xf := [52]}) [(12, 1, [])] [0, 1, 5, 6, 7, 8, 9, 10, 11, 12, 13, 16] hLT hmix Try.func33 rfl rfl ⟨rfl, rfl⟩ (by show 3 ≤ 67; decide) (Nat.zero_le _) ?_
  have hll : l.length ≤ 16 := by rw [← h.rt.len]; exact h.len
  refine And.intro (fun _ => ?_) (fun _ => ?_)
  · refine ⟨rfl, Nat.zero_le 2, (t11 m a.sess a.seq).mono ?_⟩
    rintro d l' ⟨hd, rfl⟩
    obtain ⟨⟨pw, ps, pd, pt⟩, fb, hz⟩ : ∃ p b, askZ a.sess a.seq m = (p, b) := ⟨_, _, rfl⟩
    have hz2 := hz
    rw [h.rt.ask] at hz2
    rw [show askD a.sess a.seq m = .tup [.agg [.int .i64 pw, .int .i64 ps, .int .i64 pd, .int .i64 pt], .bool fb] by simp only [askD, hz, encR]] at hd
    subst hd
    refine ⟨rfl, fun _ _ => rfl, rfl, ?_⟩
    refine ⟨rfl, Nat.zero_le 2, (t52 l (by omega) a.sess a.seq (r := 2) (sto := stT m) (Nat.le_refl 2)).mono ?_⟩
    rintro d l' ⟨hd, rfl⟩
    rw [show askD a.sess a.seq l = .tup [.agg [.int .i64 pw, .int .i64 ps, .int .i64 pd, .int .i64 pt], .bool fb] by simp only [askD, hz2, encR]] at hd
    subst hd
    refine ⟨rfl, fun _ _ => rfl, rfl, ?_⟩
    refine And.intro (fun _ => ?_) (fun h => by simp at h)
    cases fb with
    | true =>
      refine And.intro (fun _ => ?_) (fun h => by cases h)
      exact ⟨m, l, rfl, rfl, h⟩
    | false =>
      refine And.intro (fun _ => ?_) (fun h => by cases h)
      exact ⟨m, l, rfl, rfl, h⟩
  · refine ⟨rfl, Nat.le_refl 0, (t12 m a.sess a.seq a.rp).mono ?_⟩
    rintro d l' ⟨rfl, rfl⟩
    refine ⟨rfl, fun k hk => absurd hk (Nat.not_lt_zero k), rfl, ?_⟩
    obtain ⟨he, hrt⟩ := h.rt.done a.sess a.seq a.rp
    have hlen := done_len (k := a.sess) (q := a.seq) (r := a.rp) h.len
    have hrng := done_in h.rng ha.1 ha.2.1 ha.2.2 h.rt.nd
    refine ⟨rfl, Nat.zero_le 2, (t53 l (by omega) a.sess a.seq a.rp (r := 2) (sto := stT (doneZ a.sess a.seq a.rp m).2) (Nat.le_refl 2)).mono ?_⟩
    rintro d l' ⟨⟨kd, rfl, hkd⟩, rfl⟩
    refine ⟨by rcases hkd with rfl | rfl <;> rfl, fun _ _ => rfl, rfl, ?_⟩
    rcases hkd with rfl | rfl
    · refine And.intro (fun _ => ?_) (fun h => absurd he (of_decide_eq_false h))
      exact ⟨_, _, rfl, rfl, hrt, hlen, hrng⟩
    · refine And.intro (fun _ => ?_) (fun h => absurd he (of_decide_eq_false h))
      exact ⟨_, _, rfl, rfl, hrt, hlen, hrng⟩
end Go.Lv

namespace Go.Lv
open Go.Proofs

/-- same. -/
theorem t16 (m l : Tbl) (h : TR m l) : Tri Try.prog 16 2 [.gptr 1 0, .list .imm (l.map rowT)] (stT m) (fun d l' => d = .bool true ∧ l' = stT m) := by
  refine Tri.walk2 (L := LT) (c := {la := false, n := 17, ko := [4]}) [] [0, 1, 4] hLT hmix Try.func16 rfl rfl ⟨rfl, rfl⟩ (by show 2 ≤ 17; decide) (by show 2 ≤ 2; decide) ?_
  have hll : l.length ≤ 16 := by rw [← h.rt.len]; exact h.len
  have hm := h.len
  refine ⟨rfl, Nat.le_refl 2, (t14 sortC m (by omega)).mono ?_⟩
  rintro d l' ⟨⟨sz, rfl, hsz⟩, rfl⟩
  refine ⟨rfl, fun _ _ => rfl, rfl, ?_⟩
  have hk := h.rt.keys
  have hlk : (sortI (m.map Prod.fst)).length ≤ 16 := by rw [(sortI_perm _).length_eq, List.length_map]; exact hm
  rcases hsz with rfl | rfl
  all_goals
    refine ⟨rfl, Nat.le_refl 2, (t36 l (by omega) (r := 2) (sto := stT m) (Nat.le_refl 2)).mono ?_⟩
    rintro d l' ⟨⟨sz, rfl, hsz⟩, rfl⟩
    refine ⟨rfl, fun _ _ => rfl, rfl, ?_⟩
    rcases hsz with rfl | rfl
    all_goals
      refine ⟨rfl, Nat.le_refl 2, (t35 (sortI (m.map Prod.fst)) (l.map Prod.fst) (by omega) (by simp only [List.length_map]; omega) (r := 2) (sto := stT m) (Nat.le_refl 2)).mono ?_⟩
      rintro d l' ⟨hd, rfl⟩
      rw [decide_eq_true hk] at hd
      subst hd
      refine ⟨rfl, fun _ _ => rfl, rfl, ?_⟩
      refine ⟨rfl, Nat.le_refl 2, (t18 sortC m (by omega) h.rng [] (by simp; omega)).mono ?_⟩
      rintro d l' ⟨rfl, rfl⟩
      refine ⟨rfl, fun _ _ => rfl, rfl, ?_⟩
      refine ⟨rfl, Nat.le_refl 2, (t20 [] l (by simp; omega) (by omega) (r := 2) (sto := stT m) (Nat.le_refl 2)).mono ?_⟩
      rintro d l' ⟨rfl, rfl⟩
      refine ⟨rfl, fun _ _ => rfl, rfl, ?_⟩
      have e : [] ++ (numB (m.length : Int) ++ rowsB (tabR m)) = [] ++ tblB l := by
        unfold tblB
        rw [h.rt.tab, h.rt.len]
      have h1 := numB_len (l.length : Int)
      have h2 := rowsB_len l
      have hb : ([] ++ tblB l).length ≤ 1000000000000000 := by
        simp only [tblB, List.nil_append, List.length_append]
        omega
      refine ⟨rfl, Nat.le_refl 2, (t19 ([] ++ (numB (m.length : Int) ++ rowsB (tabR m))) ([] ++ tblB l) (by rw [e]; exact hb) hb (r := 2) (sto := stT m) (Nat.le_refl 2)).mono ?_⟩
      rintro d l' ⟨hd, rfl⟩
      rw [decide_eq_true e] at hd
      subst hd
      refine ⟨rfl, fun _ _ => rfl, rfl, ?_⟩
      exact And.intro rfl rfl
set_option maxHeartbeats 4000000 in
theorem t15 (al : List AskR) (hal : ∀ a, a ∈ al → inAsk a) (hlen : al.length ≤ 9223372036854775807) :
    Tri Try.prog 15 0 [.list .imm (al.map encA)] [] (fun d l' => ∃ m l, d = .tup [.gptr 1 0, .list .imm (l.map rowT), .bool true] ∧ l' = stT m ∧ TR m l) := by
  refine Tri.walk2 (L := LT) (c := {la := false, n := 56, ko := [2, 3, 4]}) [(10, 1, []), (33, 1, [])] [0, 2, 3, 4, 5, 6, 7, 8, 11, 22] hLT hmix Try.func15 rfl rfl ⟨rfl, rfl⟩ (by show 1 ≤ 56; decide) (Nat.le_refl _) ?_
  refine ⟨rfl, Nat.le_refl 0, t10.mono ?_⟩
  rintro d l' ⟨rfl, rfl⟩
  refine ⟨rfl, fun k hk => absurd hk (Nat.not_lt_zero k), rfl, ?_⟩
  refine And.intro (fun h => by cases h) (fun _ => ?_)
  show Ok _ _ _ _ _
  refine Ok.loopN hLT hmix [(10, 1, []), (33, 1, [])] [0, 2, 3, 4, 5, 6, 7, 8, 11, 22] [0, 5, 6, 7, 8, 2, 3, 4] [] (fun n s => ∃ (i : Nat) (m l : Tbl), n = 60 - i ∧ i ≤ 60 ∧ TR m l ∧ s = ⟨[(0, .list .imm (al.map encA)), (5, .gptr 1 0), (6, .list .imm (l.map rowT)), (7, .bool true), (8, .int .i64 (i : Int)), (2, .nil), (3, .list (.own 0) []), (4, .bool false)], [], stT m, mR 0⟩) (n := 60) ⟨0, [], [], rfl, by omega, ⟨RT.nil, by simp, fun x hx => by cases hx⟩, rfl⟩ ?_
  rintro n s ⟨i, m, l, rfl, hi, h, rfl⟩
  refine And.intro (fun h1 => ?_) (fun h1 => ?_)
  · refine And.intro (fun h2 => ?_) (fun h2 => ?_)
    · have hi1 : i < al.length := by
        have : ((i : Nat) : Int) < ((al.map encA).length : Int) := of_decide_eq_true h1
        rw [List.length_map] at this
        omega
      have hi2 : i < 60 := by have := of_decide_eq_true h2; omega
      have hrow := row_at (f := encA) al hi1
      have hw : IntKind.i64.wrap ((i : Int) + 1) = ((i + 1 : Nat) : Int) := wrap_succ hi2 (by omega)
      have ha := hal al[i] (List.getElem_mem hi1)
      generalize al[i] = a at hrow ha
      refine ⟨al.map encA, encA a, rfl, by omega, hrow, rfl, by decide, ?_⟩
      refine ⟨rfl, Nat.le_refl 0, (t33 m l h a ha).mono ?_⟩
      rintro d l' ⟨m', lr, rfl, rfl, h'⟩
      refine ⟨rfl, fun k hk => absurd hk (Nat.not_lt_zero k), rfl, ?_⟩
      have hll : lr.length ≤ 16 := by rw [← h'.rt.len]; exact h'.len
      refine ⟨⟨262143, [0, 1, 2, 2, 2, 26, 34, 66, 134, 2, 2, 2, 3074, 4098, 8194, 17154, 33026, 65538, 262143], [1, 3, 7, 11, 19, 59, 123, 251, 511, 515, 1027, 2051, 7171, 15363, 31747, 65535, 131071, 262143, 524287]⟩, by kernel_rfl, ?_⟩
      refine And.intro (fun _ => ?_) (fun h => by cases h)
      refine And.intro (fun _ => ?_) (fun h => by cases h)
      refine ⟨al.map encA, encA a, rfl, by omega, hrow, rfl, (by show 0 < 7; decide), ?_⟩
      refine And.intro rfl ?_
      refine ⟨al.map encA, encA a, rfl, by omega, hrow, rfl, (by show 0 < 7; decide), ?_⟩
      refine And.intro rfl ?_
      refine And.intro ?_ trivial
      refine ⟨rfl, Nat.zero_le 2, (t13 m' a.sess).mono ?_⟩
      rintro d l' ⟨rfl, rfl⟩
      refine ⟨rfl, fun _ _ => rfl, rfl, ?_⟩
      refine And.intro (And.intro ⟨rfl, rfl⟩ (And.intro ⟨rfl, rfl⟩ (And.intro ⟨al.map encA, encA a, rfl, by omega, hrow, rfl, (by show 0 < 7; decide), And.intro rfl (And.intro rfl rfl)⟩ (And.intro ⟨rfl, rfl⟩ (And.intro ⟨rfl, rfl⟩ (And.intro ⟨rfl, rfl⟩ trivial)))))) ?_
      refine And.intro ?_ trivial
      refine ⟨rfl, Nat.zero_le 2, (t34 lr (by omega) a.sess (r := 2) (sto := stT m') (Nat.le_refl 2)).mono ?_⟩
      rintro d l' ⟨rfl, rfl⟩
      refine ⟨rfl, fun _ _ => rfl, rfl, ?_⟩
      refine And.intro trivial ?_
      refine And.intro (fun _ => ?_) (fun h => absurd (h'.rt.seq a.sess) (of_decide_eq_false h))
      refine And.intro (fun _ => ?_) (fun h => by cases h)
      refine And.intro ?_ trivial
      refine And.intro trivial ?_
      refine ⟨60 - (i + 1), by omega, i + 1, m', lr, rfl, by omega, h', ?_⟩
      rw [← hw]
      rfl
    · exact ⟨m, l, rfl, rfl, h⟩
  · exact ⟨m, l, rfl, rfl, h⟩
/-- The law. -/
theorem t5 (al : List AskR) (hal : ∀ a, a ∈ al → inAsk a) (hlen : al.length ≤ 9223372036854775807) : Tri Try.prog 5 0 [.list .imm (al.map encA)] [] (fun d l => d = .bool true) := by
  refine Tri.walk2 (L := LT) (c := {la := false, n := 21, ko := [2]}) [(15, 1, [])] [0, 2, 3, 4, 5] hLT hmix Try.func5 rfl rfl ⟨rfl, rfl⟩ (by show 1 ≤ 21; decide) (Nat.le_refl _) ?_
  refine ⟨rfl, Nat.le_refl 0, (t15 al hal hlen).mono ?_⟩
  rintro d l' ⟨m, l, rfl, rfl, h⟩
  refine ⟨rfl, fun k hk => absurd hk (Nat.not_lt_zero k), rfl, ?_⟩
  refine ⟨rfl, Nat.zero_le 2, (t16 m l h).mono ?_⟩
  rintro d l' ⟨rfl, rfl⟩
  refine ⟨rfl, fun _ _ => rfl, rfl, ?_⟩
  refine ⟨rfl, Nat.zero_le 2, (t3.pure rfl rfl rfl rfl (r := 2) (sto := stT m) (Nat.le_refl 2)).mono ?_⟩
  rintro d l' ⟨rfl, rfl⟩
  refine ⟨rfl, fun _ _ => rfl, rfl, ?_⟩
  exact rfl
/-! ### The law's arguments, with what a row lets in -/
theorem okRepF {n : Nat} {x : List D} (h : OkD LT (n + 2) 26 x) : ∃ r : Rep, x = [.int .i64 r.why, .int .i64 r.st, .int .i64 r.dr, .int .i64 r.tm] ∧ inRep r := by
  obtain ⟨x1, y1, rfl, _, h1, x2, y2, rfl, _, h2, x3, y3, rfl, _, h3, x4, y4, rfl, _, h4, rfl⟩ := h
  obtain ⟨i1, rfl, q1⟩ := okI24 h1
  obtain ⟨i2, rfl, q2⟩ := okI3 h2
  obtain ⟨i3, rfl, q3⟩ := okI3 h3
  obtain ⟨i4, rfl, q4⟩ := okI3 h4
  exact ⟨⟨i1, i2, i3, i4⟩, rfl, q1, q2, q3, q4⟩
theorem okAskF {n : Nat} {x : List D} (h : OkD LT (n + 3) 34 x) : ∃ a : AskR, x = encA a ∧ inAsk a := by
  obtain ⟨x1, y1, rfl, _, h1, x2, y2, rfl, _, h2, x3, y3, rfl, _, h3, x4, y4, rfl, _, h4, rfl⟩ := h
  obtain ⟨i1, rfl, _⟩ := okI3 h1
  obtain ⟨i2, rfl, q2⟩ := okI3 h2
  obtain ⟨i3, rfl, q3⟩ := okI3 h3
  obtain ⟨r, rfl, q4⟩ := okRepF h4
  exact ⟨⟨i1, i2, i3, r⟩, rfl, q2, q3, q4⟩
theorem okAsksF {n : Nat} {x : List D} (h : OkD LT (n + 4) 32 x) : ∃ al : List AskR, x = [.list .imm (al.map encA)] ∧ (∀ a, a ∈ al → inAsk a) ∧ al.length ≤ 9223372036854775807 := by
  obtain ⟨xs, rfl, hl, h⟩ := h
  have key : ∀ xs : List (List D), (∀ r, r ∈ xs → r.length = LT.size 34 ∧ OkD LT (n + 3) 34 r) → ∃ al : List AskR, xs = al.map encA ∧ ∀ a, a ∈ al → inAsk a := by
    intro xs
    induction xs with
    | nil => intro _; exact ⟨[], rfl, fun a ha => by cases ha⟩
    | cons x r ih =>
      intro h
      obtain ⟨a, rfl, ha⟩ := okAskF (h x (by simp)).2
      obtain ⟨al, rfl, has⟩ := ih fun y hy => h y (by simp [hy])
      exact ⟨a :: al, rfl, fun b hb => by
        rcases List.mem_cons.1 hb with e | hb
        · rw [e]; exact ha
        · exact has b hb⟩
  obtain ⟨al, rfl, has⟩ := key xs h
  exact ⟨al, rfl, has, by simpa using hl⟩
end Go.Lv

namespace Go.Lv
open Go.Proofs

theorem NR.up {k k' : Nat} (h : k ≤ k') {d : D} (hd : NR k d) : NR k' d := by
  induction hd with
  | gptr j o hj => exact .gptr _ _ (Nat.lt_of_lt_of_le hj h)
  | map j hj => exact .map _ (Nat.lt_of_lt_of_le hj h)
  | fn f ds _ ih => exact .fn _ _ ih
  | list q xs _ ih => exact .list _ _ ih
  | agg cs _ ih => exact .agg _ ih
  | tup cs _ ih => exact .tup _ ih
  | int k n => exact .int _ _
  | bool b => exact .bool _
  | str s => exact .str _
  | nil => exact .nil
  | nilmap => exact .nilmap
  | nilfn => exact .nilfn
  | dead => exact .dead
noncomputable def rho2 (p b : Nat) : Nat → Nat := fun i => if i = 0 then p else b
theorem back2 {p b : Nat} {sto : List Ob} {es es' : List (D × D)} (hp : sto[p]? = some (.map es)) (hb : sto[b]? = some (.box [.map p])) (hne : p ≠ b) :
    backSto (rho2 p b) 2 sto [.map es', .box [.map 0]] = sto.set p (.map es') := by
  show ((sto.set p (.map es')).set b (.box [.map (extR (rho2 p b) 2 sto.length 0)])) ++ [] = _
  rw [List.append_nil]
  have : extR (rho2 p b) 2 sto.length 0 = p := rfl
  rw [this]
  apply List.ext_getElem?
  intro i
  rw [List.getElem?_set]
  split
  · rename_i h
    subst h
    have hlt := (List.getElem?_eq_some_iff.1 hb).1
    rw [if_pos (by rw [List.length_set]; exact hlt), List.getElem?_set_ne hne, hb]
  · rfl
theorem set_self {sto : List Ob} {p : Nat} {o : Ob} (h : sto[p]? = some o) : sto.set p o = sto := by
  apply List.ext_getElem?
  intro i
  rw [List.getElem?_set]
  split
  · rename_i e
    subst e
    rw [if_pos (List.getElem?_eq_some_iff.1 h).1, h]
  · rfl
/-- What reads a table, wherever it stands. -/
theorem Tri.tabRO {f : Nat} {m : Tbl} {args : List D} {R : D → Prop} (h : Tri Try.prog f 2 (.gptr 1 0 :: args) (stT m) (fun d l => R d ∧ l = stT m)) (ha : args.all cellsOK = true) (hn : nrBL 0 args = true) (hd : ∀ d, R d → partsOK d = true ∧ nrB 0 d = true)
    {r p b : Nat} {sto : List Ob} (hr : r ≤ sto.length) (hp : sto[p]? = some (.map (encT m))) (hb : sto[b]? = some (.box [.map p])) (hne : p ≠ b) (hpr : p < r) (hbr : b < r) : Tri Try.prog f r (.gptr b 0 :: args) sto (fun d l => R d ∧ l = sto) := by
  have := Tri.ren (r := r) (sto := sto) (rho2 p b) h (fun i j hi hj e => by
      match i, j, hi, hj with
      | 0, 0, _, _ => rfl
      | 1, 1, _, _ => rfl
      | 0, 1, _, _ => exact absurd (show p = b from e) hne
      | 1, 0, _, _ => exact absurd (show b = p from e).symm hne
      | i + 2, _, hi, _ => exact absurd hi (by show ¬ i + 2 < 2; omega)
      | _, j + 2, _, hj => exact absurd hj (by show ¬ j + 2 < 2; omega)) (fun i o hi => by
      match i, hi with
      | 0, hi => simp [stT] at hi; subst hi; exact hp
      | 1, hi => simp [stT] at hi; subst hi; exact hb
      | i + 2, hi => simp [stT] at hi) (fun i hi => by
      match i, hi with
      | 0, _ => exact ⟨fun _ => hpr, fun _ => by omega⟩
      | 1, _ => exact ⟨fun _ => hbr, fun _ => by omega⟩
      | i + 2, hi => exact absurd hi (by show ¬ i + 2 < 2; omega)) hr (by show (true && args.all cellsOK) = true; rw [ha]; rfl) (fun x hx => by
      rcases List.mem_cons.1 hx with e | hx
      · rw [e]; exact .gptr _ _ (by show 1 < 2; omega)
      · exact (nrBL_nr hn x hx).up (Nat.zero_le _)) (fun o ho => by
      rcases List.mem_cons.1 ho with e | ho
      · rw [e]; exact trivial
      · have : o = .box [.map 0] := by simpa using ho
        rw [this]
        exact nrO_nr (k := 2) rfl) rfl (fun d l ⟨h1, h2⟩ => by subst h2; exact ⟨(hd _ h1).1, rfl⟩)
  rw [show renL (rho2 p b) (.gptr 1 0 :: args) = .gptr b 0 :: args by show D.gptr b 0 :: renL (rho2 p b) args = _; rw [renL_id _ hn]] at this
  refine this.mono fun d l ⟨d1, l1, ⟨h1, h2⟩, h3, h4⟩ => ?_
  subst h2
  refine ⟨by rw [h3, renD_id _ (hd _ h1).2]; exact h1, ?_⟩
  rw [h4]
  exact (back2 hp hb hne).trans (set_self hp)
/-- What writes a table, wherever it stands. -/
theorem Tri.tabRW {f : Nat} {m m' : Tbl} {args : List D} {d : D} (h : Tri Try.prog f 0 (.gptr 1 0 :: args) (stT m) (fun d' l => d' = d ∧ l = stT m')) (ha : args.all cellsOK = true) (hn : nrBL 0 args = true) (hd : partsOK d = true) (hdn : nrB 0 d = true)
    {r p b : Nat} {sto : List Ob} (hr : r ≤ sto.length) (hp : sto[p]? = some (.map (encT m))) (hb : sto[b]? = some (.box [.map p])) (hne : p ≠ b) (hpr : r ≤ p) (hbr : r ≤ b) : Tri Try.prog f r (.gptr b 0 :: args) sto (fun d' l => d' = d ∧ l = sto.set p (.map (encT m'))) := by
  have := Tri.ren (r := r) (sto := sto) (rho2 p b) h (fun i j hi hj e => by
      match i, j, hi, hj with
      | 0, 0, _, _ => rfl
      | 1, 1, _, _ => rfl
      | 0, 1, _, _ => exact absurd (show p = b from e) hne
      | 1, 0, _, _ => exact absurd (show b = p from e).symm hne
      | i + 2, _, hi, _ => exact absurd hi (by show ¬ i + 2 < 2; omega)
      | _, j + 2, _, hj => exact absurd hj (by show ¬ j + 2 < 2; omega)) (fun i o hi => by
      match i, hi with
      | 0, hi => simp [stT] at hi; subst hi; exact hp
      | 1, hi => simp [stT] at hi; subst hi; exact hb
      | i + 2, hi => simp [stT] at hi) (fun i hi => by
      match i, hi with
      | 0, _ => exact ⟨fun h => absurd h (Nat.not_lt_zero _), fun h => by have : p < r := h; omega⟩
      | 1, _ => exact ⟨fun h => absurd h (Nat.not_lt_zero _), fun h => by have : b < r := h; omega⟩
      | i + 2, hi => exact absurd hi (by show ¬ i + 2 < 2; omega)) hr (by show (true && args.all cellsOK) = true; rw [ha]; rfl) (fun x hx => by
      rcases List.mem_cons.1 hx with e | hx
      · rw [e]; exact .gptr _ _ (by show 1 < 2; omega)
      · exact (nrBL_nr hn x hx).up (Nat.zero_le _)) (fun o ho => by
      rcases List.mem_cons.1 ho with e | ho
      · rw [e]; exact trivial
      · have : o = .box [.map 0] := by simpa using ho
        rw [this]
        exact nrO_nr (k := 2) rfl) rfl (fun d l ⟨h1, h2⟩ => by subst h1; subst h2; exact ⟨hd, rfl⟩)
  rw [show renL (rho2 p b) (.gptr 1 0 :: args) = .gptr b 0 :: args by show D.gptr b 0 :: renL (rho2 p b) args = _; rw [renL_id _ hn]] at this
  refine this.mono fun d' l ⟨d1, l1, ⟨h1, h2⟩, h3, h4⟩ => ?_
  subst h1; subst h2
  refine ⟨by rw [h3, renD_id _ hdn], ?_⟩
  rw [h4]
  exact back2 hp hb hne
/-- New, behind whatever is there. -/
theorem t10R {r : Nat} {sto : List Ob} (hr : r ≤ sto.length) : Tri Try.prog 10 r [] sto (fun d l => d = .gptr (sto.length + 1) 0 ∧ l = sto ++ [.map [], .box [.map sto.length]]) := by
  have := Tri.ren (r := r) (sto := sto) (fun k => k) t10 (fun i j hi => by cases hi) (fun i o hi => by simp at hi) (fun i hi => by cases hi) hr rfl (fun x hx => by cases hx) (fun o ho => by cases ho) rfl (fun d l ⟨h1, h2⟩ => by subst h1; subst h2; exact ⟨rfl, rfl⟩)
  refine this.mono fun d l ⟨d1, l1, ⟨h1, h2⟩, h3, h4⟩ => ?_
  subst h1; subst h2
  refine ⟨?_, ?_⟩
  · rw [h3]
    show D.gptr (extR _ 0 sto.length 1) 0 = _
    simp [extR]
  · rw [h4]
    show sto ++ [.map [], .box [.map (extR _ 0 sto.length 0)]] = _
    simp [extR]
end Go.Lv

namespace Go.Lv
open Go.Proofs

theorem getT_none {k : Int} : ∀ {m : Tbl}, k ∉ m.map Prod.fst → getT k m = none
  | [], _ => rfl
  | x :: r, h => by
    simp only [List.map_cons, List.mem_cons, not_or] at h
    unfold getT
    rw [if_neg h.1, getT_none h.2]
theorem setT_new {k : Int} {e : Ent} : ∀ {m : Tbl}, k ∉ m.map Prod.fst → setT k e m = m ++ [(k, e)]
  | [], _ => rfl
  | x :: r, h => by
    simp only [List.map_cons, List.mem_cons, not_or] at h
    unfold setT
    rw [if_neg h.1, setT_new h.2]
    rfl
noncomputable def st2 (m m1 : Tbl) : List Ob := [.map (encT m), .box [.map 0], .map (encT m1), .box [.map 2]]
noncomputable def sC (m m1 : Tbl) : DS := ⟨[(0, .gptr 1 0), (3, .gptr 3 0), (11, .lptr 11 0 0), (2, .nil)], [], st2 m m1, mR 2⟩
set_option maxHeartbeats 4000000 in
theorem t22 (m : Tbl) (hnd : keysND m) : Tri Try.prog 22 2 [.gptr 1 0] (stT m) (fun d l => ∃ m1, d = .gptr 3 0 ∧ l = st2 m m1 ∧ m1.Perm m) := by
  refine Tri.walk2 (L := LT) (c := {la := false, n := 24, ko := [2]}) [] [0, 2, 3, 4, 5, 11] hLT hmix Try.func22 rfl rfl ⟨rfl, rfl⟩ (by show 1 ≤ 24; decide) (by show 2 ≤ 2; decide) ?_
  refine ⟨rfl, Nat.le_refl 2, (t10R (r := 2) (sto := stT m) (Nat.le_refl 2)).mono ?_⟩
  rintro d l' ⟨rfl, rfl⟩
  refine ⟨rfl, fun k hk => List.getElem?_append_left (show k < (stT m).length from hk), rfl, ?_⟩
  show Ok _ _ _ _ _
  refine Ok.rangeBlk (t := 11) (k := 0) (es := encT m) (t10 := 12) (t11 := 13) (t12 := 14) (n2 := 4) hLT
    (fun l s => ∃ (m1 m2 : Tbl), l = encT m2 ∧ (m1 ++ m2).Perm m ∧ s = sC m m1)
    rfl rfl rfl rfl rfl rfl rfl rfl rfl rfl rfl rfl rfl rfl rfl rfl rfl rfl rfl (by decide) (by decide) rfl (by show 2 ≤ 2; decide) (by show 0 < 2; decide) rfl (by show 11 < 24; decide) hmix [] [0, 2, 3, 4, 5, 11] [0, 3, 11, 2] [] ?_ ?_ ?_ ?_
  · refine And.intro rfl (And.intro rfl (And.intro rfl ?_))
    exact ⟨[], m, rfl, by simp, rfl⟩
  · rintro l s ⟨m1, m2, rfl, _, rfl⟩
    rfl
  · rintro l1 y l2 s ⟨m1, m2, hl, hp, rfl⟩
    obtain ⟨n1, k, e, n2, rfl, rfl, rfl, rfl⟩ := encT_split hl.symm
    have hk : k ∉ m1.map Prod.fst := by
      have hnd' : ((m1 ++ (n1 ++ (k, e) :: n2)).map Prod.fst).Nodup := (hp.map Prod.fst).nodup_iff.2 hnd
      rw [List.map_append, List.nodup_append] at hnd'
      intro h
      exact hnd'.2.2 k h k (by simp) rfl
    have hp' : (m1 ++ [(k, e)] ++ (n1 ++ n2)).Perm m := by
      refine List.Perm.trans ?_ hp
      simp only [List.append_assoc, List.singleton_append]
      exact List.Perm.append_left m1 List.perm_middle.symm
    refine ⟨⟨63, [0, 1, 2, 4, 0, 0, 63], [1, 3, 7, 15, 16, 32, 127]⟩, by kernel_rfl, ?_⟩
    refine And.intro ?_ trivial
    refine And.intro ⟨Nat.le_refl 2, rfl, rfl⟩ ?_
    refine Exists.intro (encT (setT k e m1)) ?_
    refine And.intro (setEnt k e m1) ?_
    refine And.intro trivial ?_
    rw [setT_new hk]
    exact And.intro rfl ⟨m1 ++ [(k, e)], n1 ++ n2, by simp [encT], hp', rfl⟩
  · rintro s ⟨m1, m2, hl, hp, rfl⟩
    have hm2 : m2 = [] := by
      cases m2 with
      | nil => rfl
      | cons x r => simp [encT] at hl
    subst hm2
    rw [List.append_nil] at hp
    exact ⟨m1, rfl, rfl, hp⟩
end Go.Lv

namespace Go.Lv
open Go.Proofs

/-- A table as calls leave it. -/
structure TV (m : Tbl) : Prop where
  nd : keysND m
  len : m.length ≤ 16
  rng : inTbl m
  ok : ∀ x, x ∈ m → rightZ x.1 x.2.seq = true
theorem TV.nil : TV [] := ⟨List.nodup_nil, by simp, fun x hx => (by cases hx), fun x hx => (by cases hx)⟩
theorem setT_keys {k : Int} {e : Ent} {m : Tbl} (h : keysND m) : keysND (setT k e m) := by
  have hp := (setT_perm k e h).map Prod.fst
  unfold keysND
  rw [hp.nodup_iff, List.map_cons, List.nodup_cons]
  refine ⟨fun hm => ?_, List.Pairwise.sublist (List.filter_sublist.map _) h⟩
  obtain ⟨x, hx, he⟩ := List.mem_map.1 hm
  have := (List.mem_filter.1 hx).2
  rw [he] at this
  simp at this
theorem ask_right {k q : Int} {m : Tbl} (h : (askZ k q m).2 = true) : rightZ k q = true := by
  cases hr : rightZ k q with
  | true => rfl
  | false => simp [askZ, hr] at h
theorem TV.done {m : Tbl} (h : TV m) {k q : Int} {r : Rep} (hk : in64' k) (hq : in64' q) (hr : inRep r) : TV (doneZ k q r m).2 := by
  refine ⟨?_, done_len h.len, done_in h.rng hk hq hr h.nd, ?_⟩
  · unfold doneZ
    split
    · exact setT_keys h.nd
    · exact h.nd
  · unfold doneZ
    split
    · rename_i hf
      intro x hx
      rcases List.mem_cons.1 ((setT_perm k ⟨q, r⟩ h.nd).mem_iff.1 hx) with e | hx
      · rw [e]; exact ask_right hf
      · exact h.ok x (List.mem_filter.1 hx).1
    · exact h.ok
theorem getT_perm {m m' : Tbl} (hp : m'.Perm m) (h : keysND m) (k : Int) : getT k m' = getT k m := by
  have h' : keysND m' := (hp.map Prod.fst).nodup_iff.2 h
  cases hm : getT k m' with
  | some e => rw [(getT_iff h).2 (hp.mem_iff.1 ((getT_iff h').1 hm))]
  | none =>
    cases hl : getT k m with
    | none => rfl
    | some e => rw [(getT_iff h').2 (hp.mem_iff.2 ((getT_iff h).1 hl))] at hm; cases hm
theorem getT_setne {k s : Int} {e : Ent} (h : s ≠ k) : ∀ m : Tbl, getT s (setT k e m) = getT s m
  | [] => by simp [setT, getT, h]
  | x :: r => by
    unfold setT
    split
    · rename_i hk
      have : ¬ s = x.1 := fun e => h (e.trans hk.symm)
      simp [getT, this]
    · simp only [getT, getT_setne h r]
theorem getT_done {k q s : Int} {r : Rep} (h : s ≠ k) (m : Tbl) : getT s (doneZ k q r m).2 = getT s m := by
  unfold doneZ
  split
  · exact getT_setne h m
  · rfl
theorem ask_own {s : Int} {e : Ent} {m : Tbl} (hg : getT s m = some e) (hr : rightZ s e.seq = true) : askZ s e.seq m = (e.rp, false) := by
  simp [askZ, hr, hg]
noncomputable def bytT (m : Tbl) : List Int := [] ++ (numB (m.length : Int) ++ rowsB (tabR m))
theorem bytT_len {m : Tbl} (h : m.length ≤ 1000) : (bytT m).length ≤ 100000 := by
  have h1 := numB_len (m.length : Int)
  have h2 := rowsB_len (tabR m)
  have h3 : (tabR m).length = m.length := by simp [tabR, tabK, (sortI_perm _).length_eq]
  simp only [bytT, List.nil_append, List.length_append]
  omega
noncomputable def sA (al : List AskR) (a : AskR) (i : Nat) (m : Tbl) : DS := ⟨[(0, .list .imm (al.map encA)), (3, .lptr 3 0 0), (5, .gptr 1 0), (6, .int .i64 (i : Int)), (4, .bool false)], [(3, encA a)], stT m, mR 0⟩
noncomputable def sB (a : AskR) (bs ks : List Int) (i : Nat) (m m2 : Tbl) : DS := ⟨[(3, .lptr 3 0 0), (5, .gptr 1 0), (7, .list .imm (bs.map rowB)), (8, .gptr 3 0), (9, .list .imm (ks.map rowI)), (10, .int .i64 (i : Int)), (4, .bool false)], [(3, encA a)], st2 m m2, mR 0⟩
noncomputable def M7 : Ms := [(10, 1, []), (12, 1, [])]
noncomputable def lv7 : List Nat := [0, 3, 4, 5, 6, 7, 8, 9, 10, 11, 12, 13, 14, 15, 18, 26, 51, 65, 74, 123]
set_option maxHeartbeats 8000000 in
theorem t7 (al : List AskR) (hal : ∀ a, a ∈ al → inAsk a) (a : AskR) (ha : inAsk a) :
    Tri Try.prog 7 0 [.list .imm (al.map encA), .agg (encA a)] [] (fun d l => d = .bool true) := by
  refine Tri.walk2 (L := LT) (c := {la := false, n := 131, ko := [4]}) M7 lv7 hLT hmix Try.func7 rfl rfl ⟨rfl, rfl⟩ (by show 2 ≤ 131; decide) (Nat.le_refl _) ?_
  refine ⟨rfl, Nat.le_refl 0, t10.mono ?_⟩
  rintro d l' ⟨rfl, rfl⟩
  refine ⟨rfl, fun k hk => absurd hk (Nat.not_lt_zero k), rfl, ?_⟩
  refine And.intro (fun h => by cases h) (fun _ => ?_)
  show Ok _ _ _ _ _
  refine Ok.loopN hLT hmix M7 lv7 [0, 3, 5, 6, 4] [3] (fun n s => ∃ (i : Nat) (m : Tbl), n = 40 - i ∧ i ≤ 40 ∧ TV m ∧ s = sA al a i m) (n := 40) ⟨0, [], rfl, by omega, TV.nil, rfl⟩ ?_
  rintro n s ⟨i, m, rfl, hi, hm, rfl⟩
  refine And.intro (fun h1 => ?_) (fun h1 => ?_)
  · refine And.intro (fun h2 => ?_) (fun h2 => ?_)
    · have hi1 : i < al.length := by
        have : ((i : Nat) : Int) < ((al.map encA).length : Int) := of_decide_eq_true h1
        rw [List.length_map] at this
        omega
      have hi2 : i < 40 := by have := of_decide_eq_true h2; omega
      have hrow := row_at (f := encA) al hi1
      have hw : IntKind.i64.wrap ((i : Int) + 1) = ((i + 1 : Nat) : Int) := wrap_succ hi2 (by omega)
      have hb := hal al[i] (List.getElem_mem hi1)
      generalize al[i] = b at hrow hb
      refine ⟨⟨131071, [0, 0, 0, 6, 8, 16, 0, 0, 192, 256, 512, 0, 0, 6144, 8192, 16384, 33825], [1, 2, 4, 14, 30, 62, 64, 128, 448, 960, 1984, 2048, 4096, 14336, 30720, 63488, 131071]⟩, by kernel_rfl, ?_⟩
      refine ⟨al.map encA, encA b, rfl, by omega, hrow, rfl, (by show 0 < 7; decide), ?_⟩
      refine And.intro rfl ?_
      refine ⟨al.map encA, encA b, rfl, by omega, hrow, rfl, (by show 0 < 7; decide), ?_⟩
      refine And.intro rfl ?_
      refine ⟨al.map encA, encA b, rfl, by omega, hrow, rfl, (by show 0 < 7; decide), ?_⟩
      refine And.intro rfl ?_
      refine And.intro ?_ trivial
      refine ⟨rfl, Nat.le_refl 0, (t12 m b.sess b.seq b.rp).mono ?_⟩
      rintro d l' ⟨rfl, rfl⟩
      refine ⟨rfl, fun k hk => absurd hk (Nat.not_lt_zero k), rfl, ?_⟩
      refine And.intro trivial ?_
      refine ⟨40 - (i + 1), by omega, i + 1, _, rfl, by omega, hm.done hb.1 hb.2.1 hb.2.2, ?_⟩
      unfold sA
      rw [← hw]
      rfl
    · have hm16 := hm.len
      refine ⟨rfl, Nat.zero_le 2, (t18 sortC m (by omega) hm.rng [] (by simp; omega)).mono ?_⟩
      rintro d l' ⟨rfl, rfl⟩
      refine ⟨rfl, fun _ _ => rfl, rfl, ?_⟩
      refine ⟨rfl, Nat.zero_le 2, (t22 m hm.nd).mono ?_⟩
      rintro d l' ⟨m1, rfl, rfl, hp⟩
      refine ⟨rfl, fun k hk => ?_, rfl, ?_⟩
      · match k, hk with
        | 0, _ => rfl
        | 1, _ => rfl
        | k + 2, hk => exact absurd hk (by show ¬ k + 2 < 2; omega)
      refine And.intro (fun h => by cases h) (fun _ => ?_)
      refine ⟨rfl, Nat.zero_le 4, ((t14 sortC m (by omega)).tabRO (R := fun d => ∃ sz, d = .list (.own sz) ((sortI (m.map Prod.fst)).map rowI) ∧ (sz = 0 ∨ sz = 1)) rfl rfl (fun d ⟨sz, h, _⟩ => by subst h; exact ⟨rfl, nrBLL_I _⟩) (r := 4) (p := 0) (b := 1) (sto := st2 m m1) (Nat.le_refl 4) rfl rfl (by decide) (by decide) (by decide)).mono ?_⟩
      rintro d l' ⟨⟨sz, rfl, hsz⟩, rfl⟩
      refine ⟨rfl, fun _ _ => rfl, rfl, ?_⟩
      have hkeys : ∀ k, k ∈ sortI (m.map Prod.fst) → k ∈ m.map Prod.fst := fun k h => (sortI_perm _).mem_iff.1 h
      have hlk : (sortI (m.map Prod.fst)).length ≤ 16 := by rw [(sortI_perm _).length_eq, List.length_map]; exact hm.len
      generalize sortI (m.map Prod.fst) = ks at hkeys hlk
      have hget : ∀ k, k ≠ a.sess → getT k (doneZ a.sess a.seq a.rp m1).2 = getT k m := fun k hk => (getT_done hk m1).trans (getT_perm hp hm.nd k)
      rcases hsz with rfl | rfl
      all_goals
        refine ⟨rfl, Nat.le_refl 0, (Tri.tabRW (t12 m1 a.sess a.seq a.rp) rfl rfl rfl rfl (r := 0) (p := 2) (b := 3) (sto := st2 m m1) (Nat.zero_le _) rfl rfl (by decide) (Nat.zero_le _) (Nat.zero_le _)).mono ?_⟩
        rintro d l' ⟨rfl, rfl⟩
        refine ⟨rfl, fun k hk => absurd hk (Nat.not_lt_zero k), rfl, ?_⟩
        generalize (doneZ a.sess a.seq a.rp m1).2 = m2 at hget
        show Ok _ _ _ _ _
        refine Ok.loopN hLT hmix M7 lv7 [3, 5, 7, 8, 9, 10, 4] [3] (fun n s => ∃ (i : Nat), n = ks.length - i ∧ i ≤ ks.length ∧ s = sB a (bytT m) ks i m m2) (n := ks.length) ⟨0, rfl, Nat.zero_le _, rfl⟩ ?_
        rintro n s ⟨j, rfl, hj, rfl⟩
        refine And.intro (fun h3 => ?_) (fun h3 => ?_)
        · have h3 : ((j : Nat) : Int) < ((ks.map rowI).length : Int) := of_decide_eq_true h3
          rw [List.length_map] at h3
          have hj1 : j < ks.length := by omega
          have hrow := row_at (f := rowI) ks hj1
          have hw : IntKind.i64.wrap ((j : Int) + 1) = ((j + 1 : Nat) : Int) := wrap_succ hj1 (by omega)
          obtain ⟨e, hg⟩ := getT_key (hkeys ks[j] (List.getElem_mem hj1))
          have hr := hm.ok _ (getT_mem hg)
          generalize ks[j] = k at hrow hg hr
          have hr1 : rightZ k e.seq = true := hr
          have hseq : 1 ≤ e.seq := ((right_iff k e.seq).1 hr1).2.2.1
          have hs1 : seqOf k m = e.seq := by simp only [seqOf, hg]
          refine ⟨⟨127, [0, 0, 3, 4, 0, 16, 40], [1, 2, 7, 15, 16, 48, 127]⟩, by kernel_rfl, ?_⟩
          refine ⟨ks.map rowI, rowI k, rfl, by omega, hrow, rfl, (by show 0 < 1; decide), ?_⟩
          refine And.intro rfl ?_
          refine And.intro (fun _ => ?_) (fun hne => ?_)
          · refine ⟨ks.length - (j + 1), by omega, j + 1, rfl, by omega, ?_⟩
            unfold sB
            rw [← hw]
            rfl
          · have hne : ¬ k = a.sess := of_decide_eq_false hne
            have hg2 : getT k m2 = some e := (hget k hne).trans hg
            have hs2 : seqOf k m2 = e.seq := by simp only [seqOf, hg2]
            refine ⟨ks.map rowI, rowI k, rfl, by omega, hrow, rfl, (by show 0 < 1; decide), ?_⟩
            refine ⟨rfl, Nat.zero_le 4, ((t13 m k).tabRO rfl rfl (fun d h => by subst h; exact ⟨rfl, rfl⟩) (r := 4) (p := 0) (b := 1) (sto := st2 m m2) (Nat.le_refl 4) rfl rfl (by decide) (by decide) (by decide)).mono ?_⟩
            rintro d l' ⟨hd, rfl⟩
            rw [hs1] at hd
            subst hd
            refine ⟨rfl, fun _ _ => rfl, rfl, ?_⟩
            refine ⟨ks.map rowI, rowI k, rfl, by omega, hrow, rfl, (by show 0 < 1; decide), ?_⟩
            refine ⟨rfl, Nat.zero_le 4, ((t11 m k e.seq).tabRO rfl rfl (fun d h => by subst h; exact ⟨rfl, rfl⟩) (r := 4) (p := 0) (b := 1) (sto := st2 m m2) (Nat.le_refl 4) rfl rfl (by decide) (by decide) (by decide)).mono ?_⟩
            rintro d l' ⟨hd, rfl⟩
            rw [show askD k e.seq m = .tup [encR e.rp, .bool false] by simp only [askD, ask_own hg hr1]] at hd
            subst hd
            refine ⟨rfl, fun _ _ => rfl, rfl, ?_⟩
            refine ⟨ks.map rowI, rowI k, rfl, by omega, hrow, rfl, (by show 0 < 1; decide), ?_⟩
            refine ⟨rfl, Nat.zero_le 4, ((t11 m2 k e.seq).tabRO rfl rfl (fun d h => by subst h; exact ⟨rfl, rfl⟩) (r := 4) (p := 2) (b := 3) (sto := st2 m m2) (Nat.le_refl 4) rfl rfl (by decide) (by decide) (by decide)).mono ?_⟩
            rintro d l' ⟨hd, rfl⟩
            rw [show askD k e.seq m2 = .tup [encR e.rp, .bool false] by simp only [askD, ask_own hg2 hr1]] at hd
            subst hd
            refine ⟨rfl, fun _ _ => rfl, rfl, ?_⟩
            refine And.intro (fun h => absurd (of_decide_eq_true h) (by omega)) (fun _ => ?_)
            refine ⟨ks.map rowI, rowI k, rfl, by omega, hrow, rfl, (by show 0 < 1; decide), ?_⟩
            refine ⟨rfl, Nat.zero_le 4, ((t13 m2 k).tabRO rfl rfl (fun d h => by subst h; exact ⟨rfl, rfl⟩) (r := 4) (p := 2) (b := 3) (sto := st2 m m2) (Nat.le_refl 4) rfl rfl (by decide) (by decide) (by decide)).mono ?_⟩
            rintro d l' ⟨hd, rfl⟩
            rw [hs2] at hd
            subst hd
            refine ⟨rfl, fun _ _ => rfl, rfl, ?_⟩
            refine And.intro (fun h => by simp at h) (fun _ => ?_)
            refine And.intro (fun h => by simp at h) (fun _ => ?_)
            refine ⟨ks.length - (j + 1), by omega, j + 1, rfl, by omega, ?_⟩
            unfold sB
            rw [← hw]
            rfl
        · have hb := bytT_len (m := m) (by omega)
          refine ⟨rfl, Nat.zero_le 4, ((t18 sortC m (by omega) hm.rng [] (by simp; omega)).tabRO rfl rfl (fun d h => by subst h; exact ⟨rfl, nrBLL_B _⟩) (r := 4) (p := 0) (b := 1) (sto := st2 m m2) (Nat.le_refl 4) rfl rfl (by decide) (by decide) (by decide)).mono ?_⟩
          rintro d l' ⟨rfl, rfl⟩
          refine ⟨rfl, fun _ _ => rfl, rfl, ?_⟩
          refine ⟨rfl, Nat.zero_le 4, (t19 (bytT m) (bytT m) (by omega) (by omega) (r := 4) (sto := st2 m m2) (Nat.le_refl 4)).mono ?_⟩
          rintro d l' ⟨hd, rfl⟩
          rw [decide_eq_true rfl] at hd
          subst hd
          refine ⟨rfl, fun _ _ => rfl, rfl, ?_⟩
          refine ⟨rfl, Nat.zero_le 4, (t3.pure rfl rfl rfl rfl (r := 4) (sto := st2 m m2) (Nat.le_refl 4)).mono ?_⟩
          rintro d l' ⟨rfl, rfl⟩
          refine ⟨rfl, fun _ _ => rfl, rfl, ?_⟩
          exact rfl
  · have hm16 := hm.len
    refine ⟨rfl, Nat.zero_le 2, (t18 sortC m (by omega) hm.rng [] (by simp; omega)).mono ?_⟩
    rintro d l' ⟨rfl, rfl⟩
    refine ⟨rfl, fun _ _ => rfl, rfl, ?_⟩
    refine ⟨rfl, Nat.zero_le 2, (t22 m hm.nd).mono ?_⟩
    rintro d l' ⟨m1, rfl, rfl, hp⟩
    refine ⟨rfl, fun k hk => ?_, rfl, ?_⟩
    · match k, hk with
      | 0, _ => rfl
      | 1, _ => rfl
      | k + 2, hk => exact absurd hk (by show ¬ k + 2 < 2; omega)
    refine And.intro (fun h => by cases h) (fun _ => ?_)
    refine ⟨rfl, Nat.zero_le 4, ((t14 sortC m (by omega)).tabRO (R := fun d => ∃ sz, d = .list (.own sz) ((sortI (m.map Prod.fst)).map rowI) ∧ (sz = 0 ∨ sz = 1)) rfl rfl (fun d ⟨sz, h, _⟩ => by subst h; exact ⟨rfl, nrBLL_I _⟩) (r := 4) (p := 0) (b := 1) (sto := st2 m m1) (Nat.le_refl 4) rfl rfl (by decide) (by decide) (by decide)).mono ?_⟩
    rintro d l' ⟨⟨sz, rfl, hsz⟩, rfl⟩
    refine ⟨rfl, fun _ _ => rfl, rfl, ?_⟩
    have hkeys : ∀ k, k ∈ sortI (m.map Prod.fst) → k ∈ m.map Prod.fst := fun k h => (sortI_perm _).mem_iff.1 h
    have hlk : (sortI (m.map Prod.fst)).length ≤ 16 := by rw [(sortI_perm _).length_eq, List.length_map]; exact hm.len
    generalize sortI (m.map Prod.fst) = ks at hkeys hlk
    have hget : ∀ k, k ≠ a.sess → getT k (doneZ a.sess a.seq a.rp m1).2 = getT k m := fun k hk => (getT_done hk m1).trans (getT_perm hp hm.nd k)
    rcases hsz with rfl | rfl
    all_goals
      refine ⟨rfl, Nat.le_refl 0, (Tri.tabRW (t12 m1 a.sess a.seq a.rp) rfl rfl rfl rfl (r := 0) (p := 2) (b := 3) (sto := st2 m m1) (Nat.zero_le _) rfl rfl (by decide) (Nat.zero_le _) (Nat.zero_le _)).mono ?_⟩
      rintro d l' ⟨rfl, rfl⟩
      refine ⟨rfl, fun k hk => absurd hk (Nat.not_lt_zero k), rfl, ?_⟩
      generalize (doneZ a.sess a.seq a.rp m1).2 = m2 at hget
      show Ok _ _ _ _ _
      refine Ok.loopN hLT hmix M7 lv7 [3, 5, 7, 8, 9, 10, 4] [3] (fun n s => ∃ (i : Nat), n = ks.length - i ∧ i ≤ ks.length ∧ s = sB a (bytT m) ks i m m2) (n := ks.length) ⟨0, rfl, Nat.zero_le _, rfl⟩ ?_
      rintro n s ⟨j, rfl, hj, rfl⟩
      refine And.intro (fun h3 => ?_) (fun h3 => ?_)
      · have h3 : ((j : Nat) : Int) < ((ks.map rowI).length : Int) := of_decide_eq_true h3
        rw [List.length_map] at h3
        have hj1 : j < ks.length := by omega
        have hrow := row_at (f := rowI) ks hj1
        have hw : IntKind.i64.wrap ((j : Int) + 1) = ((j + 1 : Nat) : Int) := wrap_succ hj1 (by omega)
        obtain ⟨e, hg⟩ := getT_key (hkeys ks[j] (List.getElem_mem hj1))
        have hr := hm.ok _ (getT_mem hg)
        generalize ks[j] = k at hrow hg hr
        have hr1 : rightZ k e.seq = true := hr
        have hseq : 1 ≤ e.seq := ((right_iff k e.seq).1 hr1).2.2.1
        have hs1 : seqOf k m = e.seq := by simp only [seqOf, hg]
        refine ⟨⟨127, [0, 0, 3, 4, 0, 16, 40], [1, 2, 7, 15, 16, 48, 127]⟩, by kernel_rfl, ?_⟩
        refine ⟨ks.map rowI, rowI k, rfl, by omega, hrow, rfl, (by show 0 < 1; decide), ?_⟩
        refine And.intro rfl ?_
        refine And.intro (fun _ => ?_) (fun hne => ?_)
        · refine ⟨ks.length - (j + 1), by omega, j + 1, rfl, by omega, ?_⟩
          unfold sB
          rw [← hw]
          rfl
        · have hne : ¬ k = a.sess := of_decide_eq_false hne
          have hg2 : getT k m2 = some e := (hget k hne).trans hg
          have hs2 : seqOf k m2 = e.seq := by simp only [seqOf, hg2]
          refine ⟨ks.map rowI, rowI k, rfl, by omega, hrow, rfl, (by show 0 < 1; decide), ?_⟩
          refine ⟨rfl, Nat.zero_le 4, ((t13 m k).tabRO rfl rfl (fun d h => by subst h; exact ⟨rfl, rfl⟩) (r := 4) (p := 0) (b := 1) (sto := st2 m m2) (Nat.le_refl 4) rfl rfl (by decide) (by decide) (by decide)).mono ?_⟩
          rintro d l' ⟨hd, rfl⟩
          rw [hs1] at hd
          subst hd
          refine ⟨rfl, fun _ _ => rfl, rfl, ?_⟩
          refine ⟨ks.map rowI, rowI k, rfl, by omega, hrow, rfl, (by show 0 < 1; decide), ?_⟩
          refine ⟨rfl, Nat.zero_le 4, ((t11 m k e.seq).tabRO rfl rfl (fun d h => by subst h; exact ⟨rfl, rfl⟩) (r := 4) (p := 0) (b := 1) (sto := st2 m m2) (Nat.le_refl 4) rfl rfl (by decide) (by decide) (by decide)).mono ?_⟩
          rintro d l' ⟨hd, rfl⟩
          rw [show askD k e.seq m = .tup [encR e.rp, .bool false] by simp only [askD, ask_own hg hr1]] at hd
          subst hd
          refine ⟨rfl, fun _ _ => rfl, rfl, ?_⟩
          refine ⟨ks.map rowI, rowI k, rfl, by omega, hrow, rfl, (by show 0 < 1; decide), ?_⟩
          refine ⟨rfl, Nat.zero_le 4, ((t11 m2 k e.seq).tabRO rfl rfl (fun d h => by subst h; exact ⟨rfl, rfl⟩) (r := 4) (p := 2) (b := 3) (sto := st2 m m2) (Nat.le_refl 4) rfl rfl (by decide) (by decide) (by decide)).mono ?_⟩
          rintro d l' ⟨hd, rfl⟩
          rw [show askD k e.seq m2 = .tup [encR e.rp, .bool false] by simp only [askD, ask_own hg2 hr1]] at hd
          subst hd
          refine ⟨rfl, fun _ _ => rfl, rfl, ?_⟩
          refine And.intro (fun h => absurd (of_decide_eq_true h) (by omega)) (fun _ => ?_)
          refine ⟨ks.map rowI, rowI k, rfl, by omega, hrow, rfl, (by show 0 < 1; decide), ?_⟩
          refine ⟨rfl, Nat.zero_le 4, ((t13 m2 k).tabRO rfl rfl (fun d h => by subst h; exact ⟨rfl, rfl⟩) (r := 4) (p := 2) (b := 3) (sto := st2 m m2) (Nat.le_refl 4) rfl rfl (by decide) (by decide) (by decide)).mono ?_⟩
          rintro d l' ⟨hd, rfl⟩
          rw [hs2] at hd
          subst hd
          refine ⟨rfl, fun _ _ => rfl, rfl, ?_⟩
          refine And.intro (fun h => by simp at h) (fun _ => ?_)
          refine And.intro (fun h => by simp at h) (fun _ => ?_)
          refine ⟨ks.length - (j + 1), by omega, j + 1, rfl, by omega, ?_⟩
          unfold sB
          rw [← hw]
          rfl
      · have hb := bytT_len (m := m) (by omega)
        refine ⟨rfl, Nat.zero_le 4, ((t18 sortC m (by omega) hm.rng [] (by simp; omega)).tabRO rfl rfl (fun d h => by subst h; exact ⟨rfl, nrBLL_B _⟩) (r := 4) (p := 0) (b := 1) (sto := st2 m m2) (Nat.le_refl 4) rfl rfl (by decide) (by decide) (by decide)).mono ?_⟩
        rintro d l' ⟨rfl, rfl⟩
        refine ⟨rfl, fun _ _ => rfl, rfl, ?_⟩
        refine ⟨rfl, Nat.zero_le 4, (t19 (bytT m) (bytT m) (by omega) (by omega) (r := 4) (sto := st2 m m2) (Nat.le_refl 4)).mono ?_⟩
        rintro d l' ⟨hd, rfl⟩
        rw [decide_eq_true rfl] at hd
        subst hd
        refine ⟨rfl, fun _ _ => rfl, rfl, ?_⟩
        refine ⟨rfl, Nat.zero_le 4, (t3.pure rfl rfl rfl rfl (r := 4) (sto := st2 m m2) (Nat.le_refl 4)).mono ?_⟩
        rintro d l' ⟨rfl, rfl⟩
        refine ⟨rfl, fun _ _ => rfl, rfl, ?_⟩
        exact rfl
end Go.Lv

namespace Go.Lv
open Go.Proofs

/-- A reader: its fault's place and number, its bytes, where it stands. -/
noncomputable def stR (fa fw : Int) (bs : List Int) (p : Int) : List Ob := [.box [.int .i64 fa, .int .i64 fw, .list .imm (bs.map rowB), .int .i64 p]]
theorem t49 (fa fw p a e : Int) (bs : List Int) : Tri Try.prog 49 0 [.gptr 0 0, .int .i64 a, .int .i64 e] (stR fa fw bs p) (fun d l => d = .tup [] ∧ l = stR a e bs a) := by
  refine Tri.walk2 (L := LT) (c := {la := false, n := 16}) [] [0, 1, 2] hLT hmix Try.func49 rfl rfl ⟨rfl, rfl⟩ (by show 3 ≤ 16; decide) (Nat.zero_le _) ?_
  exact And.intro rfl rfl
theorem t43_0 (fa fw : Int) : Tri Try.prog 43 0 [.agg [.int .i64 fa, .int .i64 fw]] [] (fun d l => d = .bool (decide (fw = 0)) ∧ l = []) := by
  refine Tri.walk2 (L := LT) (c := {la := false, n := 6, ko := [2]}) [] [1, 2] hLT hmix Try.func43 rfl rfl ⟨rfl, rfl⟩ (by show 1 ≤ 6; decide) (Nat.zero_le _) ?_
  refine And.intro (fun h => And.intro (by rw [h]) rfl) (fun h => And.intro (by rw [h]) rfl)
noncomputable def zagU (u : Int) : Int := IntKind.i64.wrap (BitVec.ofInt IntKind.i64.bits (IntKind.i64.wrap (u.fdiv (2 ^ min (Int.toNat 1) IntKind.u64.bits))) ^^^ BitVec.ofInt IntKind.i64.bits (IntKind.i64.wrap (0 - IntKind.i64.wrap (IntKind.u64.wrap (BitVec.ofInt IntKind.u64.bits u &&& BitVec.ofInt IntKind.u64.bits 1).toNat)))).toNat
theorem t72_0 (u : Int) : Tri Try.prog 72 0 [.int .u64 u] [] (fun d l => d = .int .i64 (zagU u) ∧ l = []) := by
  refine Tri.walk2 (L := LT) (c := {la := false, n := 11, ko := [2]}) [] [0, 2] hLT hmix Try.func72 rfl rfl ⟨rfl, rfl⟩ (by show 1 ≤ 11; decide) (Nat.zero_le _) ?_
  exact And.intro rfl rfl
/-- A group's bits. -/
noncomputable def grp (c : Int) : Int := IntKind.u64.wrap (IntKind.u8.wrap (BitVec.ofInt IntKind.u8.bits c &&& BitVec.ofInt IntKind.u8.bits 127).toNat)
noncomputable def orU (u c : Int) (k : Nat) : Int := IntKind.u64.wrap (BitVec.ofInt IntKind.u64.bits u ||| BitVec.ofInt IntKind.u64.bits (IntKind.u64.wrap (grp c * 2 ^ min (7 * k) IntKind.u64.bits))).toNat
/-- What is read of a number: what is wrong, the number, where it ends. -/
noncomputable def numL : List Int → Nat → Int → Nat → Int × Int × Nat
  | [], _, _, _ => (3, 0, 0)
  | c :: r, k, u, p => if (k : Int) = 9 ∧ c > 1 then (4, 0, 0) else if c ≥ 128 then numL r (k + 1) (orU u c k) (p + 1) else if c = 0 ∧ (k : Int) > 0 then (4, 0, 0) else (0, zagU (orU u c k), p + 1)
theorem numL_bad {c u : Int} {r : List Int} {k p : Nat} (h : (k : Int) = 9 ∧ c > 1) : numL (c :: r) k u p = (4, 0, 0) := by simp only [numL]; rw [if_pos h]
theorem numL_more {c u : Int} {r : List Int} {k p : Nat} (h : ¬ ((k : Int) = 9 ∧ c > 1)) (hc : c ≥ 128) : numL (c :: r) k u p = numL r (k + 1) (orU u c k) (p + 1) := by simp only [numL]; rw [if_neg h, if_pos hc]
theorem numL_zero {c u : Int} {r : List Int} {k p : Nat} (h : ¬ ((k : Int) = 9 ∧ c > 1)) (hc : ¬ c ≥ 128) (h0 : c = 0) (h4 : (k : Int) > 0) : numL (c :: r) k u p = (4, 0, 0) := by simp only [numL]; rw [if_neg h, if_neg hc, if_pos ⟨h0, h4⟩]
theorem numL_ok {c u : Int} {r : List Int} {k p : Nat} (h : ¬ ((k : Int) = 9 ∧ c > 1)) (hc : ¬ c ≥ 128) (h4 : ¬ (c = 0 ∧ (k : Int) > 0)) : numL (c :: r) k u p = (0, zagU (orU u c k), p + 1) := by simp only [numL]; rw [if_neg h, if_neg hc, if_neg h4]
noncomputable def outN (fa fw from' : Int) (bs : List Int) (x : Int × Int × Nat) : List Ob := if x.1 = 0 then stR fa fw bs x.2.2 else stR from' x.1 bs from'
theorem sh_ask {x b : Int} {k : Nat} {kk : IntKind} (hb : b = 7 * (k : Int)) : binD LT 93 .shl (.int .u64 x) (.int kk b) = some (.int .u64 (IntKind.u64.wrap (x * 2 ^ min (7 * k) IntKind.u64.bits))) := by
  subst hb
  show (if (7 * (k : Int)) < 0 then none else some (D.int .u64 (IntKind.u64.wrap (x * 2 ^ min (7 * (k : Int)).toNat IntKind.u64.bits)))) = _
  rw [if_neg (by omega)]
  have : (7 * (k : Int)).toNat = 7 * k := by omega
  rw [this]
noncomputable def sN (fa fw from' : Int) (bs : List Int) (k : Nat) (u : Int) (p : Nat) : DS := ⟨[(0, .gptr 0 0), (1, .int .i64 from'), (5, .int .u64 u), (6, .int .i64 (k : Int)), (4, .int .i64 0)], [], stR fa fw bs p, mR 0⟩
set_option maxHeartbeats 4000000 in
theorem t56 (fa fw from' : Int) (bs : List Int) (hb : bs.length ≤ 140737488351232) (p : Nat) (hp : p ≤ bs.length) :
    Tri Try.prog 56 0 [.gptr 0 0, .int .i64 from'] (stR fa fw bs p) (fun d l => d = .int .i64 (numL (bs.drop p) 0 0 p).2.1 ∧ l = outN fa fw from' bs (numL (bs.drop p) 0 0 p)) := by
  refine Tri.walk2 (L := LT) (c := {la := false, n := 71, ko := [4], fs := [56]}) [(49, 1, [])] [0, 1, 4, 5, 6, 7, 19, 38, 59, 65] hLT hmix Try.func56 rfl rfl ⟨rfl, rfl⟩ (by show 2 ≤ 71; decide) (Nat.zero_le _) ?_
  show Ok _ _ _ _ _
  refine Ok.loopN hLT hmix [(49, 1, [])] [0, 1, 4, 5, 6, 7, 19, 38, 59, 65] [0, 1, 5, 6, 4] [] (fun n s => ∃ (k : Nat) (u : Int) (q : Nat), n = bs.length - q ∧ q ≤ bs.length ∧ k ≤ 9 ∧ numL (bs.drop q) k u q = numL (bs.drop p) 0 0 p ∧ s = sN fa fw from' bs k u q) (n := bs.length - p) ⟨0, 0, p, rfl, hp, by omega, rfl, rfl⟩ ?_
  rintro n s ⟨k, u, q, rfl, hq, hk, hnum, rfl⟩
  rw [← hnum]
  refine ⟨⟨1023, [0, 1, 2, 4, 0, 16, 32, 64, 128, 264], [1, 3, 7, 15, 16, 48, 112, 240, 496, 1023]⟩, by kernel_rfl, ?_⟩
  refine And.intro (fun h1 => ?_) (fun h1 => ?_)
  · have h1 : ((q : Nat) : Int) ≥ ((bs.map rowB).length : Int) := of_decide_eq_true h1
    rw [List.length_map] at h1
    have hd : bs.drop q = [] := List.drop_eq_nil_of_le (by omega)
    refine ⟨rfl, Nat.le_refl 0, (t49 fa fw q from' 3 bs).mono ?_⟩
    rintro d l ⟨rfl, rfl⟩
    refine ⟨rfl, fun k hk => absurd hk (Nat.not_lt_zero k), rfl, ?_⟩
    rw [hd]
    exact And.intro rfl rfl
  · have h1 : ¬ ((q : Nat) : Int) ≥ ((bs.map rowB).length : Int) := of_decide_eq_false h1
    rw [List.length_map] at h1
    have hq1 : q < bs.length := by omega
    have hd : bs.drop q = bs[q] :: bs.drop (q + 1) := List.drop_eq_getElem_cons hq1
    have hrow := row_at (f := rowB) bs hq1
    have hw : IntKind.i64.wrap ((q : Int) + 1) = ((q + 1 : Nat) : Int) := wrap_succ hq1 (by omega)
    have hwk : IntKind.i64.wrap ((k : Int) + 1) = ((k + 1 : Nat) : Int) := wrap_succ (n := 10) (by omega) (by omega)
    rw [hd]
    generalize bs[q] = c at hrow
    refine ⟨⟨2047, [0, 1, 2, 4, 0, 16, 32, 64, 136, 256, 1023], [1, 3, 7, 15, 16, 48, 112, 240, 511, 1023, 2047]⟩, by kernel_rfl, ?_⟩
    refine ⟨bs.map rowB, rowB c, rfl, by omega, hrow, rfl, (by show 0 < 1; decide), ?_⟩
    refine And.intro rfl ?_
    refine And.intro ?_ trivial
    refine And.intro trivial ?_
    have hB : IntKind.u64.wrap (IntKind.i64.wrap (7 * (k : Int))) = 7 * (k : Int) := by
      rw [wrap64 (by omega) (by omega), wrapU]
      omega
    refine And.intro (fun h2 => ?_) (fun h2 => ?_)
    · have h2 : (k : Int) = 9 := of_decide_eq_true h2
      refine And.intro (fun h3 => ?_) (fun h3 => ?_)
      · have h3 : c > 1 := of_decide_eq_true h3
        refine ⟨rfl, Nat.le_refl 0, (t49 fa fw q from' 4 bs).mono ?_⟩
        rintro d l ⟨rfl, rfl⟩
        refine ⟨rfl, fun k hk => absurd hk (Nat.not_lt_zero k), rfl, ?_⟩
        rw [numL_bad ⟨h2, h3⟩]
        exact And.intro rfl rfl
      · have h3 : ¬ c > 1 := of_decide_eq_false h3
        have hbad : ¬ ((k : Int) = 9 ∧ c > 1) := fun h => h3 h.2
        refine Exists.intro _ (And.intro (sh_ask (x := grp c) hB) ?_)
        refine And.intro (fun hc => ?_) (fun hc => ?_)
        · have hc : c ≥ 128 := of_decide_eq_true hc
          have hk9 : k + 1 ≤ 9 := by
            rcases Nat.lt_or_ge k 9 with h | h
            · omega
            · exact absurd ⟨by omega, by omega⟩ hbad
          refine ⟨bs.length - (q + 1), by omega, k + 1, orU u c k, q + 1, rfl, by omega, hk9, (numL_more hbad hc).symm, ?_⟩
          unfold sN stR
          rw [← hwk, ← hw]
          rfl
        · have hc : ¬ c ≥ 128 := of_decide_eq_false hc
          refine And.intro (fun h0 => ?_) (fun h0 => ?_)
          · have h0 : c = 0 := of_decide_eq_true h0
            refine And.intro (fun h4 => ?_) (fun h4 => ?_)
            · have h4 : (k : Int) > 0 := of_decide_eq_true h4
              refine ⟨rfl, Nat.le_refl 0, (t49 fa fw (IntKind.i64.wrap ((q : Int) + 1)) from' 4 bs).mono ?_⟩
              rintro d l ⟨rfl, rfl⟩
              refine ⟨rfl, fun k hk => absurd hk (Nat.not_lt_zero k), rfl, ?_⟩
              rw [numL_zero hbad hc h0 h4]
              exact And.intro rfl rfl
            · have h4 : ¬ (k : Int) > 0 := of_decide_eq_false h4
              refine ⟨rfl, Nat.zero_le 1, ((t72_0 (orU u c k)).pure rfl rfl rfl rfl (r := 1) (sto := stR fa fw bs (IntKind.i64.wrap ((q : Int) + 1))) (Nat.le_refl 1)).mono ?_⟩
              rintro d l ⟨rfl, rfl⟩
              refine ⟨rfl, fun _ _ => rfl, rfl, ?_⟩
              rw [numL_ok hbad hc (fun h => h4 h.2)]
              refine And.intro rfl ?_
              rw [hw]
              rfl
          · have h0 : ¬ c = 0 := of_decide_eq_false h0
            refine ⟨rfl, Nat.zero_le 1, ((t72_0 (orU u c k)).pure rfl rfl rfl rfl (r := 1) (sto := stR fa fw bs (IntKind.i64.wrap ((q : Int) + 1))) (Nat.le_refl 1)).mono ?_⟩
            rintro d l ⟨rfl, rfl⟩
            refine ⟨rfl, fun _ _ => rfl, rfl, ?_⟩
            rw [numL_ok hbad hc (fun h => h0 h.1)]
            refine And.intro rfl ?_
            rw [hw]
            rfl
    · have h2 : ¬ (k : Int) = 9 := of_decide_eq_false h2
      have hbad : ¬ ((k : Int) = 9 ∧ c > 1) := fun h => h2 h.1
      refine Exists.intro _ (And.intro (sh_ask (x := grp c) hB) ?_)
      refine And.intro (fun hc => ?_) (fun hc => ?_)
      · have hc : c ≥ 128 := of_decide_eq_true hc
        have hk9 : k + 1 ≤ 9 := by
          rcases Nat.lt_or_ge k 9 with h | h
          · omega
          · exact absurd ⟨by omega, by omega⟩ hbad
        refine ⟨bs.length - (q + 1), by omega, k + 1, orU u c k, q + 1, rfl, by omega, hk9, (numL_more hbad hc).symm, ?_⟩
        unfold sN stR
        rw [← hwk, ← hw]
        rfl
      · have hc : ¬ c ≥ 128 := of_decide_eq_false hc
        refine And.intro (fun h0 => ?_) (fun h0 => ?_)
        · have h0 : c = 0 := of_decide_eq_true h0
          refine And.intro (fun h4 => ?_) (fun h4 => ?_)
          · have h4 : (k : Int) > 0 := of_decide_eq_true h4
            refine ⟨rfl, Nat.le_refl 0, (t49 fa fw (IntKind.i64.wrap ((q : Int) + 1)) from' 4 bs).mono ?_⟩
            rintro d l ⟨rfl, rfl⟩
            refine ⟨rfl, fun k hk => absurd hk (Nat.not_lt_zero k), rfl, ?_⟩
            rw [numL_zero hbad hc h0 h4]
            exact And.intro rfl rfl
          · have h4 : ¬ (k : Int) > 0 := of_decide_eq_false h4
            refine ⟨rfl, Nat.zero_le 1, ((t72_0 (orU u c k)).pure rfl rfl rfl rfl (r := 1) (sto := stR fa fw bs (IntKind.i64.wrap ((q : Int) + 1))) (Nat.le_refl 1)).mono ?_⟩
            rintro d l ⟨rfl, rfl⟩
            refine ⟨rfl, fun _ _ => rfl, rfl, ?_⟩
            rw [numL_ok hbad hc (fun h => h4 h.2)]
            refine And.intro rfl ?_
            rw [hw]
            rfl
        · have h0 : ¬ c = 0 := of_decide_eq_false h0
          refine ⟨rfl, Nat.zero_le 1, ((t72_0 (orU u c k)).pure rfl rfl rfl rfl (r := 1) (sto := stR fa fw bs (IntKind.i64.wrap ((q : Int) + 1))) (Nat.le_refl 1)).mono ?_⟩
          rintro d l ⟨rfl, rfl⟩
          refine ⟨rfl, fun _ _ => rfl, rfl, ?_⟩
          rw [numL_ok hbad hc (fun h => h0 h.1)]
          refine And.intro rfl ?_
          rw [hw]
          rfl
end Go.Lv

namespace Go.Lv
open Go.Proofs

structure Rd where
  fa : Int
  fw : Int
  p : Nat
noncomputable def stRd (bs : List Int) (s : Rd) : List Ob := stR s.fa s.fw bs s.p
theorem numL_pos : ∀ (l : List Int) (k : Nat) (u : Int) (p : Nat), (numL l k u p).2.2 ≤ p + l.length
  | [], k, u, p => by simp [numL]
  | c :: r, k, u, p => by
    unfold numL
    split
    · simp
    · split
      · have := numL_pos r (k + 1) (orU u c k) (p + 1)
        simp only [List.length_cons]
        omega
      · split
        · simp
        · simp only [List.length_cons]
          omega
noncomputable def numRd (bs : List Int) (s : Rd) : Int × Rd := if s.fw = 0 then ((numL (bs.drop s.p) 0 0 s.p).2.1, if (numL (bs.drop s.p) 0 0 s.p).1 = 0 then ⟨s.fa, s.fw, (numL (bs.drop s.p) 0 0 s.p).2.2⟩ else ⟨s.p, (numL (bs.drop s.p) 0 0 s.p).1, s.p⟩) else (0, s)
theorem numRd_pos {bs : List Int} {s : Rd} (h : s.p ≤ bs.length) : (numRd bs s).2.p ≤ bs.length := by
  unfold numRd
  split
  · have := numL_pos (bs.drop s.p) 0 0 s.p
    rw [List.length_drop] at this
    simp only
    split
    · show (numL (bs.drop s.p) 0 0 s.p).2.2 ≤ bs.length
      omega
    · exact h
  · exact h
theorem outN_rd (bs : List Int) (s : Rd) (h : s.fw = 0) : outN s.fa s.fw (s.p : Int) bs (numL (bs.drop s.p) 0 0 s.p) = stRd bs (numRd bs s).2 := by
  unfold outN numRd stRd
  rw [if_pos h]
  simp only
  split <;> rfl
/-- Num. -/
theorem t44 (bs : List Int) (hb : bs.length ≤ 140737488351232) (s : Rd) (hp : s.p ≤ bs.length) :
    Tri Try.prog 44 0 [.gptr 0 0] (stRd bs s) (fun d l => d = .int .i64 (numRd bs s).1 ∧ l = stRd bs (numRd bs s).2) := by
  refine Tri.walk2 (L := LT) (c := {la := false, n := 19, ko := [2]}) [(56, 1, [])] [0, 2, 12] hLT hmix Try.func44 rfl rfl ⟨rfl, rfl⟩ (by show 1 ≤ 19; decide) (Nat.zero_le _) ?_
  refine And.intro (fun h => by cases h) (fun _ => ?_)
  refine ⟨rfl, Nat.zero_le 1, ((t43_0 s.fa s.fw).pure rfl rfl rfl rfl (r := 1) (sto := stRd bs s) (Nat.le_refl 1)).mono ?_⟩
  rintro d l ⟨hd, rfl⟩
  by_cases hf : s.fw = 0
  · rw [decide_eq_true hf] at hd
    subst hd
    refine ⟨rfl, fun _ _ => rfl, rfl, ?_⟩
    refine ⟨rfl, Nat.le_refl 0, (t56 s.fa s.fw (s.p : Int) bs hb s.p hp).mono ?_⟩
    rintro d l ⟨rfl, rfl⟩
    refine ⟨rfl, fun k hk => absurd hk (Nat.not_lt_zero k), ?_, ?_⟩
    · rw [outN_rd bs s hf]; rfl
    rw [outN_rd bs s hf]
    refine And.intro ?_ rfl
    unfold numRd
    rw [if_pos hf]
  · rw [decide_eq_false hf] at hd
    subst hd
    refine ⟨rfl, fun _ _ => rfl, rfl, ?_⟩
    have : numRd bs s = (0, s) := by unfold numRd; rw [if_neg hf]
    rw [this]
    exact And.intro rfl rfl
noncomputable def cntRd (bs : List Int) (most : Int) (s : Rd) : Int × Rd := if s.fw = 0 then (if (numRd bs s).2.fw = 0 ∧ ((numRd bs s).1 < 0 ∨ (numRd bs s).1 > most) then (0, ⟨s.p, 2, s.p⟩) else numRd bs s) else (0, s)
/-- count. -/
theorem t55 (bs : List Int) (hb : bs.length ≤ 140737488351232) (s : Rd) (hp : s.p ≤ bs.length) (hf : s.fw = 0) (most : Int) :
    Tri Try.prog 55 0 [.gptr 0 0, .int .i64 (s.p : Int), .int .i64 most] (stRd bs s) (fun d l => d = .int .i64 (cntRd bs most s).1 ∧ l = stRd bs (cntRd bs most s).2) := by
  refine Tri.walk2 (L := LT) (c := {la := false, n := 29, ko := [6]}) [(56, 1, []), (49, 1, [])] [0, 1, 2, 6, 7, 24] hLT hmix Try.func55 rfl rfl ⟨rfl, rfl⟩ (by show 3 ≤ 29; decide) (Nat.zero_le _) ?_
  refine ⟨rfl, Nat.le_refl 0, (t56 s.fa s.fw (s.p : Int) bs hb s.p hp).mono ?_⟩
  rintro d l ⟨rfl, rfl⟩
  have h1 : (numL (bs.drop s.p) 0 0 s.p).2.1 = (numRd bs s).1 := by unfold numRd; rw [if_pos hf]
  rw [outN_rd bs s hf, h1]
  have hc : cntRd bs most s = if (numRd bs s).2.fw = 0 ∧ ((numRd bs s).1 < 0 ∨ (numRd bs s).1 > most) then (0, ⟨s.p, 2, s.p⟩) else numRd bs s := by unfold cntRd; rw [if_pos hf]
  rw [hc]
  generalize numRd bs s = x
  obtain ⟨n, t⟩ := x
  refine ⟨rfl, fun k hk => absurd hk (Nat.not_lt_zero k), rfl, ?_⟩
  refine ⟨rfl, Nat.zero_le 1, ((t43_0 t.fa t.fw).pure rfl rfl rfl rfl (r := 1) (sto := stRd bs t) (Nat.le_refl 1)).mono ?_⟩
  rintro d l ⟨hd, rfl⟩
  by_cases hf2 : t.fw = 0
  · rw [decide_eq_true hf2] at hd
    subst hd
    refine ⟨rfl, fun _ _ => rfl, rfl, ?_⟩
    have bad : (n < 0 ∨ n > most) → (if t.fw = 0 ∧ (n < 0 ∨ n > most) then ((0 : Int), (⟨s.p, 2, s.p⟩ : Rd)) else (n, t)) = (0, ⟨s.p, 2, s.p⟩) := fun h => if_pos ⟨hf2, h⟩
    refine And.intro (fun h2 => ?_) (fun h2 => ?_)
    · have h2 : n < 0 := of_decide_eq_true h2
      refine ⟨rfl, Nat.le_refl 0, (t49 t.fa t.fw t.p s.p 2 bs).mono ?_⟩
      rintro d l ⟨rfl, rfl⟩
      refine ⟨rfl, fun k hk => absurd hk (Nat.not_lt_zero k), rfl, ?_⟩
      rw [bad (.inl h2)]
      exact And.intro rfl rfl
    · have h2 : ¬ n < 0 := of_decide_eq_false h2
      refine And.intro (fun h3 => ?_) (fun h3 => ?_)
      · have h3 : n > most := of_decide_eq_true h3
        refine ⟨rfl, Nat.le_refl 0, (t49 t.fa t.fw t.p s.p 2 bs).mono ?_⟩
        rintro d l ⟨rfl, rfl⟩
        refine ⟨rfl, fun k hk => absurd hk (Nat.not_lt_zero k), rfl, ?_⟩
        rw [bad (.inr h3)]
        exact And.intro rfl rfl
      · have h3 : ¬ n > most := of_decide_eq_false h3
        rw [if_neg (fun h => h.2.elim h2 h3)]
        exact And.intro rfl rfl
  · rw [decide_eq_false hf2] at hd
    subst hd
    refine ⟨rfl, fun _ _ => rfl, rfl, ?_⟩
    rw [if_neg (fun h => hf2 h.1)]
    exact And.intro rfl rfl
/-- Count. -/
theorem t42 (bs : List Int) (hb : bs.length ≤ 140737488351232) (s : Rd) (hp : s.p ≤ bs.length) (most : Int) :
    Tri Try.prog 42 0 [.gptr 0 0, .int .i64 most] (stRd bs s) (fun d l => d = .int .i64 (cntRd bs most s).1 ∧ l = stRd bs (cntRd bs most s).2) := by
  refine Tri.walk2 (L := LT) (c := {la := false, n := 22, ko := [4]}) [(55, 1, [])] [0, 1, 4, 14] hLT hmix Try.func42 rfl rfl ⟨rfl, rfl⟩ (by show 2 ≤ 22; decide) (Nat.zero_le _) ?_
  refine And.intro (fun h => by cases h) (fun _ => ?_)
  refine ⟨rfl, Nat.zero_le 1, ((t43_0 s.fa s.fw).pure rfl rfl rfl rfl (r := 1) (sto := stRd bs s) (Nat.le_refl 1)).mono ?_⟩
  rintro d l ⟨hd, rfl⟩
  by_cases hf : s.fw = 0
  · rw [decide_eq_true hf] at hd
    subst hd
    refine ⟨rfl, fun _ _ => rfl, rfl, ?_⟩
    refine ⟨rfl, Nat.le_refl 0, (t55 bs hb s hp hf most).mono ?_⟩
    rintro d l ⟨rfl, rfl⟩
    refine ⟨rfl, fun k hk => absurd hk (Nat.not_lt_zero k), rfl, ?_⟩
    exact And.intro rfl rfl
  · rw [decide_eq_false hf] at hd
    subst hd
    refine ⟨rfl, fun _ _ => rfl, rfl, ?_⟩
    have : cntRd bs most s = (0, s) := by unfold cntRd; rw [if_neg hf]
    rw [this]
    exact And.intro rfl rfl
end Go.Lv

namespace Go.Lv
open Go.Proofs

noncomputable def repRd (bs : List Int) (s : Rd) : Rep × Rd :=
  let a := numRd bs s
  let b := numRd bs a.2
  let c := numRd bs b.2
  let d := numRd bs c.2
  if d.2.fw = 0 then (⟨a.1, b.1, c.1, d.1⟩, d.2) else (rep0, d.2)
theorem repRd_pos {bs : List Int} {s : Rd} (h : s.p ≤ bs.length) : (repRd bs s).2.p ≤ bs.length := by
  have := numRd_pos (numRd_pos (numRd_pos (numRd_pos h)))
  unfold repRd
  simp only
  split <;> exact this
/-- GetReply. -/
theorem t45 (bs : List Int) (hb : bs.length ≤ 140737488351232) (s : Rd) (hp : s.p ≤ bs.length) :
    Tri Try.prog 45 0 [.gptr 0 0] (stRd bs s) (fun d l => d = encR (repRd bs s).1 ∧ l = stRd bs (repRd bs s).2) := by
  refine Tri.walk2 (L := LT) (c := {la := false, n := 24}) [(44, 1, [])] [0, 2, 3, 21] hLT hmix Try.func45 rfl rfl ⟨rfl, rfl⟩ (by show 1 ≤ 24; decide) (Nat.zero_le _) ?_
  unfold repRd
  simp only
  have hp1 := numRd_pos hp
  have hp2 := numRd_pos hp1
  have hp3 := numRd_pos hp2
  have c0 := t44 bs hb s hp
  have c1 := t44 bs hb _ hp1
  have c2 := t44 bs hb _ hp2
  have c3 := t44 bs hb _ hp3
  generalize numRd bs s = x0 at *
  obtain ⟨v0, s0'⟩ := x0
  generalize numRd bs s0' = x1 at *
  obtain ⟨v1, s1'⟩ := x1
  generalize numRd bs s1' = x2 at *
  obtain ⟨v2, s2'⟩ := x2
  generalize numRd bs s2' = x3 at *
  obtain ⟨v3, s3'⟩ := x3
  refine ⟨rfl, Nat.le_refl 0, c0.mono ?_⟩
  rintro d l ⟨rfl, rfl⟩
  refine ⟨rfl, fun k hk => absurd hk (Nat.not_lt_zero k), rfl, ?_⟩
  refine ⟨rfl, Nat.le_refl 0, c1.mono ?_⟩
  rintro d l ⟨rfl, rfl⟩
  refine ⟨rfl, fun k hk => absurd hk (Nat.not_lt_zero k), rfl, ?_⟩
  refine ⟨rfl, Nat.le_refl 0, c2.mono ?_⟩
  rintro d l ⟨rfl, rfl⟩
  refine ⟨rfl, fun k hk => absurd hk (Nat.not_lt_zero k), rfl, ?_⟩
  refine ⟨rfl, Nat.le_refl 0, c3.mono ?_⟩
  rintro d l ⟨rfl, rfl⟩
  refine ⟨rfl, fun k hk => absurd hk (Nat.not_lt_zero k), rfl, ?_⟩
  refine ⟨rfl, Nat.zero_le 1, ((t43_0 s3'.fa s3'.fw).pure rfl rfl rfl rfl (r := 1) (sto := stRd bs s3') (Nat.le_refl 1)).mono ?_⟩
  rintro d l ⟨hd, rfl⟩
  by_cases hf : s3'.fw = 0
  · rw [decide_eq_true hf] at hd
    subst hd
    refine ⟨rfl, fun _ _ => rfl, rfl, ?_⟩
    rw [if_pos hf]
    exact And.intro rfl rfl
  · rw [decide_eq_false hf] at hd
    subst hd
    refine ⟨rfl, fun _ _ => rfl, rfl, ?_⟩
    rw [if_neg hf]
    exact And.intro rfl rfl
/-- Read. -/
theorem t23_0 (bs : List Int) (hb : bs.length ≤ 140737488351232) : Tri Try.prog 23 0 [.list .imm (bs.map rowB)] [] (fun d l => d = .gptr 0 0 ∧ l = stRd bs ⟨0, 0, 0⟩) := by
  refine Tri.walk2 (L := LT) (c := {la := false, n := 7, ko := [2], gl := [6]}) [] [0, 2] hLT hmix Try.func23 rfl rfl ⟨rfl, rfl⟩ (by show 1 ≤ 7; decide) (Nat.zero_le _) ?_
  refine ⟨rfl, Nat.le_refl 0, (t41_0 bs (by omega) 0 (by omega) (by omega)).mono ?_⟩
  rintro d l ⟨rfl, rfl⟩
  refine ⟨rfl, fun _ _ => rfl, rfl, ?_⟩
  exact And.intro rfl rfl
noncomputable def endRd (bs : List Int) (s : Rd) : Int × Rd := if s.fw = 0 ∧ s.p < bs.length then (5, ⟨s.p, 5, s.p⟩) else (s.fw, s)
/-- End. -/
theorem t30 (bs : List Int) (s : Rd) :
    Tri Try.prog 30 0 [.gptr 0 0] (stRd bs s) (fun d l => d = .int .i64 (endRd bs s).1 ∧ l = stRd bs (endRd bs s).2) := by
  refine Tri.walk2 (L := LT) (c := {la := false, n := 33, ko := [2]}) [(49, 1, [])] [0, 2, 4, 21] hLT hmix Try.func30 rfl rfl ⟨rfl, rfl⟩ (by show 1 ≤ 33; decide) (Nat.zero_le _) ?_
  refine And.intro (fun h => by cases h) (fun _ => ?_)
  refine ⟨⟨131071, [0, 1, 2, 4, 8, 16, 32, 96, 160, 288, 32, 1056, 2080, 4128, 8224, 16928, 32800], [1, 3, 7, 15, 31, 63, 127, 255, 511, 1023, 1087, 3135, 7231, 15423, 31807, 65535, 131071]⟩, by kernel_rfl, ?_⟩
  refine And.intro ?_ trivial
  refine ⟨rfl, Nat.zero_le 1, ((t43_0 s.fa s.fw).pure rfl rfl rfl rfl (r := 1) (sto := stRd bs s) (Nat.le_refl 1)).mono ?_⟩
  rintro d l ⟨hd, rfl⟩
  unfold endRd
  by_cases hf : s.fw = 0
  · rw [decide_eq_true hf] at hd
    subst hd
    refine ⟨rfl, fun _ _ => rfl, rfl, ?_⟩
    refine And.intro trivial ?_
    refine And.intro (fun _ => ?_) (fun h => by cases h)
    refine And.intro (fun h => ?_) (fun h => ?_)
    · have h : ((s.p : Nat) : Int) < ((bs.map rowB).length : Int) := of_decide_eq_true h
      rw [List.length_map] at h
      refine And.intro (fun _ => ?_) (fun h => by cases h)
      refine ⟨rfl, Nat.le_refl 0, (t49 s.fa s.fw s.p s.p 5 bs).mono ?_⟩
      rintro d l ⟨rfl, rfl⟩
      refine ⟨rfl, fun k hk => absurd hk (Nat.not_lt_zero k), rfl, ?_⟩
      rw [if_pos ⟨hf, by omega⟩]
      exact And.intro rfl rfl
    · have h : ¬ ((s.p : Nat) : Int) < ((bs.map rowB).length : Int) := of_decide_eq_false h
      rw [List.length_map] at h
      refine And.intro (fun h => by cases h) (fun _ => ?_)
      rw [if_neg (fun q => h (by omega))]
      exact And.intro rfl rfl
  · rw [decide_eq_false hf] at hd
    subst hd
    refine ⟨rfl, fun _ _ => rfl, rfl, ?_⟩
    refine And.intro trivial ?_
    rw [if_neg (fun q => hf q.1)]
    refine And.intro (fun h => by cases h) (fun _ => ?_)
    refine And.intro (fun h => by cases h) (fun _ => ?_)
    exact And.intro rfl rfl
/-- What uses a reader, wherever it stands. -/
theorem Tri.rdRW {f : Nat} {bs : List Int} {s s' : Rd} {args : List D} {d : D} (h : Tri Try.prog f 0 (.gptr 0 0 :: args) (stRd bs s) (fun d' l => d' = d ∧ l = stRd bs s')) (ha : args.all cellsOK = true) (hn : nrBL 0 args = true) (hd : partsOK d = true) (hdn : nrB 0 d = true)
    {r b : Nat} {sto : List Ob} (hr : r ≤ sto.length) (hb : sto[b]? = some (.box [.int .i64 s.fa, .int .i64 s.fw, .list .imm (bs.map rowB), .int .i64 (s.p : Int)])) (hbr : r ≤ b) :
    Tri Try.prog f r (.gptr b 0 :: args) sto (fun d' l => d' = d ∧ l = sto.set b (.box [.int .i64 s'.fa, .int .i64 s'.fw, .list .imm (bs.map rowB), .int .i64 (s'.p : Int)])) := by
  have hre : ∀ (t : Rd) (ρ : Nat → Nat), renO ρ (.box [.int .i64 t.fa, .int .i64 t.fw, .list .imm (bs.map rowB), .int .i64 (t.p : Int)]) = .box [.int .i64 t.fa, .int .i64 t.fw, .list .imm (bs.map rowB), .int .i64 (t.p : Int)] := fun t ρ => by
    show Ob.box [.int .i64 t.fa, .int .i64 t.fw, .list .imm (renLL ρ (bs.map rowB)), .int .i64 (t.p : Int)] = _
    rw [renLL_id ρ (nrBLL_B bs)]
  have := Tri.ren (r := r) (sto := sto) (fun _ => b) h (fun i j hi hj e => by
      have hi : i < 1 := hi
      have hj : j < 1 := hj
      omega) (fun i o hi => by
      match i, hi with
      | 0, hi => simp [stRd, stR] at hi; subst hi; rw [hre]; exact hb
      | i + 1, hi => simp [stRd, stR] at hi) (fun i hi => ⟨fun h => absurd h (Nat.not_lt_zero _), fun h => by have : b < r := h; omega⟩) hr (by show (true && args.all cellsOK) = true; rw [ha]; rfl) (fun x hx => by
      rcases List.mem_cons.1 hx with e | hx
      · rw [e]; exact .gptr _ _ (by show 0 < 1; omega)
      · exact (nrBL_nr hn x hx).up (Nat.zero_le _)) (fun o ho => by
      have : o = .box [.int .i64 s.fa, .int .i64 s.fw, .list .imm (bs.map rowB), .int .i64 (s.p : Int)] := by simpa [stRd, stR] using ho
      rw [this]
      refine (nrO_nr (k := 0) (o := .box _) ?_ : NRo 0 _) |> fun h d hd => (h d hd).up (Nat.zero_le _)
      show (nrBLL 0 (bs.map rowB) && true) = true
      rw [nrBLL_B]
      rfl) rfl (fun d l ⟨h1, h2⟩ => by subst h1; subst h2; exact ⟨hd, rfl⟩)
  rw [show renL (fun _ => b) (.gptr 0 0 :: args) = .gptr b 0 :: args by show D.gptr b 0 :: renL (fun _ => b) args = _; rw [renL_id _ hn]] at this
  refine this.mono fun d' l ⟨d1, l1, ⟨h1, h2⟩, h3, h4⟩ => ?_
  subst h1; subst h2
  refine ⟨by rw [h3, renD_id _ hdn], ?_⟩
  rw [h4]
  show (sto.set b (renO _ (.box [.int .i64 s'.fa, .int .i64 s'.fw, .list .imm (bs.map rowB), .int .i64 (s'.p : Int)]))) ++ [] = _
  rw [List.append_nil, hre]
end Go.Lv

namespace Go.Lv
open Go.Proofs

structure GS where
  rd : Rd
  last : Int
  ok : Bool
  m : Tbl
noncomputable def rndG (bs : List Int) (g : GS) : GS := ⟨(repRd bs (numRd bs (numRd bs g.rd).2).2).2, (numRd bs g.rd).1, g.ok && (decide ((numRd bs g.rd).1 > g.last) && rightZ (numRd bs g.rd).1 (numRd bs (numRd bs g.rd).2).1), setT (numRd bs g.rd).1 ⟨(numRd bs (numRd bs g.rd).2).1, (repRd bs (numRd bs (numRd bs g.rd).2).2).1⟩ g.m⟩
noncomputable def getG (bs : List Int) : Nat → GS → GS
  | 0, g => g
  | f + 1, g => if g.rd.fw = 0 then getG bs f (rndG bs g) else g
noncomputable def stG (bs : List Int) (s : Rd) (m : Tbl) : List Ob := [.box [.int .i64 s.fa, .int .i64 s.fw, .list .imm (bs.map rowB), .int .i64 (s.p : Int)], .map (encT m), .box [.map 1]]
noncomputable def allG (bs : List Int) (s : Rd) : GS := getG bs (cntRd bs 16 s).1.toNat ⟨(cntRd bs 16 s).2, 0, true, []⟩
theorem cntRd_pos {bs : List Int} {s : Rd} {n : Int} (h : s.p ≤ bs.length) : (cntRd bs n s).2.p ≤ bs.length := by
  unfold cntRd
  split
  · split
    · exact h
    · exact numRd_pos h
  · exact h
theorem numL_err : ∀ (l : List Int) (k : Nat) (u : Int) (p : Nat), (numL l k u p).1 ≠ 0 → (numL l k u p).2.1 = 0
  | [], k, u, p, _ => rfl
  | c :: r, k, u, p, h => by
    unfold numL at h ⊢
    split at h
    · rename_i hb
      rw [if_pos hb]
    · rename_i hb
      rw [if_neg hb]
      split at h
      · rename_i hc
        rw [if_pos hc]
        exact numL_err r _ _ _ h
      · rename_i hc
        rw [if_neg hc]
        split at h
        · rename_i h0
          rw [if_pos h0]
        · exact absurd rfl h
theorem cntRd_le {bs : List Int} {s : Rd} {n : Int} (hn : 0 ≤ n) : (cntRd bs n s).1 ≤ n := by
  unfold cntRd
  split
  · rename_i hf
    split
    · exact hn
    · rename_i h
      by_cases hz : (numRd bs s).2.fw = 0
      · have : ¬ (numRd bs s).1 > n := fun h' => h ⟨hz, .inr h'⟩
        omega
      · have : (numRd bs s).1 = 0 := by
          unfold numRd at hz ⊢
          rw [if_pos hf] at hz ⊢
          simp only at hz ⊢
          split at hz
          · exact absurd hf hz
          · rename_i he
            exact numL_err _ _ _ _ he
        rw [this]
        exact hn
  · exact hn
theorem rndG_pos {bs : List Int} {g : GS} (h : g.rd.p ≤ bs.length) : (rndG bs g).rd.p ≤ bs.length := repRd_pos (numRd_pos (numRd_pos h))
noncomputable def sG (bs : List Int) (n : Int) (i : Nat) (g : GS) : DS := ⟨[(0, .gptr 0 0), (4, .gptr 2 0), (5, .int .i64 g.last), (6, .bool g.ok), (7, .int .i64 n), (8, .int .i64 (i : Int)), (2, .nil), (3, .bool false)], [], stG bs g.rd g.m, mR 0⟩
noncomputable def M25 : Ms := [(42, 1, []), (44, 1, []), (45, 1, [])]
noncomputable def lv25 : List Nat := [0, 2, 3, 4, 5, 6, 7, 8, 9, 10, 11, 24, 62]
set_option maxHeartbeats 8000000 in
theorem t25 (bs : List Int) (hb : bs.length ≤ 140737488351232) (s : Rd) (hp : s.p ≤ bs.length) :
    Tri Try.prog 25 0 [.gptr 0 0] (stRd bs s) (fun d l => (d = if (allG bs s).ok = true ∧ (allG bs s).rd.fw = 0 then .tup [.gptr 2 0, .bool true] else .tup [.nil, .bool false]) ∧ l = stG bs (allG bs s).rd (allG bs s).m) := by
  refine Tri.walk2 (L := LT) (c := {la := false, n := 64, ko := [2, 3]}) M25 lv25 hLT hmix Try.func25 rfl rfl ⟨rfl, rfl⟩ (by show 1 ≤ 64; decide) (Nat.zero_le _) ?_
  refine ⟨rfl, Nat.zero_le 1, (t10R (r := 1) (sto := stRd bs s) (Nat.le_refl 1)).mono ?_⟩
  rintro d l ⟨rfl, rfl⟩
  refine ⟨rfl, fun k hk => List.getElem?_append_left (show k < (stRd bs s).length from hk), rfl, ?_⟩
  have hc := cntRd_pos (n := 16) hp
  have hn16 : (cntRd bs 16 s).1 ≤ 16 := cntRd_le (by omega)
  unfold allG
  have ct := Tri.rdRW (t42 bs hb s hp 16) rfl rfl rfl rfl (r := 0) (b := 0) (sto := stG bs s []) (Nat.zero_le _) rfl (Nat.zero_le _)
  generalize cntRd bs 16 s = x at hc ct hn16
  obtain ⟨n, s1⟩ := x
  have hn16 : n ≤ 16 := hn16
  refine ⟨rfl, Nat.le_refl 0, ct.mono ?_⟩
  rintro d l ⟨rfl, rfl⟩
  refine ⟨rfl, fun k hk => absurd hk (Nat.not_lt_zero k), rfl, ?_⟩
  show Ok _ _ _ _ _
  refine Ok.loopN hLT hmix M25 lv25 [0, 4, 5, 6, 7, 8, 2, 3] [] (fun f t => ∃ (i : Nat) (g : GS), f = n.toNat - i ∧ i ≤ n.toNat ∧ g.rd.p ≤ bs.length ∧ getG bs (n.toNat - i) g = getG bs n.toNat ⟨s1, 0, true, []⟩ ∧ t = sG bs n i g) (n := n.toNat) ⟨0, ⟨s1, 0, true, []⟩, rfl, Nat.zero_le _, hc, rfl, rfl⟩ ?_
  rintro f t ⟨i, g, rfl, hi, hg, hall, rfl⟩
  rw [← hall]
  obtain ⟨rd, last, ok, m⟩ := g
  have hg : rd.p ≤ bs.length := hg
  refine And.intro (fun h1 => ?_) (fun h1 => ?_)
  · have h1 : ((i : Nat) : Int) < n := of_decide_eq_true h1
    have hi1 : i < n.toNat := by omega
    have hw : IntKind.i64.wrap ((i : Int) + 1) = ((i + 1 : Nat) : Int) := by
      rw [wrap64 (by omega) (by omega)]
      omega
    have hstep : n.toNat - i = (n.toNat - (i + 1)) + 1 := by omega
    refine ⟨rfl, Nat.zero_le 3, ((t43_0 rd.fa rd.fw).pure rfl rfl rfl rfl (r := 3) (sto := stG bs rd m) (Nat.le_refl 3)).mono ?_⟩
    rintro d l ⟨hd, rfl⟩
    by_cases hf : rd.fw = 0
    · rw [decide_eq_true hf] at hd
      subst hd
      refine ⟨rfl, fun _ _ => rfl, rfl, ?_⟩
      have hrnd : getG bs (n.toNat - (i + 1)) (rndG bs ⟨rd, last, ok, m⟩) = getG bs (n.toNat - i) ⟨rd, last, ok, m⟩ := by
        rw [hstep]
        unfold getG
        rw [if_pos hf]
        split
        · rename_i h; rw [h]; rfl
        · rename_i h; rw [h]; rfl
      have hpos := rndG_pos (g := ⟨rd, last, ok, m⟩) hg
      have hp1 := numRd_pos hg
      have hp2 := numRd_pos hp1
      have c0 := Tri.rdRW (t44 bs hb rd hg) rfl rfl rfl rfl (r := 0) (b := 0) (sto := stG bs rd m) (Nat.zero_le _) rfl (Nat.zero_le _)
      have c1 := Tri.rdRW (t44 bs hb _ hp1) rfl rfl rfl rfl (r := 0) (b := 0) (sto := stG bs (numRd bs rd).2 m) (Nat.zero_le _) rfl (Nat.zero_le _)
      have c2 := Tri.rdRW (t45 bs hb _ hp2) rfl rfl rfl rfl (r := 0) (b := 0) (sto := stG bs (numRd bs (numRd bs rd).2).2 m) (Nat.zero_le _) rfl (Nat.zero_le _)
      rw [← hrnd]
      have hG : rndG bs ⟨rd, last, ok, m⟩ = ⟨(repRd bs (numRd bs (numRd bs rd).2).2).2, (numRd bs rd).1, ok && (decide ((numRd bs rd).1 > last) && rightZ (numRd bs rd).1 (numRd bs (numRd bs rd).2).1), setT (numRd bs rd).1 ⟨(numRd bs (numRd bs rd).2).1, (repRd bs (numRd bs (numRd bs rd).2).2).1⟩ m⟩ := rfl
      have hp3 : (repRd bs (numRd bs (numRd bs rd).2).2).2.p ≤ bs.length := hpos
      clear hpos
      generalize numRd bs rd = x0 at c0 c1 c2 hG hp3
      obtain ⟨k, s0'⟩ := x0
      generalize numRd bs s0' = x1 at c1 c2 hG hp3
      obtain ⟨q, s1'⟩ := x1
      generalize repRd bs s1' = x2 at c2 hG hp3
      obtain ⟨r, s2'⟩ := x2
      refine ⟨rfl, Nat.le_refl 0, c0.mono ?_⟩
      rintro d l ⟨rfl, rfl⟩
      refine ⟨rfl, fun k hk => absurd hk (Nat.not_lt_zero k), rfl, ?_⟩
      refine ⟨rfl, Nat.le_refl 0, c1.mono ?_⟩
      rintro d l ⟨rfl, rfl⟩
      refine ⟨rfl, fun k hk => absurd hk (Nat.not_lt_zero k), rfl, ?_⟩
      refine ⟨rfl, Nat.le_refl 0, c2.mono ?_⟩
      rintro d l ⟨rfl, rfl⟩
      refine ⟨rfl, fun k hk => absurd hk (Nat.not_lt_zero k), rfl, ?_⟩
      cases ok with
      | false =>
        refine ⟨⟨255, [0, 1, 2, 4, 0, 0, 0, 96, 255], [1, 3, 7, 15, 16, 32, 64, 224, 511]⟩, by kernel_rfl, ?_⟩
        refine And.intro ?_ trivial
        refine And.intro ⟨Nat.zero_le 1, rfl, rfl⟩ ?_
        refine Exists.intro (encT (setT k ⟨q, r⟩ m)) ?_
        refine And.intro (setEnt k ⟨q, r⟩ m) ?_
        refine And.intro trivial ?_
        refine ⟨n.toNat - (i + 1), by omega, i + 1, ⟨s2', k, false, setT k ⟨q, r⟩ m⟩, rfl, by omega, hp3, by rw [hG]; rfl, ?_⟩
        unfold sG
        rw [← hw]
        rfl
      | true =>
        refine And.intro (fun h5 => ?_) (fun h5 => ?_)
        · have h5 : k > last := of_decide_eq_true h5
          refine ⟨rfl, Nat.zero_le 3, (t31 k q (r := 3) (sto := stG bs s2' m) (Nat.le_refl 3)).mono ?_⟩
          rintro d l ⟨rfl, rfl⟩
          refine ⟨rfl, fun _ _ => rfl, rfl, ?_⟩
          cases hr : rightZ k q with
          | true =>
            refine ⟨⟨255, [0, 1, 2, 4, 0, 0, 0, 96, 255], [1, 3, 7, 15, 16, 32, 64, 224, 511]⟩, by kernel_rfl, ?_⟩
            refine And.intro ?_ trivial
            refine And.intro ⟨Nat.zero_le 1, rfl, rfl⟩ ?_
            refine Exists.intro (encT (setT k ⟨q, r⟩ m)) ?_
            refine And.intro (setEnt k ⟨q, r⟩ m) ?_
            refine And.intro trivial ?_
            refine ⟨n.toNat - (i + 1), by omega, i + 1, ⟨s2', k, true, setT k ⟨q, r⟩ m⟩, rfl, by omega, hp3, by rw [hG]; simp only [decide_eq_true h5, hr]; rfl, ?_⟩
            unfold sG
            rw [← hw]
            rfl
          | false =>
            refine ⟨⟨255, [0, 1, 2, 4, 0, 0, 0, 96, 255], [1, 3, 7, 15, 16, 32, 64, 224, 511]⟩, by kernel_rfl, ?_⟩
            refine And.intro ?_ trivial
            refine And.intro ⟨Nat.zero_le 1, rfl, rfl⟩ ?_
            refine Exists.intro (encT (setT k ⟨q, r⟩ m)) ?_
            refine And.intro (setEnt k ⟨q, r⟩ m) ?_
            refine And.intro trivial ?_
            refine ⟨n.toNat - (i + 1), by omega, i + 1, ⟨s2', k, false, setT k ⟨q, r⟩ m⟩, rfl, by omega, hp3, by rw [hG]; simp only [decide_eq_true h5, hr]; rfl, ?_⟩
            unfold sG
            rw [← hw]
            rfl
        · have h5 : ¬ k > last := of_decide_eq_false h5
          refine ⟨⟨255, [0, 1, 2, 4, 0, 0, 0, 96, 255], [1, 3, 7, 15, 16, 32, 64, 224, 511]⟩, by kernel_rfl, ?_⟩
          refine And.intro ?_ trivial
          refine And.intro ⟨Nat.zero_le 1, rfl, rfl⟩ ?_
          refine Exists.intro (encT (setT k ⟨q, r⟩ m)) ?_
          refine And.intro (setEnt k ⟨q, r⟩ m) ?_
          refine And.intro trivial ?_
          refine ⟨n.toNat - (i + 1), by omega, i + 1, ⟨s2', k, false, setT k ⟨q, r⟩ m⟩, rfl, by omega, hp3, by rw [hG]; simp only [decide_eq_false h5]; rfl, ?_⟩
          unfold sG
          rw [← hw]
          rfl
    · rw [decide_eq_false hf] at hd
      subst hd
      refine ⟨rfl, fun _ _ => rfl, rfl, ?_⟩
      have hfin : getG bs (n.toNat - i) ⟨rd, last, ok, m⟩ = ⟨rd, last, ok, m⟩ := by
        rw [hstep]
        unfold getG
        rw [if_neg hf]
      rw [hfin]
      cases ok with
      | true =>
        refine ⟨rfl, Nat.zero_le 3, ((t43_0 rd.fa rd.fw).pure rfl rfl rfl rfl (r := 3) (sto := stG bs rd m) (Nat.le_refl 3)).mono ?_⟩
        rintro d l ⟨hd, rfl⟩
        by_cases hf : rd.fw = 0
        · rw [decide_eq_true hf] at hd
          subst hd
          refine ⟨rfl, fun _ _ => rfl, rfl, ?_⟩
          refine And.intro ?_ rfl
          rw [if_pos ⟨rfl, hf⟩]
        · rw [decide_eq_false hf] at hd
          subst hd
          refine ⟨rfl, fun _ _ => rfl, rfl, ?_⟩
          refine And.intro ?_ rfl
          rw [if_neg (fun h => hf h.2)]
      | false =>
        refine And.intro ?_ rfl
        rw [if_neg (fun h => by cases h.1)]
  · have h1 : ¬ ((i : Nat) : Int) < n := of_decide_eq_false h1
    have hfin : getG bs (n.toNat - i) ⟨rd, last, ok, m⟩ = ⟨rd, last, ok, m⟩ := by
      rw [show n.toNat - i = 0 by omega]
      rfl
    rw [hfin]
    cases ok with
    | true =>
      refine ⟨rfl, Nat.zero_le 3, ((t43_0 rd.fa rd.fw).pure rfl rfl rfl rfl (r := 3) (sto := stG bs rd m) (Nat.le_refl 3)).mono ?_⟩
      rintro d l ⟨hd, rfl⟩
      by_cases hf : rd.fw = 0
      · rw [decide_eq_true hf] at hd
        subst hd
        refine ⟨rfl, fun _ _ => rfl, rfl, ?_⟩
        refine And.intro ?_ rfl
        rw [if_pos ⟨rfl, hf⟩]
      · rw [decide_eq_false hf] at hd
        subst hd
        refine ⟨rfl, fun _ _ => rfl, rfl, ?_⟩
        refine And.intro ?_ rfl
        rw [if_neg (fun h => hf h.2)]
    | false =>
      refine And.intro ?_ rfl
      rw [if_neg (fun h => by cases h.1)]
end Go.Lv

namespace Go.Lv
open Go.Proofs

theorem wrap8 (z : Int) : IntKind.u8.wrap z = z % 256 := by simp [IntKind.wrap, IntKind.bits, IntKind.signed]
theorem ofInt8 (z : Int) : (BitVec.ofInt 8 (z % 256)).toNat = (z % 256).toNat := by
  rw [BitVec.toNat_ofInt]
  omega
theorem or128 : ∀ x : Nat, x < 256 → (x ||| 128) = x % 128 + 128 := by decide +kernel
theorem and127 : ∀ x : Nat, x < 256 → (x &&& 127) = x % 128 := by decide +kernel
theorem orB_eq (w : Int) : orB w = w % 128 + 128 := by
  show IntKind.u8.wrap ((BitVec.ofInt 8 (IntKind.u8.wrap w) ||| BitVec.ofInt 8 128).toNat : Int) = _
  rw [wrap8, wrap8, BitVec.toNat_or, ofInt8, show (BitVec.ofInt 8 128).toNat = 128 by decide, or128 _ (by omega)]
  omega
theorem grp_eq {c : Int} (h0 : 0 ≤ c) (h1 : c < 256) : grp c = c % 128 := by
  show IntKind.u64.wrap (IntKind.u8.wrap ((BitVec.ofInt 8 c &&& BitVec.ofInt 8 127).toNat : Int)) = _
  have : c = c % 256 := by omega
  rw [wrapU, wrap8, BitVec.toNat_and, show BitVec.ofInt 8 c = BitVec.ofInt 8 (c % 256) by rw [← this], ofInt8, show (BitVec.ofInt 8 127).toNat = 127 by decide, and127 _ (by omega)]
  omega
theorem ofInt64 {z : Int} (h0 : 0 ≤ z) (h1 : z < 18446744073709551616) : (BitVec.ofInt 64 z).toNat = z.toNat := by
  rw [BitVec.toNat_ofInt]
  omega
theorem orU_eq {u c : Int} {k : Nat} (hk : k ≤ 9) (hu0 : 0 ≤ u) (hu1 : u < 128 ^ k) (hc0 : 0 ≤ c) (hc1 : c < 256) (ht : u + (c % 128) * 128 ^ k < 18446744073709551616) : orU u c k = u + (c % 128) * 128 ^ k := by
  have hmin : min (7 * k) IntKind.u64.bits = 7 * k := Nat.min_eq_left (by show 7 * k ≤ 64; omega)
  have hpow : (2 : Int) ^ (7 * k) = 128 ^ k := by rw [Int.pow_mul]; rfl
  have hpos : (0 : Int) < 128 ^ k := Int.pow_pos (by omega)
  have hm : 0 ≤ (c % 128) * 128 ^ k := Int.mul_nonneg (by omega) (by omega)
  show IntKind.u64.wrap ((BitVec.ofInt 64 u ||| BitVec.ofInt 64 (IntKind.u64.wrap (grp c * 2 ^ min (7 * k) IntKind.u64.bits))).toNat : Int) = _
  rw [hmin, hpow, grp_eq hc0 hc1, wrapU, wrapU, Int.emod_eq_of_lt hm (by omega), BitVec.toNat_or, ofInt64 hu0 (by omega), ofInt64 hm (by omega)]
  have e1 : ((c % 128) * 128 ^ k).toNat = (c % 128).toNat <<< (7 * k) := by
    rw [Nat.shiftLeft_eq]
    have : ((c % 128) * 128 ^ k) = (((c % 128).toNat * 2 ^ (7 * k) : Nat) : Int) := by
      rw [Int.natCast_mul, Int.natCast_pow, ← hpow]
      have : (((c % 128).toNat : Nat) : Int) = c % 128 := by omega
      rw [this]
      rfl
    rw [this, Int.toNat_natCast]
  have hlt : u.toNat < 2 ^ (7 * k) := by
    have : (u.toNat : Int) < ((2 ^ (7 * k) : Nat) : Int) := by
      rw [Int.natCast_pow]
      have : ((2 : Nat) : Int) ^ (7 * k) = 128 ^ k := hpow
      rw [this]
      omega
    exact Int.ofNat_lt.1 this
  rw [e1, Nat.or_comm, ← Nat.shiftLeft_add_eq_or_of_lt hlt, ← e1]
  rw [Int.emod_eq_of_lt (by omega) (by omega)]
  omega

theorem numL_last {k p : Nat} {w acc : Int} {rest : List Int} (hk : k ≤ 9) (hw0 : 0 ≤ w) (hw1 : w < 128) (h9 : (k : Int) = 9 → w ≤ 1) (ha0 : 0 ≤ acc) (ha1 : acc < 128 ^ k) (ht : acc + w * 128 ^ k < 18446744073709551616) (hz : k > 0 → w ≥ 1) :
    numL (IntKind.u8.wrap w :: rest) k acc p = (0, zagU (acc + w * 128 ^ k), p + 1) := by
  have e : IntKind.u8.wrap w = w := by rw [wrap8]; omega
  rw [e]
  have em : w % 128 = w := by omega
  rw [numL_ok (fun h => by have := h9 h.1; omega) (by omega) (fun h => by have := hz (by omega); omega), orU_eq hk ha0 ha1 hw0 (by omega) (by rw [em]; exact ht), em]
theorem numL_put : ∀ (f k p : Nat) (w acc : Int) (rest : List Int), k + f = 9 → 0 ≤ w → w < 128 ^ (f + 1) → 0 ≤ acc → acc < 128 ^ k → acc + w * 128 ^ k < 18446744073709551616 → (k > 0 → w ≥ 1) →
    numL (putB f w ++ rest) k acc p = (0, zagU (acc + w * 128 ^ k), p + (putB f w).length)
  | 0, k, p, w, acc, rest, hkf, hw0, hw1, ha0, ha1, ht, hz => by
    have hk : k = 9 := by omega
    subst hk
    have hw1 : w < 128 := by simpa using hw1
    have h9 : (128 : Int) ^ 9 = 9223372036854775808 := by decide
    refine numL_last (by omega) hw0 hw1 (fun _ => ?_) ha0 ha1 ht hz
    rw [h9] at ht
    omega
  | f + 1, k, p, w, acc, rest, hkf, hw0, hw1, ha0, ha1, ht, hz => by
    by_cases hge : w ≥ 128
    · have hput : putB (f + 1) w = orB w :: putB f (sh7 w) := by
        conv => lhs; unfold putB
        rw [if_pos hge]
      have hb := orB_eq w
      have hs := sh7_lt hw0 hw1
      have hs7 : sh7 w = w / 128 := sh7_eq
      have hP : (0 : Int) < 128 ^ k := Int.pow_pos (by omega)
      have hP1 : (128 : Int) ^ (k + 1) = 128 * 128 ^ k := pow128 k
      have hsplit : w * 128 ^ k = (w / 128) * (128 * 128 ^ k) + (w % 128) * 128 ^ k := by
        have h := Int.mul_ediv_add_emod w 128
        conv => lhs; rw [← h]
        rw [Int.add_mul, Int.mul_comm 128 (w / 128), Int.mul_assoc]
      have hm0 : 0 ≤ (w % 128) * 128 ^ k := Int.mul_nonneg (by omega) (by omega)
      have hm1 : (w % 128) * 128 ^ k ≤ 127 * 128 ^ k := Int.mul_le_mul_of_nonneg_right (by omega) (by omega)
      have hd0 : 0 ≤ (w / 128) * (128 * 128 ^ k) := Int.mul_nonneg (by omega) (by omega)
      have hc : (w % 128 + 128) % 128 = w % 128 := by omega
      rw [hput, List.cons_append, numL_more (fun h => by
        have : k ≤ 8 := by omega
        omega) (by rw [hb]; omega), orU_eq (by omega) ha0 ha1 (by rw [hb]; omega) (by rw [hb]; omega) (by rw [hb, hc]; omega), hb, hc]
      rw [numL_put f (k + 1) (p + 1) (sh7 w) (acc + (w % 128) * 128 ^ k) rest (by omega) hs.1 hs.2 (by omega) (by rw [hP1]; omega) (by rw [hs7, hP1]; omega) (fun _ => by rw [hs7]; omega)]
      rw [hs7, hP1]
      have e : acc + (w % 128) * 128 ^ k + (w / 128) * (128 * 128 ^ k) = acc + w * 128 ^ k := by rw [hsplit]; omega
      rw [e]
      simp only [List.length_cons]
      congr 2
      omega
    · have hput : putB (f + 1) w = [IntKind.u8.wrap w] := putB_end hge
      rw [hput]
      exact numL_last (by omega) hw0 (by omega) (fun h => by omega) ha0 ha1 ht hz
theorem zag_form {w u : Int} (hw0 : 0 ≤ w) (hw1 : w < 18446744073709551616) (hu : w / 2 = u) : zagU w = IntKind.i64.wrap ((BitVec.ofInt 64 (IntKind.i64.wrap u) ^^^ BitVec.ofInt 64 (IntKind.i64.wrap (0 - IntKind.i64.wrap (IntKind.u64.wrap (w % 2))))).toNat : Int) := by
  have hf : w.fdiv (2 ^ min (Int.toNat 1) IntKind.u64.bits) = u := by
    rw [show (2 : Int) ^ min (Int.toNat 1) IntKind.u64.bits = 2 by decide, Int.fdiv_eq_ediv_of_nonneg _ (by omega), hu]
  have ha : (((BitVec.ofInt 64 w &&& BitVec.ofInt 64 1).toNat : Nat) : Int) = w % 2 := by
    rw [BitVec.toNat_and, ofInt64 hw0 hw1, show (BitVec.ofInt 64 1).toNat = 1 by decide, Nat.and_one_is_mod]
    omega
  show IntKind.i64.wrap ((BitVec.ofInt 64 (IntKind.i64.wrap (w.fdiv (2 ^ min (Int.toNat 1) IntKind.u64.bits))) ^^^ BitVec.ofInt 64 (IntKind.i64.wrap (0 - IntKind.i64.wrap (IntKind.u64.wrap ((BitVec.ofInt 64 w &&& BitVec.ofInt 64 1).toNat : Int))))).toNat : Int) = _
  rw [hf, ha]
theorem zag_nonneg {u : Int} (h0 : 0 ≤ u) (h1 : u < 9223372036854775808) : zagU (2 * u) = u := by
  have e : IntKind.i64.wrap (0 - IntKind.i64.wrap (IntKind.u64.wrap 0)) = 0 := by decide +kernel
  have eu : IntKind.i64.wrap u = u := wrap64 (by omega) (by omega)
  rw [zag_form (u := u) (by omega) (by omega) (by omega), show 2 * u % 2 = 0 by omega, e, eu, show BitVec.ofInt 64 0 = 0#64 by decide, BitVec.xor_zero, ofInt64 h0 (by omega), wrap64 (by omega) (by omega)]
  omega
theorem zag_neg {u : Int} (h0 : 0 ≤ u) (h1 : u < 9223372036854775808) : zagU (2 * u + 1) = -u - 1 := by
  have e : IntKind.i64.wrap (0 - IntKind.i64.wrap (IntKind.u64.wrap 1)) = -1 := by decide +kernel
  have eu : IntKind.i64.wrap u = u := wrap64 (by omega) (by omega)
  rw [zag_form (u := u) (by omega) (by omega) (by omega), show (2 * u + 1) % 2 = 1 by omega, e, eu, show BitVec.ofInt 64 (-1) = BitVec.allOnes 64 by decide, BitVec.xor_allOnes, BitVec.toNat_not, ofInt64 h0 (by omega), IntKind.wrap_i64]
  omega
theorem zu_eq {n : Int} : zu n = (2 * n) % 18446744073709551616 := by
  unfold zu
  rw [show (2 : Int) ^ min (Int.toNat 1) IntKind.u64.bits = 2 by decide, wrapU, wrapU]
  omega
theorem zn_eq {u : Int} (h0 : 0 ≤ u) (h1 : u < 18446744073709551616) : zn u = 18446744073709551615 - u := by
  show IntKind.u64.wrap ((BitVec.ofInt 64 18446744073709551615 ^^^ BitVec.ofInt 64 u).toNat : Int) = _
  rw [show BitVec.ofInt 64 18446744073709551615 = BitVec.allOnes 64 by decide, BitVec.allOnes_xor, BitVec.toNat_not, ofInt64 h0 h1, wrapU]
  omega
theorem zag_zig {n : Int} (h1 : -9223372036854775808 ≤ n) (h2 : n ≤ 9223372036854775807) : zagU (zigU n) = n := by
  unfold zigU
  split
  · rename_i h
    obtain ⟨r1, r2⟩ := zu_range n
    rw [zn_eq r1 r2, zu_eq]
    have : 18446744073709551615 - (2 * n) % 18446744073709551616 = 2 * (-n - 1) + 1 := by omega
    rw [this, zag_neg (by omega) (by omega)]
    omega
  · rename_i h
    rw [zu_eq]
    have : (2 * n) % 18446744073709551616 = 2 * n := by omega
    rw [this, zag_nonneg (by omega) (by omega)]
theorem numL_num {n : Int} (h1 : -9223372036854775808 ≤ n) (h2 : n ≤ 9223372036854775807) (p : Nat) (rest : List Int) : numL (numB n ++ rest) 0 0 p = (0, n, p + (numB n).length) := by
  obtain ⟨r1, r2⟩ := zigU_range n
  have h9 : (128 : Int) ^ (9 + 1) = 1180591620717411303424 := by decide
  have := numL_put 9 0 p (zigU n) 0 rest rfl r1 (by rw [h9]; omega) (by omega) (by decide) (by rw [Int.pow_zero]; omega) (fun h => by omega)
  unfold numB
  rw [this, Int.pow_zero, Int.mul_one, Int.zero_add, zag_zig h1 h2]
end Go.Lv

namespace Go.Lv
open Go.Proofs

theorem drop_more {bs a t : List Int} {p : Nat} (h : bs.drop p = a ++ t) : bs.drop (p + a.length) = t := by
  rw [← List.drop_drop, h, List.drop_left]
theorem numRd_num {bs t : List Int} {fa n : Int} {p : Nat} (h : bs.drop p = numB n ++ t) (hn : in64' n) : numRd bs ⟨fa, 0, p⟩ = (n, ⟨fa, 0, p + (numB n).length⟩) := by
  unfold numRd
  simp only [h, numL_num hn.1 hn.2, if_true]
theorem repRd_rep {bs t : List Int} {fa : Int} {r : Rep} {p : Nat} (h : bs.drop p = repB r ++ t) (hr : inRep r) : repRd bs ⟨fa, 0, p⟩ = (r, ⟨fa, 0, p + (repB r).length⟩) := by
  have e : repB r ++ t = numB r.why ++ (numB r.st ++ (numB r.dr ++ (numB r.tm ++ t))) := by simp only [repB, List.append_assoc]
  rw [e] at h
  have h1 := drop_more h
  have h2 := drop_more h1
  have h3 := drop_more h2
  have q0 := numRd_num (fa := fa) h hr.1
  have q1 := numRd_num (fa := fa) h1 hr.2.1
  have q2 := numRd_num (fa := fa) h2 hr.2.2.1
  have q3 := numRd_num (fa := fa) h3 hr.2.2.2
  unfold repRd
  simp only [q0, q1, q2, q3, if_true]
  have : p + (numB r.why).length + (numB r.st).length + (numB r.dr).length + (numB r.tm).length = p + (repB r).length := by
    simp only [repB, List.length_append]
    omega
  rw [this]
theorem rndG_row {bs t : List Int} {fa last k q : Int} {r : Rep} {p : Nat} {ok : Bool} {m : Tbl} (h : bs.drop p = numB k ++ (numB q ++ (repB r ++ t))) (hk : in64' k) (hq : in64' q) (hr : inRep r) :
    rndG bs ⟨⟨fa, 0, p⟩, last, ok, m⟩ = ⟨⟨fa, 0, p + (numB k).length + (numB q).length + (repB r).length⟩, k, ok && (decide (k > last) && rightZ k q), setT k ⟨q, r⟩ m⟩ := by
  have h1 := drop_more h
  have h2 := drop_more h1
  have q0 := numRd_num (fa := fa) h hk
  have q1 := numRd_num (fa := fa) h1 hq
  have q2 := repRd_rep (fa := fa) h2 hr
  unfold rndG
  simp only [q0, q1, q2]
theorem getG_rows {bs : List Int} {fa : Int} : ∀ (l : Tbl) (p : Nat) (last : Int) (acc : Tbl), bs.drop p = rowsB l → rise l → (∀ x, x ∈ l → last < x.1) → (∀ x, x ∈ acc → x.1 ≤ last) → inTbl l → (∀ x, x ∈ l → rightZ x.1 x.2.seq = true) →
    ∃ last', getG bs l.length ⟨⟨fa, 0, p⟩, last, true, acc⟩ = ⟨⟨fa, 0, p + (rowsB l).length⟩, last', true, acc ++ l⟩
  | [], p, last, acc, h, _, _, _, _, _ => ⟨last, by simp [getG, rowsB]⟩
  | x :: r, p, last, acc, h, hr, hl, ha, hin, hok => by
    unfold rise at hr
    rw [List.pairwise_cons] at hr
    obtain ⟨i1, i2, i3⟩ := hin x (by simp)
    have h' : bs.drop p = numB x.1 ++ (numB x.2.seq ++ (repB x.2.rp ++ rowsB r)) := h
    have hstep := rndG_row (fa := fa) (last := last) (ok := true) (m := acc) h' i1 i2 i3
    have hgt : decide (x.1 > last) = true := decide_eq_true (hl x (by simp))
    rw [hgt, hok x (by simp)] at hstep
    have hnew : x.1 ∉ acc.map Prod.fst := fun hm => by
      obtain ⟨y, hy, he⟩ := List.mem_map.1 hm
      have := ha y hy
      have := hl x (by simp)
      omega
    rw [setT_new hnew] at hstep
    have hd : bs.drop (p + (numB x.1).length + (numB x.2.seq).length + (repB x.2.rp).length) = rowsB r := drop_more (drop_more (drop_more h'))
    obtain ⟨last', ih⟩ := getG_rows (fa := fa) r _ x.1 (acc ++ [(x.1, ⟨x.2.seq, x.2.rp⟩)]) hd hr.2 hr.1 (fun y hy => by
      rcases List.mem_append.1 hy with hy | hy
      · have := ha y hy
        have := hl x (by simp)
        omega
      · have : y = (x.1, ⟨x.2.seq, x.2.rp⟩) := by simpa using hy
        rw [this]
        exact Int.le_refl _) (fun y hy => hin y (by simp [hy])) (fun y hy => hok y (by simp [hy]))
    refine ⟨last', ?_⟩
    show (if (0 : Int) = 0 then getG bs r.length (rndG bs ⟨⟨fa, 0, p⟩, last, true, acc⟩) else _) = _
    rw [if_pos rfl, hstep]
    have hb : (true && (true && true)) = true := rfl
    rw [hb, ih]
    have hp : p + (numB x.1).length + (numB x.2.seq).length + (repB x.2.rp).length + (rowsB r).length = p + (rowsB (x :: r)).length := by
      simp only [rowsB, List.length_append]
      omega
    rw [hp, List.append_assoc]
    rfl
/-- Rows that rise, written and read. -/
theorem allG_rows {l : Tbl} (hl : l.length ≤ 16) (hr : rise l) (hin : inTbl l) (hok : ∀ x, x ∈ l → rightZ x.1 x.2.seq = true) :
    ∃ last', allG (numB (l.length : Int) ++ rowsB l) ⟨0, 0, 0⟩ = ⟨⟨0, 0, (numB (l.length : Int) ++ rowsB l).length⟩, last', true, l⟩ := by
  have hn : in64' (l.length : Int) := ⟨by omega, by omega⟩
  have h0 : (numB (l.length : Int) ++ rowsB l).drop 0 = numB (l.length : Int) ++ rowsB l := rfl
  have hc : cntRd (numB (l.length : Int) ++ rowsB l) 16 ⟨0, 0, 0⟩ = ((l.length : Int), ⟨0, 0, 0 + (numB (l.length : Int)).length⟩) := by
    unfold cntRd
    rw [numRd_num h0 hn]
    simp only [if_true]
    rw [if_neg (by rintro ⟨_, h⟩; omega)]
  unfold allG
  rw [hc]
  simp only [Int.toNat_natCast]
  obtain ⟨last', h⟩ := getG_rows (fa := 0) l (0 + (numB (l.length : Int)).length) 0 [] (drop_more h0) hr (fun x hx => by
    have := (right_iff _ _).1 (hok x hx)
    omega) (fun x hx => by cases hx) hin hok
  refine ⟨last', ?_⟩
  rw [h]
  simp only [List.nil_append, List.length_append, Nat.zero_add]
/-! ### Tables alike -/
theorem tab_rt {m : Tbl} (h : keysND m) : RT m (tabR m) := by
  have hs := sortI_perm (m.map Prod.fst)
  refine ⟨?_, ?_⟩
  · have h1 : (tabR m).Perm ((m.map Prod.fst).map fun k => (k, (getT k m).getD ⟨0, rep0⟩)) := hs.map _
    have h2 : (m.map Prod.fst).map (fun k => (k, (getT k m).getD ⟨0, rep0⟩)) = m := by
      rw [List.map_map]
      have : ∀ x, x ∈ m → ((fun k => (k, (getT k m).getD ⟨0, rep0⟩)) ∘ Prod.fst) x = x := fun x hx => by
        have hg := (getT_iff h).2 (show (x.1, x.2) ∈ m from hx)
        show (x.1, (getT x.1 m).getD ⟨0, rep0⟩) = x
        rw [hg]
        rfl
      rw [List.map_congr_left this]
      simp
    rw [h2] at h1
    exact h1.symm
  · unfold rise tabR tabK
    rw [List.pairwise_map]
    have hnd : (sortI (m.map Prod.fst)).Nodup := hs.nodup_iff.2 h
    exact (List.Pairwise.and (sortI_sorted (m.map Prod.fst)) hnd).imp fun ⟨h1, h2⟩ => by
      show _ < _
      omega
theorem tabR_perm {m l : Tbl} (hp : l.Perm m) (h : keysND m) : tabR l = tabR m := by
  unfold tabR tabK
  rw [sortI_eq (hp.map Prod.fst)]
  exact List.map_congr_left fun k _ => by rw [getT_perm hp h k]
theorem bytT_perm {m l : Tbl} (hp : l.Perm m) (h : keysND m) : bytT l = bytT m := by
  unfold bytT
  rw [tabR_perm hp h, hp.length_eq]
theorem ask_perm {m l : Tbl} (hp : l.Perm m) (h : keysND m) (k q : Int) : askZ k q l = askZ k q m := by
  unfold askZ
  rw [getT_perm hp h k, hp.length_eq]
theorem done_perm {m l : Tbl} (hp : l.Perm m) (h : keysND m) (k q : Int) (r : Rep) : (doneZ k q r l).1 = (doneZ k q r m).1 ∧ (doneZ k q r l).2.Perm (doneZ k q r m).2 := by
  have h' : keysND l := (hp.map Prod.fst).nodup_iff.2 h
  unfold doneZ
  rw [ask_perm hp h k q]
  split
  · exact ⟨rfl, (setT_perm k ⟨q, r⟩ h').trans (((hp.filter _).cons _).trans (setT_perm k ⟨q, r⟩ h).symm)⟩
  · exact ⟨rfl, hp⟩
/-- A table's bytes are read as it. -/
theorem back_tab {m : Tbl} (h : TV m) : ∃ last' l, allG (bytT m) ⟨0, 0, 0⟩ = ⟨⟨0, 0, (bytT m).length⟩, last', true, l⟩ ∧ l.Perm m := by
  have hrt := tab_rt h.nd
  have hlen := hrt.len
  obtain ⟨last', hq⟩ := allG_rows (l := tabR m) (by rw [← hlen]; exact h.len) hrt.rise (fun x hx => h.rng x (hrt.perm.mem_iff.2 hx)) (fun x hx => h.ok x (hrt.perm.mem_iff.2 hx))
  refine ⟨last', tabR m, ?_, hrt.perm.symm⟩
  have e : bytT m = numB ((tabR m).length : Int) ++ rowsB (tabR m) := by
    unfold bytT
    rw [List.nil_append, hlen]
  rw [e]
  exact hq
end Go.Lv

namespace Go.Lv
open Go.Proofs

noncomputable def rdB (bs : List Int) (s : Rd) : Ob := .box [.int .i64 s.fa, .int .i64 s.fw, .list .imm (bs.map rowB), .int .i64 (s.p : Int)]
noncomputable def st5 (m l : Tbl) (bs : List Int) (p : Nat) : List Ob := [.map (encT m), .box [.map 0], rdB bs ⟨0, 0, p⟩, .map (encT l), .box [.map 3]]
theorem t23R (bs : List Int) (hb : bs.length ≤ 140737488351232) {r : Nat} {sto : List Ob} (hr : r ≤ sto.length) : Tri Try.prog 23 r [.list .imm (bs.map rowB)] sto (fun d l => d = .gptr sto.length 0 ∧ l = sto ++ [rdB bs ⟨0, 0, 0⟩]) := by
  have := Tri.ren (r := r) (sto := sto) (fun k => k) (t23_0 bs hb) (fun i j hi => by cases hi) (fun i o hi => by simp at hi) (fun i hi => by cases hi) hr rfl (fun x hx => by
    have : x = .list .imm (bs.map rowB) := by simpa using hx
    rw [this]
    exact nrB_nr (nrBLL_B bs)) (fun o ho => by cases ho) rfl (fun d l ⟨h1, h2⟩ => by subst h1; subst h2; exact ⟨rfl, rfl⟩)
  rw [show renL (fun k => k) [.list .imm (bs.map rowB)] = [.list .imm (bs.map rowB)] by show [D.list .imm (renLL _ (bs.map rowB))] = _; rw [renLL_id _ (nrBLL_B bs)]] at this
  refine this.mono fun d l ⟨d1, l1, ⟨h1, h2⟩, h3, h4⟩ => ?_
  subst h1; subst h2
  refine ⟨?_, ?_⟩
  · rw [h3]
    show D.gptr (extR _ 0 sto.length 0) 0 = _
    simp [extR]
  · rw [h4]
    show sto ++ [.box [.int .i64 0, .int .i64 0, .list .imm (renLL _ (bs.map rowB)), .int .i64 ((0 : Nat) : Int)]] = _
    rw [renLL_id _ (nrBLL_B bs)]
    rfl
/-- Get, behind a table. -/
theorem t25R (m : Tbl) (bs : List Int) (hb : bs.length ≤ 140737488351232) {last : Int} {l : Tbl} (h : allG bs ⟨0, 0, 0⟩ = ⟨⟨0, 0, bs.length⟩, last, true, l⟩) :
    Tri Try.prog 25 0 [.gptr 2 0] (stT m ++ [rdB bs ⟨0, 0, 0⟩]) (fun d l' => d = .tup [.gptr 4 0, .bool true] ∧ l' = st5 m l bs bs.length) := by
  have h0 := t25 bs hb ⟨0, 0, 0⟩ (Nat.zero_le _)
  rw [h] at h0
  have h1 : Tri Try.prog 25 0 [.gptr 0 0] (stRd bs ⟨0, 0, 0⟩) (fun d l' => d = .tup [.gptr 2 0, .bool true] ∧ l' = stG bs ⟨0, 0, bs.length⟩ l) := h0.mono fun d l' ⟨q1, q2⟩ => ⟨by rw [q1, if_pos ⟨rfl, rfl⟩], q2⟩
  have hre : ∀ (t : Rd) (ρ : Nat → Nat), renO ρ (rdB bs t) = rdB bs t := fun t ρ => by
    show Ob.box [.int .i64 t.fa, .int .i64 t.fw, .list .imm (renLL ρ (bs.map rowB)), .int .i64 (t.p : Int)] = _
    rw [renLL_id ρ (nrBLL_B bs)]
    rfl
  have := Tri.ren (r := 0) (sto := stT m ++ [rdB bs ⟨0, 0, 0⟩]) (fun _ => 2) h1 (fun i j hi hj e => by
      have hi : i < 1 := hi
      have hj : j < 1 := hj
      omega) (fun i o hi => by
      match i, hi with
      | 0, hi =>
        have : o = rdB bs ⟨0, 0, 0⟩ := by simpa [stRd, stR, rdB] using hi.symm
        rw [this, hre]
        rfl
      | i + 1, hi => simp [stRd, stR] at hi) (fun i hi => ⟨fun h => absurd h (Nat.not_lt_zero _), fun h => absurd h (Nat.not_lt_zero _)⟩) (Nat.zero_le _) rfl (fun x hx => by
      have : x = .gptr 0 0 := by simpa using hx
      rw [this]
      exact .gptr _ _ (by show 0 < 1; omega)) (fun o ho => by
      have : o = rdB bs ⟨0, 0, 0⟩ := by simpa [stRd, stR, rdB] using ho
      rw [this]
      refine (nrO_nr (k := 0) (o := .box _) ?_ : NRo 0 _) |> fun h d hd => (h d hd).up (Nat.zero_le _)
      show (nrBLL 0 (bs.map rowB) && true) = true
      rw [nrBLL_B]
      rfl) rfl (fun d l ⟨h1, h2⟩ => by subst h1; subst h2; exact ⟨rfl, rfl⟩)
  refine this.mono fun d' l' ⟨d1, l1, ⟨h1, h2⟩, h3, h4⟩ => ?_
  subst h1; subst h2
  refine ⟨by rw [h3]; rfl, ?_⟩
  rw [h4]
  show (stT m ++ [rdB bs ⟨0, 0, 0⟩]).set 2 (renO _ (rdB bs ⟨0, 0, bs.length⟩)) ++ [.map (encT l), .box [.map 3]] = _
  rw [hre]
  rfl
end Go.Lv

namespace Go.Lv
open Go.Proofs

/-- The document's reader: its bytes, where it stands, its fault's place and number. -/
noncomputable def xrdO (bs : List Int) (s : Rd) : Ob := .box [.list .imm (bs.map rowB), .int .i64 (s.p : Int), .int .i64 s.fa, .int .i64 s.fw]
noncomputable def stX (bs : List Int) (s : Rd) : List Ob := [xrdO bs s]
noncomputable def xn (n : Int) : Int := IntKind.i64.wrap (BitVec.ofInt IntKind.i64.bits (if IntKind.i64.signed then -1 else IntKind.i64.max) ^^^ BitVec.ofInt IntKind.i64.bits n).toNat
noncomputable def hf (u : Int) : Int := IntKind.i64.wrap (u.fdiv (2 ^ min (Int.toNat 1) IntKind.u64.bits))
noncomputable def odd1 (u : Int) : Int := IntKind.u64.wrap (BitVec.ofInt IntKind.u64.bits u &&& BitVec.ofInt IntKind.u64.bits 1).toNat
theorem odd1_eq {u : Int} (h0 : 0 ≤ u) (h1 : u < 18446744073709551616) : odd1 u = u % 2 := by
  unfold odd1
  have e : ((BitVec.ofInt 64 u &&& BitVec.ofInt 64 1).toNat : Int) = u % 2 := by
    rw [BitVec.toNat_and, ofInt64 h0 h1, show (BitVec.ofInt 64 1).toNat = 1 by decide, Nat.and_one_is_mod]
    omega
  show IntKind.u64.wrap ((BitVec.ofInt 64 u &&& BitVec.ofInt 64 1).toNat : Int) = _
  rw [e, wrapU]
  omega
theorem hf_eq {u : Int} (h0 : 0 ≤ u) (h1 : u < 18446744073709551616) : hf u = u / 2 := by
  unfold hf
  rw [show (2 : Int) ^ min (Int.toNat 1) IntKind.u64.bits = 2 by decide, Int.fdiv_eq_ediv_of_nonneg _ (by omega), wrap64 (by omega) (by omega)]
theorem zag_odd {u : Int} (h0 : 0 ≤ u) (h1 : u < 18446744073709551616) (h : odd1 u = 1) : xn (hf u) = zagU u := by
  rw [odd1_eq h0 h1] at h
  have hu : u = 2 * (u / 2) + 1 := by omega
  have hz : zagU u = -(u / 2) - 1 := by
    conv => lhs; rw [hu]
    exact zag_neg (by omega) (by omega)
  rw [hz, hf_eq h0 h1]
  show IntKind.i64.wrap ((BitVec.ofInt 64 (-1) ^^^ BitVec.ofInt 64 (u / 2)).toNat : Int) = _
  rw [show BitVec.ofInt 64 (-1) = BitVec.allOnes 64 by decide, BitVec.allOnes_xor, BitVec.toNat_not, ofInt64 (by omega) (by omega), IntKind.wrap_i64]
  omega
theorem zag_even {u : Int} (h0 : 0 ≤ u) (h1 : u < 18446744073709551616) (h : ¬ odd1 u = 1) : hf u = zagU u := by
  rw [odd1_eq h0 h1] at h
  have hu : u = 2 * (u / 2) := by omega
  have hz : zagU u = u / 2 := by
    conv => lhs; rw [hu]
    exact zag_nonneg (by omega) (by omega)
  rw [hz, hf_eq h0 h1]
theorem orU_range (u c : Int) (k : Nat) : 0 ≤ orU u c k ∧ orU u c k < 18446744073709551616 := by
  unfold orU
  rw [wrapU]
  omega
noncomputable def sM (bs : List Int) (p k : Nat) (u : Int) : DS := ⟨[(0, .list .imm (bs.map rowB)), (1, .int .i64 (p : Int)), (7, .int .u64 u), (8, .int .i64 (k : Int)), (4, .int .i64 0), (5, .int .i64 0), (6, .int .i64 0)], [], [], mR 0⟩
noncomputable def tupN (x : Int × Int × Nat) : D := .tup [.int .i64 x.2.1, .int .i64 (x.2.2 : Int), .int .i64 x.1]
set_option maxHeartbeats 4000000 in
theorem t59_0 (bs : List Int) (hb : bs.length ≤ 140737488351232) (p : Nat) (hp : p ≤ bs.length) :
    Tri Try.prog 59 0 [.list .imm (bs.map rowB), .int .i64 (p : Int)] [] (fun d l => d = tupN (numL (bs.drop p) 0 0 p) ∧ l = []) := by
  refine Tri.walk2 (L := LT) (c := {la := false, n := 62, ko := [4, 5, 6], fs := [39]}) [] [0, 1, 4, 5, 6, 7, 8, 9, 10, 12, 20, 32, 42, 48, 54] hLT hmix Try.func59 rfl rfl ⟨rfl, rfl⟩ (by show 2 ≤ 62; decide) (Nat.le_refl _) ?_
  show Ok _ _ _ _ _
  refine Ok.loopN hLT hmix [] [0, 1, 4, 5, 6, 7, 8, 9, 10, 12, 20, 32, 42, 48, 54] [0, 1, 7, 8, 4, 5, 6] [] (fun n s => ∃ (k : Nat) (u : Int), n = 10 - k ∧ k ≤ 9 ∧ p + k ≤ bs.length ∧ numL (bs.drop (p + k)) k u (p + k) = numL (bs.drop p) 0 0 p ∧ s = sM bs p k u) (n := 10) ⟨0, 0, rfl, by omega, hp, rfl, rfl⟩ ?_
  rintro n s ⟨k, u, rfl, hk, hq, hnum, rfl⟩
  rw [← hnum]
  have hwq : IntKind.i64.wrap ((p : Int) + (k : Int)) = ((p + k : Nat) : Int) := by
    rw [wrap64 (by omega) (by omega)]
    omega
  refine And.intro (fun h0 => ?_) (fun h0 => absurd (of_decide_eq_false h0) (by simp only [Decidable.not_not]; show (k : Int) < 10; omega))
  refine And.intro (fun h1 => ?_) (fun h1 => ?_)
  · have h1 : IntKind.i64.wrap ((p : Int) + (k : Int)) ≥ ((bs.map rowB).length : Int) := of_decide_eq_true h1
    rw [List.length_map, hwq] at h1
    have hd : bs.drop (p + k) = [] := List.drop_eq_nil_of_le (by omega)
    rw [hd]
    exact And.intro rfl rfl
  · have h1 : ¬ IntKind.i64.wrap ((p : Int) + (k : Int)) ≥ ((bs.map rowB).length : Int) := of_decide_eq_false h1
    rw [List.length_map, hwq] at h1
    have hq1 : p + k < bs.length := by omega
    have hd : bs.drop (p + k) = bs[p + k] :: bs.drop (p + k + 1) := List.drop_eq_getElem_cons hq1
    have hrow := row_at (f := rowB) bs hq1
    rw [← hwq] at hrow
    have hwk : IntKind.i64.wrap ((k : Int) + 1) = ((k + 1 : Nat) : Int) := wrap_succ (n := 10) (by omega) (by omega)
    have hw1 : IntKind.i64.wrap (IntKind.i64.wrap ((p : Int) + (k : Int)) + 1) = ((p + k + 1 : Nat) : Int) := by
      rw [hwq]
      exact wrap_succ hq1 (by omega)
    rw [hd]
    generalize bs[p + k] = c at hrow
    refine ⟨bs.map rowB, rowB c, rfl, by rw [hwq]; omega, hrow, rfl, (by show 0 < 1; decide), ?_⟩
    have hB : IntKind.i64.wrap (7 * (k : Int)) = 7 * (k : Int) := wrap64 (by omega) (by omega)
    have hend : ¬ ((k : Int) = 9 ∧ c > 1) → ¬ c ≥ 128 → ¬ (c = 0 ∧ (k : Int) > 0) → ∀ v : Int, v = zagU (orU u c k) → D.tup [.int .i64 v, .int .i64 (IntKind.i64.wrap (IntKind.i64.wrap ((p : Int) + (k : Int)) + 1)), .int .i64 0] = tupN (numL (c :: bs.drop (p + k + 1)) k u (p + k)) := fun q1 q2 q3 v hv => by
      rw [numL_ok q1 q2 q3, hv, hw1]
      rfl
    obtain ⟨ho0, ho1⟩ := orU_range u c k
    refine And.intro (fun h2 => ?_) (fun h2 => ?_)
    · have h2 : (k : Int) = 9 := of_decide_eq_true h2
      refine And.intro (fun h3 => ?_) (fun h3 => ?_)
      · have h3 : c > 1 := of_decide_eq_true h3
        rw [numL_bad ⟨h2, h3⟩]
        exact And.intro rfl rfl
      · have h3 : ¬ c > 1 := of_decide_eq_false h3
        have hbad : ¬ ((k : Int) = 9 ∧ c > 1) := fun h => h3 h.2
        refine Exists.intro _ (And.intro (sh_ask (x := grp c) hB) ?_)
        refine And.intro (fun hc => ?_) (fun hc => ?_)
        · have hc : c ≥ 128 := of_decide_eq_true hc
          exact absurd hc (by omega)
        · have hc : ¬ c ≥ 128 := of_decide_eq_false hc
          refine And.intro (fun h0 => ?_) (fun h0 => ?_)
          · have h0 : c = 0 := of_decide_eq_true h0
            refine And.intro (fun h4 => ?_) (fun h4 => ?_)
            · have h4 : (k : Int) > 0 := of_decide_eq_true h4
              rw [numL_zero hbad hc h0 h4]
              exact And.intro rfl rfl
            · have h4 : ¬ (k : Int) > 0 := of_decide_eq_false h4
              exact absurd h4 (by omega)
          · have h0 : ¬ c = 0 := of_decide_eq_false h0
            refine And.intro (fun h5 => ?_) (fun h5 => ?_)
            · exact And.intro (hend hbad hc (fun h => h0 h.1) _ (zag_odd ho0 ho1 (of_decide_eq_true h5))) rfl
            · exact And.intro (hend hbad hc (fun h => h0 h.1) _ (zag_even ho0 ho1 (of_decide_eq_false h5))) rfl
    · have h2 : ¬ (k : Int) = 9 := of_decide_eq_false h2
      have hbad : ¬ ((k : Int) = 9 ∧ c > 1) := fun h => h2 h.1
      refine Exists.intro _ (And.intro (sh_ask (x := grp c) hB) ?_)
      refine And.intro (fun hc => ?_) (fun hc => ?_)
      · have hc : c ≥ 128 := of_decide_eq_true hc
        refine ⟨10 - (k + 1), by omega, k + 1, orU u c k, rfl, by omega, by omega, (numL_more hbad hc).symm, ?_⟩
        unfold sM
        rw [← hwk]
        rfl
      · have hc : ¬ c ≥ 128 := of_decide_eq_false hc
        refine And.intro (fun h0 => ?_) (fun h0 => ?_)
        · have h0 : c = 0 := of_decide_eq_true h0
          refine And.intro (fun h4 => ?_) (fun h4 => ?_)
          · have h4 : (k : Int) > 0 := of_decide_eq_true h4
            rw [numL_zero hbad hc h0 h4]
            exact And.intro rfl rfl
          · have h4 : ¬ (k : Int) > 0 := of_decide_eq_false h4
            refine And.intro (fun h5 => ?_) (fun h5 => ?_)
            · exact And.intro (hend hbad hc (fun h => h4 h.2) _ (zag_odd ho0 ho1 (of_decide_eq_true h5))) rfl
            · exact And.intro (hend hbad hc (fun h => h4 h.2) _ (zag_even ho0 ho1 (of_decide_eq_false h5))) rfl
        · have h0 : ¬ c = 0 := of_decide_eq_false h0
          refine And.intro (fun h5 => ?_) (fun h5 => ?_)
          · exact And.intro (hend hbad hc (fun h => h0 h.1) _ (zag_odd ho0 ho1 (of_decide_eq_true h5))) rfl
          · exact And.intro (hend hbad hc (fun h => h0 h.1) _ (zag_even ho0 ho1 (of_decide_eq_false h5))) rfl
end Go.Lv

namespace Go.Lv
open Go.Proofs

theorem nd_true {p : Prop} [Decidable p] (h : (!decide p) = true) : ¬ p := by simpa using h
theorem nd_false {p : Prop} [Decidable p] (h : (!decide p) = false) : p := by simpa using h
theorem t59 (bs : List Int) (hb : bs.length ≤ 140737488351232) (p : Nat) (hp : p ≤ bs.length) {r : Nat} {sto : List Ob} (hr : r ≤ sto.length) :
    Tri Try.prog 59 r [.list .imm (bs.map rowB), .int .i64 (p : Int)] sto (fun d l => d = tupN (numL (bs.drop p) 0 0 p) ∧ l = sto) :=
  (t59_0 bs hb p hp).pure rfl (nrBL_B rfl) rfl rfl hr
theorem t58 (bs : List Int) (s : Rd) (e : Int) : Tri Try.prog 58 0 [.gptr 0 0, .int .i64 e] (stX bs s) (fun d l => d = .tup [] ∧ l = stX bs ⟨s.p, e, s.p⟩) := by
  refine Tri.walk2 (L := LT) (c := {la := false, n := 15}) [] [0, 1] hLT hmix Try.func58 rfl rfl ⟨rfl, rfl⟩ (by show 2 ≤ 15; decide) (Nat.zero_le _) ?_
  exact And.intro rfl rfl
/-- What a count is that goes on nowhere. -/
noncomputable def cntX (bs : List Int) (most : Int) (p : Nat) : Int × Int × Nat :=
  if (numL (bs.drop p) 0 0 p).1 = 0 ∧ ((numL (bs.drop p) 0 0 p).2.1 < 0 ∨ (numL (bs.drop p) 0 0 p).2.1 > most) then (2, 0, 0) else numL (bs.drop p) 0 0 p
set_option maxHeartbeats 2000000 in
theorem t57 (bs : List Int) (hb : bs.length ≤ 140737488351232) (s : Rd) (hp : s.p ≤ bs.length) (most : Int) :
    Tri Try.prog 57 1 [.gptr 0 0, .int .i64 most] (stX bs s) (fun d l => d = tupN (cntX bs most s.p) ∧ l = stX bs s) := by
  refine Tri.walk2 (L := LT) (c := {la := false, n := 37, ko := [4, 5, 6]}) [] [0, 1, 4, 5, 6, 7, 8, 9, 33] hLT hmix Try.func57 rfl rfl ⟨rfl, rfl⟩ (by show 2 ≤ 37; decide) (Nat.le_refl _) ?_
  refine ⟨⟨65535, [0, 1, 2, 4, 0, 16, 32, 64, 136, 256, 512, 512, 512, 2047, 12287, 32767], [1, 3, 7, 15, 16, 48, 112, 240, 511, 1023, 2047, 3071, 5119, 10239, 28671, 65535]⟩, by kernel_rfl, ?_⟩
  refine And.intro ?_ trivial
  refine ⟨rfl, Nat.le_refl 1, (t59 bs hb s.p hp (r := 1) (sto := stX bs s) (Nat.le_refl 1)).mono ?_⟩
  rintro d l ⟨rfl, rfl⟩
  refine ⟨rfl, fun _ _ => rfl, rfl, ?_⟩
  unfold cntX
  generalize numL (bs.drop s.p) 0 0 s.p = x
  obtain ⟨e, n, q⟩ := x
  refine And.intro trivial ?_
  refine And.intro ?_ trivial
  refine And.intro (And.intro ⟨rfl, rfl⟩ (And.intro ⟨rfl, rfl⟩ trivial)) ?_
  refine And.intro ?_ trivial
  refine And.intro (And.intro ⟨rfl, rfl⟩ trivial) ?_
  refine And.intro ?_ trivial
  refine And.intro trivial ?_
  refine And.intro (fun h1 => ?_) (fun h1 => ?_)
  · have h1 : e = 0 := of_decide_eq_true h1
    refine And.intro (fun h2 => ?_) (fun h2 => ?_)
    · rw [if_pos ⟨h1, .inl (of_decide_eq_true h2)⟩]
      exact And.intro rfl rfl
    · have h2 : ¬ n < 0 := of_decide_eq_false h2
      refine And.intro (fun h3 => ?_) (fun h3 => ?_)
      · rw [if_pos ⟨h1, .inr (of_decide_eq_true h3)⟩]
        exact And.intro rfl rfl
      · have h3 : ¬ n > most := of_decide_eq_false h3
        rw [if_neg (fun h => h.2.elim h2 h3)]
        exact And.intro rfl rfl
  · have h1 : ¬ e = 0 := of_decide_eq_false h1
    rw [if_neg (fun h => h1 h.1)]
    exact And.intro rfl rfl
set_option maxHeartbeats 2000000 in
theorem t47 (bs : List Int) (hb : bs.length ≤ 140737488351232) (s : Rd) (hp : s.p ≤ bs.length) :
    Tri Try.prog 47 0 [.gptr 0 0] (stX bs s) (fun d l => d = .int .i64 (numRd bs s).1 ∧ l = stX bs (numRd bs s).2) := by
  refine Tri.walk2 (L := LT) (c := {la := false, n := 34, ko := [2]}) [(58, 1, [])] [0, 2, 3, 4, 5, 10, 25] hLT hmix Try.func47 rfl rfl ⟨rfl, rfl⟩ (by show 1 ≤ 34; decide) (Nat.zero_le _) ?_
  unfold numRd
  refine And.intro (fun h0 => ?_) (fun h0 => ?_)
  · rw [if_neg (nd_true h0)]
    exact And.intro rfl rfl
  · have h0 : s.fw = 0 := nd_false h0
    rw [if_pos h0]
    refine ⟨⟨65535, [0, 1, 2, 4, 0, 16, 32, 64, 136, 256, 512, 512, 512, 2047, 12287, 32767], [1, 3, 7, 15, 16, 48, 112, 240, 511, 1023, 2047, 3071, 5119, 10239, 28671, 65535]⟩, by kernel_rfl, ?_⟩
    refine And.intro ?_ trivial
    refine ⟨rfl, Nat.zero_le 1, (t59 bs hb s.p hp (r := 1) (sto := stX bs s) (Nat.le_refl 1)).mono ?_⟩
    rintro d l ⟨rfl, rfl⟩
    refine ⟨rfl, fun _ _ => rfl, rfl, ?_⟩
    have he := numL_err (bs.drop s.p) 0 0 s.p
    generalize numL (bs.drop s.p) 0 0 s.p = x at he
    obtain ⟨e, n, q⟩ := x
    refine And.intro trivial ?_
    refine And.intro ?_ trivial
    refine And.intro (And.intro ⟨rfl, rfl⟩ (And.intro ⟨rfl, rfl⟩ trivial)) ?_
    refine And.intro ?_ trivial
    refine And.intro (And.intro ⟨rfl, rfl⟩ trivial) ?_
    refine And.intro ?_ trivial
    refine And.intro trivial ?_
    refine And.intro (fun h1 => ?_) (fun h1 => ?_)
    rotate_left
    · have h1 : e = 0 := nd_false h1
      rw [if_pos h1]
      exact And.intro rfl rfl
    · have h1 : ¬ e = 0 := nd_true h1
      rw [if_neg h1]
      have : n = 0 := he h1
      refine ⟨rfl, Nat.le_refl 0, (t58 bs s e).mono ?_⟩
      rintro d l ⟨rfl, rfl⟩
      refine ⟨rfl, fun k hk => absurd hk (Nat.not_lt_zero k), rfl, ?_⟩
      exact And.intro (by rw [this]) rfl
set_option maxHeartbeats 2000000 in
theorem t46 (bs : List Int) (hb : bs.length ≤ 140737488351232) (s : Rd) (hp : s.p ≤ bs.length) (most : Int) :
    Tri Try.prog 46 0 [.gptr 0 0, .int .i64 most] (stX bs s) (fun d l => d = .int .i64 (cntRd bs most s).1 ∧ l = stX bs (cntRd bs most s).2) := by
  refine Tri.walk2 (L := LT) (c := {la := false, n := 30, ko := [4]}) [(58, 1, [])] [0, 1, 4, 5, 6, 7, 12, 21] hLT hmix Try.func46 rfl rfl ⟨rfl, rfl⟩ (by show 2 ≤ 30; decide) (Nat.zero_le _) ?_
  unfold cntRd numRd
  refine And.intro (fun h0 => ?_) (fun h0 => ?_)
  · rw [if_neg (nd_true h0)]
    exact And.intro rfl rfl
  · have h0 : s.fw = 0 := nd_false h0
    simp only [if_pos h0]
    refine ⟨rfl, Nat.zero_le 1, (t57 bs hb s hp most).mono ?_⟩
    rintro d l ⟨rfl, rfl⟩
    refine ⟨rfl, fun _ _ => rfl, rfl, ?_⟩
    unfold cntX
    have he := numL_err (bs.drop s.p) 0 0 s.p
    generalize numL (bs.drop s.p) 0 0 s.p = x at he
    obtain ⟨e, n, q⟩ := x
    by_cases h1 : e = 0
    · subst h1
      by_cases h2 : n < 0 ∨ n > most
      · simp only [h2, h0, if_true, and_self]
        refine And.intro (fun _ => ?_) (fun h => by cases h)
        refine ⟨rfl, Nat.le_refl 0, (t58 bs s 2).mono ?_⟩
        rintro d l ⟨rfl, rfl⟩
        refine ⟨rfl, fun k hk => absurd hk (Nat.not_lt_zero k), rfl, ?_⟩
        exact And.intro rfl rfl
      · simp only [h2, h0, if_true, if_false, and_false]
        refine And.intro (fun h => by cases h) (fun _ => ?_)
        exact And.intro rfl (by rw [← h0]; rfl)
    · have : n = 0 := he h1
      simp only [h1, if_false, false_and]
      refine And.intro (fun _ => ?_) (fun h => absurd (nd_false h) h1)
      refine ⟨rfl, Nat.le_refl 0, (t58 bs s e).mono ?_⟩
      rintro d l ⟨rfl, rfl⟩
      refine ⟨rfl, fun k hk => absurd hk (Nat.not_lt_zero k), rfl, ?_⟩
      exact And.intro (by rw [this]) rfl
set_option maxHeartbeats 2000000 in
theorem t48 (bs : List Int) (hb : bs.length ≤ 140737488351232) (s : Rd) (hp : s.p ≤ bs.length) :
    Tri Try.prog 48 0 [.gptr 0 0] (stX bs s) (fun d l => d = encR (repRd bs s).1 ∧ l = stX bs (repRd bs s).2) := by
  refine Tri.walk2 (L := LT) (c := {la := false, n := 23, kb := [2]}) [(47, 1, [])] [0, 2, 3, 20] hLT hmix Try.func48 rfl rfl ⟨rfl, rfl⟩ (by show 1 ≤ 23; decide) (Nat.zero_le _) ?_
  unfold repRd
  simp only
  have hp1 := numRd_pos hp
  have hp2 := numRd_pos hp1
  have hp3 := numRd_pos hp2
  have c0 := t47 bs hb s hp
  have c1 := t47 bs hb _ hp1
  have c2 := t47 bs hb _ hp2
  have c3 := t47 bs hb _ hp3
  generalize numRd bs s = x0 at *
  obtain ⟨v0, s0'⟩ := x0
  generalize numRd bs s0' = x1 at *
  obtain ⟨v1, s1'⟩ := x1
  generalize numRd bs s1' = x2 at *
  obtain ⟨v2, s2'⟩ := x2
  generalize numRd bs s2' = x3 at *
  obtain ⟨v3, s3'⟩ := x3
  refine ⟨rfl, Nat.le_refl 0, c0.mono ?_⟩
  rintro d l ⟨rfl, rfl⟩
  refine ⟨rfl, fun k hk => absurd hk (Nat.not_lt_zero k), rfl, ?_⟩
  refine ⟨rfl, Nat.le_refl 0, c1.mono ?_⟩
  rintro d l ⟨rfl, rfl⟩
  refine ⟨rfl, fun k hk => absurd hk (Nat.not_lt_zero k), rfl, ?_⟩
  refine ⟨rfl, Nat.le_refl 0, c2.mono ?_⟩
  rintro d l ⟨rfl, rfl⟩
  refine ⟨rfl, fun k hk => absurd hk (Nat.not_lt_zero k), rfl, ?_⟩
  refine ⟨rfl, Nat.le_refl 0, c3.mono ?_⟩
  rintro d l ⟨rfl, rfl⟩
  refine ⟨rfl, fun k hk => absurd hk (Nat.not_lt_zero k), rfl, ?_⟩
  refine And.intro (fun h1 => ?_) (fun h1 => ?_)
  · rw [if_neg (nd_true h1)]
    exact And.intro rfl rfl
  · rw [if_pos (nd_false h1)]
    exact And.intro rfl rfl
/-- Read, the document's. -/
theorem t24_0 (bs : List Int) (hb : bs.length ≤ 140737488351232) : Tri Try.prog 24 0 [.list .imm (bs.map rowB)] [] (fun d l => d = .gptr 0 0 ∧ l = stX bs ⟨0, 0, 0⟩) := by
  refine Tri.walk2 (L := LT) (c := {la := false, n := 8, ko := [2], gl := [7]}) [] [0, 2] hLT hmix Try.func24 rfl rfl ⟨rfl, rfl⟩ (by show 1 ≤ 8; decide) (Nat.zero_le _) ?_
  refine And.intro trivial (And.intro rfl (And.intro ?_ (And.intro (allLenB bs) ?_)))
  · show (0 + (bs.map rowB).length) * 1 ≤ 140737488355328
    simp only [List.length_map]
    omega
  exact And.intro rfl rfl
end Go.Lv
