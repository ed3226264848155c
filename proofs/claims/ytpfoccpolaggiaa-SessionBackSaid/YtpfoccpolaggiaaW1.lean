/-
  Chapter 18: tables of sessions as data; what right, Last, Ask, Done, New and Sessions do.
-/
import Derived.Test.YtpfoccpolaggiaaSS
import Derived.Test.YtpfoccpolaggiaaA44
import Derived.KernelRfl
set_option linter.all false
set_option maxRecDepth 100000
namespace Go.Lv
open Go.Proofs

theorem hmix : Try.prog.follows .mixedOrders = true := by kernel_rfl

/-! ### Tables -/
structure Rep where
  why : Int
  st : Int
  dr : Int
  tm : Int
  deriving DecidableEq
structure Ent where
  seq : Int
  rp : Rep
  deriving DecidableEq
abbrev Tbl := List (Int × Ent)
noncomputable def encR (r : Rep) : D := .agg [.int .i64 r.why, .int .i64 r.st, .int .i64 r.dr, .int .i64 r.tm]
noncomputable def encE (e : Ent) : D := .agg [.int .i64 e.seq, .int .i64 e.rp.why, .int .i64 e.rp.st, .int .i64 e.rp.dr, .int .i64 e.rp.tm]
noncomputable def encT (m : Tbl) : List (D × D) := m.map fun x => (.int .i64 x.1, encE x.2)
noncomputable def getT (k : Int) : Tbl → Option Ent
  | [] => none
  | x :: r => if k = x.1 then some x.2 else getT k r
noncomputable def setT (k : Int) (e : Ent) : Tbl → Tbl
  | [] => [(k, e)]
  | x :: r => if k = x.1 then (x.1, e) :: r else x :: setT k e r
noncomputable def seqOf (k : Int) (m : Tbl) : Int := match getT k m with
  | some e => e.seq
  | none => 0
theorem findT (k : Int) : ∀ m : Tbl, findE LT 3 (.int .i64 k) (encT m) = some ((getT k m).map encE)
  | [] => rfl
  | x :: r => by
    show (match eqD LT 3 (.int .i64 k) (.int .i64 x.1) with | some true => some (some (encE x.2)) | some false => findE LT 3 (.int .i64 k) (encT r) | none => none) = _
    have e : eqD LT 3 (.int .i64 k) (.int .i64 x.1) = some (decide (k = x.1)) := rfl
    rw [e, findT k r]
    simp only [getT]
    by_cases h : k = x.1
    · rw [if_pos h, decide_eq_true h]; rfl
    · rw [if_neg h, decide_eq_false h]
theorem setEnt (k : Int) (e : Ent) : ∀ m : Tbl, setE LT 3 (.int .i64 k) (encE e) (encT m) = some (encT (setT k e m))
  | [] => rfl
  | x :: r => by
    show (match eqD LT 3 (.int .i64 k) (.int .i64 x.1) with | some true => some ((D.int .i64 x.1, encE e) :: encT r) | some false => (match setE LT 3 (.int .i64 k) (encE e) (encT r) with | some r' => some ((.int .i64 x.1, encE x.2) :: r') | none => none) | none => none) = _
    have e' : eqD LT 3 (.int .i64 k) (.int .i64 x.1) = some (decide (k = x.1)) := rfl
    rw [e', setEnt k e r]
    simp only [setT]
    by_cases h : k = x.1
    · rw [if_pos h, decide_eq_true h]; rfl
    · rw [if_neg h, decide_eq_false h]; rfl
theorem encT_len (m : Tbl) : (encT m).length = m.length := by simp [encT]

noncomputable def stT (m : Tbl) : List Ob := [.map (encT m), .box [.map 0]]
noncomputable def rightZ (a b : Int) : Bool := decide (1 ≤ a) && (decide (a ≤ 1000000) && (decide (1 ≤ b) && decide (b ≤ 1099511627776)))
theorem t31_0 (a b : Int) : Tri Try.prog 31 0 [.int .i64 a, .int .i64 b] [] (fun d l => d = .bool (rightZ a b) ∧ l = []) := by
  refine Tri.walk2 (L := LT) (c := {n := 19, ko := [4]}) [] [0, 1, 4] hLT hmix Try.func31 rfl rfl ⟨rfl, rfl⟩ (by show 2 ≤ 19; decide) (Nat.le_refl _) ?_
  refine And.intro (fun h1 => And.intro (fun h2 => And.intro (fun h3 => And.intro (fun h4 => ?_) (fun h4 => ?_)) (fun h3 => ?_)) (fun h2 => ?_)) (fun h1 => ?_)
  all_goals
    refine And.intro ?_ rfl
    congr 1
    simp only [rightZ]
    simp only [decide_eq_true_eq, decide_eq_false_iff_not] at *
    first
      | (rw [eq_comm]; simp only [Bool.and_eq_true, decide_eq_true_eq]; omega)
      | (rw [eq_comm]; simp only [Bool.and_eq_false_iff, decide_eq_false_iff_not]; omega)
theorem t31 (a b : Int) {r : Nat} {sto : List Ob} (hr : r ≤ sto.length) : Tri Try.prog 31 r [.int .i64 a, .int .i64 b] sto (fun d l => d = .bool (rightZ a b) ∧ l = sto) :=
  (t31_0 a b).pure rfl rfl rfl rfl hr

/-- Last. -/
theorem t13 (m : Tbl) (k : Int) : Tri Try.prog 13 2 [.gptr 1 0, .int .i64 k] (stT m) (fun d l => d = .int .i64 (seqOf k m) ∧ l = stT m) := by
  refine Tri.walk2 (L := LT) (c := {n := 12, ko := [4]}) [] [0, 1, 4] hLT hmix Try.func13 rfl rfl ⟨rfl, rfl⟩ (by show 2 ≤ 12; decide) (by show 2 ≤ 2; decide) ?_
  refine And.intro rfl ?_
  have hf := findT k m
  cases hg : getT k m with
  | none =>
    rw [hg] at hf
    refine ⟨none, hf, ?_⟩
    exact ⟨by simp only [seqOf, hg], rfl⟩
  | some e =>
    rw [hg] at hf
    refine ⟨some (encE e), hf, ?_⟩
    exact ⟨by simp only [seqOf, hg], rfl⟩
end Go.Lv

namespace Go.Lv
open Go.Proofs

noncomputable def rep0 : Rep := ⟨0, 0, 0, 0⟩
noncomputable def askZ (k q : Int) (m : Tbl) : Rep × Bool :=
  if rightZ k q = false then (⟨1, 0, 0, 0⟩, false) else match getT k m with
    | some e => if e.seq = q then (e.rp, false) else if q < e.seq then (⟨24, 0, 0, 0⟩, false) else (rep0, true)
    | none => if 16 ≤ m.length then (⟨10, 0, 0, 0⟩, false) else (rep0, true)
noncomputable def askD (k q : Int) (m : Tbl) : D := .tup [encR (askZ k q m).1, .bool (askZ k q m).2]

theorem t11 (m : Tbl) (k q : Int) : Tri Try.prog 11 2 [.gptr 1 0, .int .i64 k, .int .i64 q] (stT m) (fun d l => d = askD k q m ∧ l = stT m) := by
  refine Tri.walk2 (L := LT) (c := {n := 57, ko := [7], kb := [6]}) [] [0, 1, 2, 6, 7, 8, 9, 19, 25, 35, 44] hLT hmix Try.func11 rfl rfl ⟨rfl, rfl⟩ (by show 3 ≤ 57; decide) (by show 2 ≤ 2; decide) ?_
  refine And.intro rfl ?_
  have hf := findT k m
  cases hg : getT k m with
  | none =>
    rw [hg] at hf
    refine ⟨none, hf, ?_⟩
    refine ⟨rfl, Nat.le_refl 2, (t31 k q (r := 2) (sto := stT m) (Nat.le_refl 2)).mono ?_⟩
    rintro d l ⟨rfl, rfl⟩
    refine ⟨rfl, fun _ _ => rfl, rfl, ?_⟩
    cases hr : rightZ k q with
    | false => exact And.intro (by simp only [askD, askZ, hr, if_true, encR]) rfl
    | true =>
      refine And.intro (fun h1 => ?_) (fun h1 => ?_)
      · refine And.intro ?_ rfl
        have h2 : 16 ≤ m.length := by
          have := of_decide_eq_true h1
          rw [encT_len] at this
          omega
        simp only [askD, askZ, hr, hg, encR]
        rw [if_neg (by simp), if_pos h2]
      · refine And.intro ?_ rfl
        have h2 : ¬ 16 ≤ m.length := by
          have := of_decide_eq_false h1
          rw [encT_len] at this
          omega
        simp only [askD, askZ, hr, hg, encR]
        rw [if_neg (by simp), if_neg h2]
        rfl
  | some e =>
    rw [hg] at hf
    refine ⟨some (encE e), hf, ?_⟩
    refine ⟨rfl, Nat.le_refl 2, (t31 k q (r := 2) (sto := stT m) (Nat.le_refl 2)).mono ?_⟩
    rintro d l ⟨rfl, rfl⟩
    refine ⟨rfl, fun _ _ => rfl, rfl, ?_⟩
    cases hr : rightZ k q with
    | false => exact And.intro (by simp only [askD, askZ, hr, if_true, encR]) rfl
    | true =>
      refine And.intro (fun h1 => ?_) (fun h1 => ?_)
      · refine And.intro ?_ rfl
        have h1 := of_decide_eq_true h1
        simp only [askD, askZ, hr, hg, encR]
        rw [if_neg (by simp), if_pos h1]
      · have h1 := of_decide_eq_false h1
        refine And.intro (fun h2 => ?_) (fun h2 => ?_)
        · refine And.intro ?_ rfl
          have h2 := of_decide_eq_true h2
          simp only [askD, askZ, hr, hg, encR]
          rw [if_neg (by simp), if_neg h1, if_pos h2]
        · refine And.intro ?_ rfl
          have h2 := of_decide_eq_false h2
          simp only [askD, askZ, hr, hg, encR]
          rw [if_neg (by simp), if_neg h1, if_neg h2]
          rfl
end Go.Lv

namespace Go.Lv
open Go.Proofs

noncomputable def doneZ (k q : Int) (r : Rep) (m : Tbl) : Int × Tbl := if (askZ k q m).2 = true then (0, setT k ⟨q, r⟩ m) else (1, m)
theorem t12 (m : Tbl) (k q : Int) (r : Rep) : Tri Try.prog 12 0 [.gptr 1 0, .int .i64 k, .int .i64 q, encR r] (stT m) (fun d l => d = .int .i64 (doneZ k q r m).1 ∧ l = stT (doneZ k q r m).2) := by
  refine Tri.walk2 (L := LT) (c := {n := 28, ko := [8]}) [] [0, 1, 2, 7, 8, 10, 19] hLT hmix Try.func12 rfl rfl ⟨rfl, rfl⟩ (by show 4 ≤ 28; decide) (Nat.zero_le _) ?_
  refine ⟨rfl, Nat.zero_le 2, (t11 m k q).mono ?_⟩
  rintro d l ⟨hd, rfl⟩
  obtain ⟨⟨pw, ps, pd, pt⟩, fb, hz⟩ : ∃ p b, askZ k q m = (p, b) := ⟨_, _, rfl⟩
  rw [show askD k q m = .tup [.agg [.int .i64 pw, .int .i64 ps, .int .i64 pd, .int .i64 pt], .bool fb] by simp only [askD, hz, encR]] at hd
  subst hd
  have hr : (askZ k q m).2 = fb := by rw [hz]
  refine ⟨rfl, fun _ _ => rfl, rfl, ?_⟩
  cases fb with
  | false =>
    refine And.intro ?_ ?_
    · simp only [doneZ, hr]; rfl
    · simp only [doneZ, hr]; rfl
  | true =>
    refine ⟨⟨255, [0, 1, 2, 4, 0, 0, 0, 96, 255], [1, 3, 7, 15, 16, 32, 64, 224, 511]⟩, by kernel_rfl, ?_⟩
    refine And.intro ?_ trivial
    refine And.intro ⟨Nat.zero_le 0, rfl, rfl⟩ ?_
    refine Exists.intro (encT (setT k ⟨q, r⟩ m)) ?_
    refine And.intro (setEnt k ⟨q, r⟩ m) ?_
    refine And.intro trivial ?_
    refine And.intro ?_ ?_
    · simp only [doneZ, hr]; rfl
    · simp only [doneZ, hr]; rfl
theorem t10 : Tri Try.prog 10 0 [] [] (fun d l => d = .gptr 1 0 ∧ l = stT []) := by
  refine Tri.walk2 (L := LT) (c := {n := 4, ko := [0], gl := [3]}) [] [0] hLT hmix Try.func10 rfl rfl ⟨rfl, rfl⟩ (by show 0 ≤ 4; decide) (Nat.zero_le _) ?_
  exact ⟨rfl, rfl⟩
end Go.Lv

namespace Go.Lv
open Go.Proofs

theorem encT_split {l1 l2 : List (D × D)} {y : D × D} {m : Tbl} (h : encT m = l1 ++ y :: l2) : ∃ m1 k e m2, m = m1 ++ (k, e) :: m2 ∧ l1 = encT m1 ∧ y = (.int .i64 k, encE e) ∧ l2 = encT m2 := by
  obtain ⟨a, b, h1, h2, h3⟩ := List.map_eq_append_iff.1 h
  obtain ⟨x, c, h4, h5, h6⟩ := List.map_eq_cons_iff.1 h3
  obtain ⟨k, e⟩ := x
  exact ⟨a, k, e, c, by rw [h1, h4], h2.symm, h5.symm, h6.symm⟩
theorem sortI_eq {l l' : List Int} (h : l.Perm l') : sortI l = sortI l' :=
  List.Perm.eq_of_pairwise (le := fun x y => x ≤ y) (fun x y _ _ h1 h2 => by omega) (sortI_sorted _) (sortI_sorted _) (((sortI_perm _).trans h).trans (sortI_perm _).symm)

noncomputable def sS (m : Tbl) (sz : Nat) (zs : List Int) : DS := ⟨[(0, .gptr 1 0), (3, .list (.own sz) (zs.map rowI)), (9, .lptr 9 0 0), (2, .list (.own 0) [])], [], stT m, mR 2⟩
theorem t14 (hC : TurnC Try.prog 32 sortI) (m : Tbl) (hm : m.length ≤ 1000) : Tri Try.prog 14 2 [.gptr 1 0] (stT m) (fun d l => (∃ sz, d = .list (.own sz) ((sortI (m.map Prod.fst)).map rowI) ∧ (sz = 0 ∨ sz = 1)) ∧ l = stT m) := by
  refine Tri.walk2 (L := LT) (c := {n := 21, ko := [2, 3], xf := [14, 20]}) [(32, 3, [])] [0, 3, 9, 2, 4] hLT hmix Try.func14 rfl rfl ⟨rfl, rfl⟩ (by show 1 ≤ 21; decide) (by show 2 ≤ 2; decide) ?_
  show Ok _ _ _ _ _
  refine Ok.rangeBlk (t := 9) (k := 0) (es := encT m) (t10 := 10) (t11 := 11) (t12 := 12) (n2 := 4) hLT
    (fun l s => ∃ (m1 m2 : Tbl) (sz : Nat), l = encT m2 ∧ (m1 ++ m2).Perm m ∧ ((sz = 0 ∧ m1 = []) ∨ sz = 1) ∧ s = sS m sz (m1.map Prod.fst))
    rfl rfl rfl rfl rfl rfl rfl rfl rfl rfl rfl rfl rfl rfl rfl rfl rfl rfl rfl (by decide) (by decide) rfl (by show 2 ≤ 2; decide) (by show 0 < 2; decide) rfl (by show 9 < 21; decide) hmix [(32, 3, [])] [0, 3, 9, 2, 4] [0, 3, 9, 2] [] ?_ ?_ ?_ ?_
  · refine And.intro rfl (And.intro rfl (And.intro rfl ?_))
    exact ⟨[], m, 0, rfl, by simp, .inl ⟨rfl, rfl⟩, rfl⟩
  · rintro l s ⟨m1, m2, sz, rfl, _, _, rfl⟩
    rfl
  · rintro l1 y l2 s ⟨m1, m2, sz, hl, hp, hsz, rfl⟩
    obtain ⟨n1, k, e, n2, rfl, rfl, rfl, rfl⟩ := encT_split hl.symm
    have hlen : m1.length + (n1.length + (n2.length + 1)) = m.length := by
      have := hp.length_eq
      simpa using this
    have hz : ((m1.map Prod.fst).map rowI) ++ [[.int .i64 k]] = ((m1 ++ [(k, e)]).map Prod.fst).map rowI := by simp [rowI]
    have hp' : (m1 ++ [(k, e)] ++ (n1 ++ n2)).Perm m := by
      refine List.Perm.trans ?_ hp
      simp only [List.append_assoc, List.singleton_append]
      exact List.Perm.append_left m1 List.perm_middle.symm
    have hsz' : sz = 0 ∨ sz = 1 := by rcases hsz with ⟨h, _⟩ | h <;> omega
    rcases hsz' with rfl | rfl
    · refine And.intro trivial ?_
      refine And.intro rfl (And.intro ?_ (And.intro rfl ?_))
      · show (((m1.map Prod.fst).map rowI).length + 1) * 8 ≤ 140737488355328
        simp only [List.length_map]
        omega
      refine And.intro rfl ?_
      refine ⟨m1 ++ [(k, e)], n1 ++ n2, 1, by simp [encT], hp', .inr rfl, ?_⟩
      unfold sS
      rw [← hz]
      rfl
    · refine And.intro trivial ?_
      refine And.intro rfl (And.intro ?_ (And.intro rfl ?_))
      · show (((m1.map Prod.fst).map rowI).length + 1) * 8 ≤ 140737488355328
        simp only [List.length_map]
        omega
      refine And.intro rfl ?_
      refine ⟨m1 ++ [(k, e)], n1 ++ n2, 1, by simp [encT], hp', .inr rfl, ?_⟩
      unfold sS
      rw [← hz]
      rfl
  · rintro s ⟨m1, m2, sz, hl, hp, hsz, rfl⟩
    have hm2 : m2 = [] := by
      cases m2 with
      | nil => rfl
      | cons x r => simp [encT] at hl
    subst hm2
    rw [List.append_nil] at hp
    have hs : sortI (m.map Prod.fst) = sortI (m1.map Prod.fst) := sortI_eq (hp.map Prod.fst).symm
    have hlen := hp.length_eq
    rw [hs]
    rcases hsz with ⟨rfl, rfl⟩ | rfl
    · refine OpOk.turn (zs := []) hC rfl rfl rfl rfl (fun _ => ?_) (fun h => absurd rfl h)
      exact And.intro ⟨0, rfl, .inl rfl⟩ rfl
    · refine OpOk.turn (zs := m1.map Prod.fst) hC rfl rfl rfl rfl (fun h => ?_) (fun h => ⟨⟨rfl, rfl⟩, rfl, by simp only [List.length_map]; omega, ?_⟩)
      · rw [h]
        exact And.intro ⟨1, rfl, .inr rfl⟩ rfl
      · exact And.intro ⟨1, rfl, .inr rfl⟩ rfl
end Go.Lv
