/-
  Part 3 of the texts under the proof: an abstract run of loaded code on data, and what the functions do. No condition.
-/
import Derived.Test.YtbcahhinkbgdjaaGreatTraceWellE2
import Derived.JoinedCond
set_option linter.all false
set_option maxRecDepth 100000
namespace Go.Lv
open Go Go.ChangeShapes Go.WideShapes Go.ChangeAt Go.RowKit

section
variable {P : Program} {L : Ly} {H : Type} {enc : TypeId × Value → H} {W : World}
end

end Go.Lv

namespace Go.Lv
open Go

section
variable {P : Program} {T : St} {X : Ctx} {G : Gh} {s : DS} {a : Act} {w : World} {M : Ms} {Q : Ex → DS → Prop}
end
end Go.Lv

namespace Go.Lv
open Go.Proofs

theorem hmix : Tryz.prog.follows .mixedOrders = true := by kernel_rfl
theorem row_at {α : Type} {f : α → List D} (l : List α) {i : Nat} (hi : i < l.length) : (l.map f)[((i : Nat) : Int).toNat]? = some (f l[i]) := by
  rw [Int.toNat_natCast, List.getElem?_map, List.getElem?_eq_getElem hi]
  rfl
theorem wrap_succ {i n : Nat} (hi : i < n) (hn : n ≤ 1000000000000000) : IntKind.i64.wrap ((i : Int) + 1) = ((i + 1 : Nat) : Int) := by
  rw [wrap64 (by omega) (by omega)]
  omega
theorem row_at' {α : Type} (f : α → List D) (l : List α) {n : Int} {i : Nat} (h : n = (i : Int)) (hi : i < l.length) : (l.map f)[n.toNat]? = some (f l[i]) := by
  rw [h]
  exact row_at l hi
theorem nd_true {p : Prop} [Decidable p] (h : (!decide p) = true) : ¬ p := by simpa using h
theorem nd_false {p : Prop} [Decidable p] (h : (!decide p) = false) : p := by simpa using h
theorem NR.up {k k' : Nat} (h : k ≤ k') {d : D} (hd : NR k d) : NR k' d := by
  induction hd with
  | gptr j o hj => exact .gptr _ _ (Nat.lt_of_lt_of_le hj h)
  | map j hj => exact .map _ (Nat.lt_of_lt_of_le hj h)
  | fn f ds _ ih => exact .fn _ _ ih
  | list q xs _ ih => exact .list _ _ ih
  | agg cs _ ih => exact .agg _ ih
  | tup cs _ ih => exact .tup _ ih
  | int k n => exact .int _ _
  | bool b => exact .bool _
  | str s => exact .str _
  | nil => exact .nil
  | nilmap => exact .nilmap
  | nilfn => exact .nilfn
  | dead => exact .dead
theorem Tri.one {f : Nat} {o : Ob} {R : D → List Ob → Prop} (h : Tri Tryz.prog f 0 [.gptr 0 0] [o] R) (ho : nrO 0 o = true) (hbx : ([o].drop 0).all boxOK = true)
    (hok : ∀ d l, R d l → partsOK d = true ∧ (l.drop 0).all boxOK = true) {r b : Nat} {sto : List Ob} (hr : r ≤ b) (hb : sto[b]? = some o) (hid : ∀ ρ, renO ρ o = o) :
    Tri Tryz.prog f r [.gptr b 0] sto (fun d l => ∃ d' l', R d' l' ∧ d = renD (extR (fun _ => b) 1 sto.length) d' ∧ l = backSto (fun _ => b) 1 sto l') := by
  have hlt : b < sto.length := (List.getElem?_eq_some_iff.1 hb).1
  exact Tri.ren (r := r) (sto := sto) (fun _ => b) h (fun i j hi hj e => by
      have hi : i < 1 := hi
      have hj : j < 1 := hj
      omega) (fun i o' hi => by
      match i, hi with
      | 0, hi =>
        have : o' = o := by simpa using hi.symm
        rw [this, hid]
        exact hb
      | i + 1, hi => simp at hi) (fun i hi => ⟨fun h => absurd h (Nat.not_lt_zero _), fun h => by have : b < r := h; omega⟩) (by omega) rfl (fun x hx => by
      have : x = .gptr 0 0 := by simpa using hx
      rw [this]
      exact .gptr _ _ (by show 0 < 1; omega)) (fun o' ho' => by
      have : o' = o := by simpa using ho'
      rw [this]
      have h := nrO_nr (k := 0) ho
      cases o with
      | box cs => exact fun d hd => (h d hd).up (Nat.zero_le _)
      | map es => trivial) hbx hok
end Go.Lv

namespace Go.Lv
open Go.Proofs

structure Cmd where
  k : Int
  o0 : Int
  o1 : Int
  o2 : Int
  o3 : Int
  o4 : Int
  o5 : Int
  o6 : Int
  o7 : Int
  o8 : Int
  o9 : Int
  d0 : Int
  d1 : Int
  d2 : Int
  d3 : Int
  d4 : Int
  d5 : Bool
  id : Int
  cnt : Int
  deriving DecidableEq
structure Req where
  ses : Int
  seq : Int
  c : Cmd
  deriving DecidableEq
structure Evt where
  kind : Int
  node : Int
  q : Req
  why : Int
  st : Int
  dr : Int
  tm : Int
  deriving DecidableEq
noncomputable def rowCm (c : Cmd) : List D := [.int .i64 c.k, .int .i64 c.o0, .int .i64 c.o1, .int .i64 c.o2, .int .i64 c.o3, .int .i64 c.o4, .int .i64 c.o5, .int .i64 c.o6, .int .i64 c.o7, .int .i64 c.o8, .int .i64 c.o9, .int .i64 c.d0, .int .i64 c.d1, .int .i64 c.d2, .int .i64 c.d3, .int .i64 c.d4, .bool c.d5, .int .i64 c.id, .int .i64 c.cnt]
noncomputable def rowQ (q : Req) : List D := .int .i64 q.ses :: .int .i64 q.seq :: rowCm q.c
noncomputable def rowE (e : Evt) : List D := .int .i64 e.kind :: .int .i64 e.node :: (rowQ e.q ++ [.int .i64 e.why, .int .i64 e.st, .int .i64 e.dr, .int .i64 e.tm])
noncomputable def encEs (h : List Evt) : D := .list .imm (h.map rowE)
noncomputable def zeroC : Cmd := ⟨0, 0, 0, 0, 0, 0, 0, 0, 0, 0, 0, 0, 0, 0, 0, 0, false, 0, 0⟩
noncomputable def zeroQ : Req := ⟨0, 0, zeroC⟩
noncomputable def eqCm (a b : Cmd) (t : Bool) : Bool := (decide (a.k = b.k) && (decide (a.o0 = b.o0) && (decide (a.o1 = b.o1) && (decide (a.o2 = b.o2) && (decide (a.o3 = b.o3) && (decide (a.o4 = b.o4) && (decide (a.o5 = b.o5) && (decide (a.o6 = b.o6) && (decide (a.o7 = b.o7) && (decide (a.o8 = b.o8) && (decide (a.o9 = b.o9) && (decide (a.d0 = b.d0) && (decide (a.d1 = b.d1) && (decide (a.d2 = b.d2) && (decide (a.d3 = b.d3) && (decide (a.d4 = b.d4) && (a.d5 == b.d5 && (decide (a.id = b.id) && (decide (a.cnt = b.cnt) && t)))))))))))))))))))
noncomputable def eqQ (a b : Req) : Bool := decide (a.ses = b.ses) && (decide (a.seq = b.seq) && eqCm a.c b.c true)
theorem eqCm_iff (a b : Cmd) : eqCm a b true = true ↔ a = b := by
  unfold eqCm
  simp only [Bool.and_eq_true, decide_eq_true_eq, beq_iff_eq, and_true]
  constructor
  · intro h
    cases a
    cases b
    simp only [Cmd.mk.injEq]
    exact h
  · rintro rfl
    simp
theorem eqQ_iff (a b : Req) : eqQ a b = true ↔ a = b := by
  unfold eqQ
  rw [Bool.and_eq_true, Bool.and_eq_true, eqCm_iff, decide_eq_true_eq, decide_eq_true_eq]
  constructor
  · rintro ⟨h1, h2, h3⟩
    cases a
    cases b
    simp only [Req.mk.injEq]
    exact ⟨h1, h2, h3⟩
  · rintro rfl
    exact ⟨rfl, rfl, rfl⟩
theorem nrBLL_E : ∀ l : List Evt, nrBLL 0 (l.map rowE) = true
  | [] => rfl
  | b :: r => by
    show (nrBL 0 (rowE b) && nrBLL 0 (r.map rowE)) = true
    rw [nrBLL_E r]
    rfl
theorem nrBL_E {l : List Evt} {ds : List D} (hd : nrBL 0 ds = true) : nrBL 0 (encEs l :: ds) = true := by
  show (nrBLL 0 (l.map rowE) && nrBL 0 ds) = true
  rw [nrBLL_E, hd]
  rfl
noncomputable def formE (e : Evt) : Prop := 1 ≤ e.kind ∧ e.kind ≤ 3 ∧ 1 ≤ e.q.ses ∧ e.q.ses ≤ 1000000 ∧ 1 ≤ e.q.seq ∧ e.q.seq ≤ 1099511627776
noncomputable instance (e : Evt) : Decidable (formE e) := by unfold formE; infer_instance
set_option maxHeartbeats 4000000 in
theorem c_trace_formed_0 (e : Evt) : Tri Tryz.prog 40 0 [.agg (rowE e)] [] (fun d k => d = .bool (decide (formE e)) ∧ k = []) := by
  refine Tri.walk2 (L := LT) (c := {n := 35, ko := [2]}) [] [0, 1, 2] hLT hmix Tryz.func40 rfl rfl ⟨rfl, rfl⟩ (by show 1 ≤ 35; decide) (by first | exact Nat.zero_le _ | exact Nat.le_refl _ | exact Nat.le_succ 1 | decide) ?_
  refine And.intro (fun h1 => ?_) (fun h1 => ?_)
  rotate_left
  · have h1 : ¬ e.kind ≥ 1 := of_decide_eq_false h1
    repeat (first | refine And.intro (fun _ => ?_) (fun h => Bool.noConfusion h) | refine And.intro (fun h => Bool.noConfusion h) (fun _ => ?_))
    rw [decide_eq_false (show ¬ formE e from fun h => h1 h.1)]
    exact And.intro rfl rfl
  have h1 : e.kind ≥ 1 := of_decide_eq_true h1
  refine And.intro (fun h2 => ?_) (fun h2 => ?_)
  rotate_left
  · have h2 : ¬ e.kind ≤ 3 := of_decide_eq_false h2
    repeat (first | refine And.intro (fun _ => ?_) (fun h => Bool.noConfusion h) | refine And.intro (fun h => Bool.noConfusion h) (fun _ => ?_))
    rw [decide_eq_false (show ¬ formE e from fun h => h2 h.2.1)]
    exact And.intro rfl rfl
  have h2 : e.kind ≤ 3 := of_decide_eq_true h2
  repeat (first | refine And.intro (fun _ => ?_) (fun h => Bool.noConfusion h) | refine And.intro (fun h => Bool.noConfusion h) (fun _ => ?_))
  refine And.intro (fun h3 => ?_) (fun h3 => ?_)
  rotate_left
  · have h3 : ¬ e.q.ses ≥ 1 := of_decide_eq_false h3
    repeat (first | refine And.intro (fun _ => ?_) (fun h => Bool.noConfusion h) | refine And.intro (fun h => Bool.noConfusion h) (fun _ => ?_))
    rw [decide_eq_false (show ¬ formE e from fun h => h3 h.2.2.1)]
    exact And.intro rfl rfl
  have h3 : e.q.ses ≥ 1 := of_decide_eq_true h3
  repeat (first | refine And.intro (fun _ => ?_) (fun h => Bool.noConfusion h) | refine And.intro (fun h => Bool.noConfusion h) (fun _ => ?_))
  refine And.intro (fun h4 => ?_) (fun h4 => ?_)
  rotate_left
  · have h4 : ¬ e.q.ses ≤ 1000000 := of_decide_eq_false h4
    repeat (first | refine And.intro (fun _ => ?_) (fun h => Bool.noConfusion h) | refine And.intro (fun h => Bool.noConfusion h) (fun _ => ?_))
    rw [decide_eq_false (show ¬ formE e from fun h => h4 h.2.2.2.1)]
    exact And.intro rfl rfl
  have h4 : e.q.ses ≤ 1000000 := of_decide_eq_true h4
  repeat (first | refine And.intro (fun _ => ?_) (fun h => Bool.noConfusion h) | refine And.intro (fun h => Bool.noConfusion h) (fun _ => ?_))
  refine And.intro (fun h5 => ?_) (fun h5 => ?_)
  rotate_left
  · have h5 : ¬ e.q.seq ≥ 1 := of_decide_eq_false h5
    repeat (first | refine And.intro (fun _ => ?_) (fun h => Bool.noConfusion h) | refine And.intro (fun h => Bool.noConfusion h) (fun _ => ?_))
    rw [decide_eq_false (show ¬ formE e from fun h => h5 h.2.2.2.2.1)]
    exact And.intro rfl rfl
  have h5 : e.q.seq ≥ 1 := of_decide_eq_true h5
  repeat (first | refine And.intro (fun _ => ?_) (fun h => Bool.noConfusion h) | refine And.intro (fun h => Bool.noConfusion h) (fun _ => ?_))
  refine And.intro (fun h6 => ?_) (fun h6 => ?_)
  · have h6 : e.q.seq ≤ 1099511627776 := of_decide_eq_true h6
    rw [decide_eq_true (show formE e from ⟨h1, h2, h3, h4, h5, h6⟩)]
    exact And.intro rfl rfl
  · have h6 : ¬ e.q.seq ≤ 1099511627776 := of_decide_eq_false h6
    rw [decide_eq_false (show ¬ formE e from fun h => h6 h.2.2.2.2.2)]
    exact And.intro rfl rfl
theorem c_trace_formed (e : Evt) {r : Nat} {sto : List Ob} (hr : r ≤ sto.length) : Tri Tryz.prog 40 r [.agg (rowE e)] sto (fun d k => d = .bool (decide (formE e)) ∧ k = sto) :=
  (c_trace_formed_0 e).pure rfl rfl rfl rfl hr
noncomputable def rowCl (c : Req × Bool) : List D := rowQ c.1 ++ [.bool c.2]
noncomputable def nextE (c : Req × Bool) (e : Evt) : Int :=
  if ¬ formE e then 4 else if e.kind = 1 ∧ c.2 = true then 9 else if e.kind = 1 ∧ e.q.seq ≤ c.1.seq then 24 else if e.kind ≠ 1 ∧ (c.2 = false ∨ c.1 ≠ e.q) then 8 else 0
set_option maxHeartbeats 4000000 in
theorem c_trace_next_0 (c : Req × Bool) (e : Evt) : Tri Tryz.prog 25 0 [.agg (rowCl c), .agg (rowE e)] [] (fun d k => d = .int .i64 (nextE c e) ∧ k = []) := by
  refine Tri.walk2 (L := LT) (c := {n := 46, ko := [4]}) [] [0, 1, 2, 3, 4, 5, 9, 17, 30] hLT hmix Tryz.func25 rfl rfl ⟨rfl, rfl⟩ (by show 2 ≤ 46; decide) (by first | exact Nat.zero_le _ | exact Nat.le_refl _ | exact Nat.le_succ 1 | decide) ?_
  obtain ⟨q, w⟩ := c
  unfold nextE
  refine ⟨rfl, (by first | exact Nat.zero_le _ | exact Nat.le_refl _ | exact Nat.le_succ 1 | decide), (c_trace_formed e (r := 0) (sto := []) (Nat.le_refl 0)).mono ?_⟩
  rintro d l ⟨rfl, rfl⟩
  refine ⟨rfl, fun _ _ => rfl, rfl, ?_⟩
  cases hf : decide (formE e) with
  | false =>
    have hf := of_decide_eq_false hf
    repeat (first | refine And.intro (fun _ => ?_) (fun h => Bool.noConfusion h) | refine And.intro (fun h => Bool.noConfusion h) (fun _ => ?_))
    rw [if_pos hf]
    exact And.intro rfl rfl
  | true =>
  have hf := of_decide_eq_true hf
  rw [if_neg (fun h => h hf)]
  repeat (first | refine And.intro (fun _ => ?_) (fun h => Bool.noConfusion h) | refine And.intro (fun h => Bool.noConfusion h) (fun _ => ?_))
  refine And.intro (fun h1 => ?_) (fun h1 => ?_)
  · have h1 : e.kind = 1 := of_decide_eq_true h1
    cases w with
    | true =>
      repeat (first | refine And.intro (fun _ => ?_) (fun h => Bool.noConfusion h) | refine And.intro (fun h => Bool.noConfusion h) (fun _ => ?_))
      rw [if_pos ⟨h1, rfl⟩]
      exact And.intro rfl rfl
    | false =>
    repeat (first | refine And.intro (fun _ => ?_) (fun h => Bool.noConfusion h) | refine And.intro (fun h => Bool.noConfusion h) (fun _ => ?_))
    rw [if_neg (fun h => by cases h.2)]
    refine And.intro (fun h2 => ?_) (fun h2 => ?_)
    rotate_left
    · exact absurd h1 (of_decide_eq_false h2)
    refine And.intro (fun h3 => ?_) (fun h3 => ?_)
    · have h3 : e.q.seq ≤ q.seq := of_decide_eq_true h3
      repeat (first | refine And.intro (fun _ => ?_) (fun h => Bool.noConfusion h) | refine And.intro (fun h => Bool.noConfusion h) (fun _ => ?_))
      rw [if_pos ⟨h1, h3⟩]
      exact And.intro rfl rfl
    have h3 : ¬ e.q.seq ≤ q.seq := of_decide_eq_false h3
    repeat (first | refine And.intro (fun _ => ?_) (fun h => Bool.noConfusion h) | refine And.intro (fun h => Bool.noConfusion h) (fun _ => ?_))
    rw [if_neg (fun h => h3 h.2)]
    refine And.intro (fun h4 => ?_) (fun h4 => ?_)
    · exact absurd h1 (nd_true h4)
    repeat (first | refine And.intro (fun _ => ?_) (fun h => Bool.noConfusion h) | refine And.intro (fun h => Bool.noConfusion h) (fun _ => ?_))
    rw [if_neg (fun h => h.1 h1)]
    exact And.intro rfl rfl
  have h1 : ¬ e.kind = 1 := of_decide_eq_false h1
  repeat (first | refine And.intro (fun _ => ?_) (fun h => Bool.noConfusion h) | refine And.intro (fun h => Bool.noConfusion h) (fun _ => ?_))
  rw [if_neg (fun h => h1 h.1), if_neg (fun h => h1 h.1)]
  refine And.intro (fun h2 => ?_) (fun h2 => ?_)
  · exact absurd (of_decide_eq_true h2) h1
  repeat (first | refine And.intro (fun _ => ?_) (fun h => Bool.noConfusion h) | refine And.intro (fun h => Bool.noConfusion h) (fun _ => ?_))
  refine And.intro (fun h4 => ?_) (fun h4 => ?_)
  rotate_left
  · exact absurd (nd_false h4) h1
  cases w with
  | false =>
    repeat (first | refine And.intro (fun _ => ?_) (fun h => Bool.noConfusion h) | refine And.intro (fun h => Bool.noConfusion h) (fun _ => ?_))
    rw [if_pos ⟨h1, .inl rfl⟩]
    exact And.intro rfl rfl
  | true =>
  repeat (first | refine And.intro (fun _ => ?_) (fun h => Bool.noConfusion h) | refine And.intro (fun h => Bool.noConfusion h) (fun _ => ?_))
  refine And.intro (fun h5 => ?_) (fun h5 => ?_)
  · have h5 : (!eqQ q e.q) = true := h5
    repeat (first | refine And.intro (fun _ => ?_) (fun h => Bool.noConfusion h) | refine And.intro (fun h => Bool.noConfusion h) (fun _ => ?_))
    rw [if_pos ⟨h1, .inr (fun q' => by rw [(eqQ_iff _ _).2 q'] at h5; cases h5)⟩]
    exact And.intro rfl rfl
  · have h5 : (!eqQ q e.q) = false := h5
    repeat (first | refine And.intro (fun _ => ?_) (fun h => Bool.noConfusion h) | refine And.intro (fun h => Bool.noConfusion h) (fun _ => ?_))
    have h6 : q = e.q := (eqQ_iff _ _).1 (by simpa using h5)
    rw [if_neg (by rintro ⟨_, h | h⟩; cases h; exact h h6)]
    exact And.intro rfl rfl
end Go.Lv

namespace Go.Lv
open Go.Proofs

abbrev Cli := List (Int × (Req × Bool))
noncomputable def encCl (g : Cli) : List (D × D) := g.map fun x => (.int .i64 x.1, .agg (rowCl x.2))
noncomputable def getL (k : Int) : Cli → Option (Req × Bool)
  | [] => none
  | x :: r => if k = x.1 then some x.2 else getL k r
noncomputable def setL (k : Int) (v : Req × Bool) : Cli → Cli
  | [] => [(k, v)]
  | x :: r => if k = x.1 then (x.1, v) :: r else x :: setL k v r
theorem findL (k : Int) : ∀ g : Cli, findE LT 3 (.int .i64 k) (encCl g) = some ((getL k g).map fun c => D.agg (rowCl c))
  | [] => rfl
  | x :: r => by
    have ih := findL k r
    have e : eqD LT 3 (.int .i64 k) (.int .i64 x.1) = some (decide (k = x.1)) := rfl
    show (match eqD LT 3 (.int .i64 k) (.int .i64 x.1) with | some true => some (some (D.agg (rowCl x.2))) | some false => findE LT 3 (.int .i64 k) (encCl r) | none => none) = _
    rw [e]
    unfold getL
    by_cases h : k = x.1
    · rw [decide_eq_true h, if_pos h]; rfl
    · rw [decide_eq_false h, if_neg h]; exact ih
theorem putL (k : Int) (v : Req × Bool) : ∀ g : Cli, setE LT 3 (.int .i64 k) (.agg (rowCl v)) (encCl g) = some (encCl (setL k v g))
  | [] => rfl
  | x :: r => by
    have ih := putL k v r
    have e : eqD LT 3 (.int .i64 k) (.int .i64 x.1) = some (decide (k = x.1)) := rfl
    show (match eqD LT 3 (.int .i64 k) (.int .i64 x.1) with | some true => some ((D.int .i64 x.1, D.agg (rowCl v)) :: encCl r) | some false => (match setE LT 3 (.int .i64 k) (.agg (rowCl v)) (encCl r) with | some r' => some ((D.int .i64 x.1, D.agg (rowCl x.2)) :: r') | none => none) | none => none) = _
    rw [e]
    unfold setL
    by_cases h : k = x.1
    · rw [decide_eq_true h, if_pos h]; rfl
    · rw [decide_eq_false h, if_neg h, ih]; rfl
theorem getL_set (k : Int) (v : Req × Bool) : ∀ g : Cli, getL k (setL k v g) = some v
  | [] => by simp [setL, getL]
  | x :: r => by
    unfold setL
    split
    · rename_i h; simp [getL, h]
    · rename_i h; simp [getL, h, getL_set k v r]
theorem getL_ne {k j : Int} (v : Req × Bool) (h : j ≠ k) : ∀ g : Cli, getL j (setL k v g) = getL j g
  | [] => by simp [setL, getL, h]
  | x :: r => by
    unfold setL
    split
    · rename_i e; subst e; simp [getL, h]
    · rename_i e; simp [getL, getL_ne v h r]
noncomputable def cliO (g : Cli) (s : Int) : Req × Bool := (getL s g).getD (zeroQ, false)
noncomputable def stepL (g : Cli) (e : Evt) : Cli := if e.kind = 1 then setL e.q.ses (e.q, true) g else if e.kind = 2 then setL e.q.ses ((cliO g e.q.ses).1, false) g else g
noncomputable def goL : Nat → Cli → List Evt → Int × Int
  | _, _, [] => (0, 0)
  | i, g, e :: r => if nextE (cliO g e.q.ses) e ≠ 0 then ((i : Int), nextE (cliO g e.q.ses) e) else goL (i + 1) (stepL g e) r
noncomputable def wellE (h : List Evt) : Int × Int := goL 0 [] h
theorem goL_at {g : Cli} {h : List Evt} {i : Nat} (hi : i < h.length) : goL i g (h.drop i) = if nextE (cliO g h[i].q.ses) h[i] ≠ 0 then ((i : Int), nextE (cliO g h[i].q.ses) h[i]) else goL (i + 1) (stepL g h[i]) (h.drop (i + 1)) := by
  rw [List.drop_eq_getElem_cons hi]
  rfl
noncomputable def fltE (x : Int × Int) : D := .agg [.int .i64 x.1, .int .i64 x.2]
theorem c_trace_next (c : Req × Bool) (e : Evt) {r : Nat} {sto : List Ob} (hr : r ≤ sto.length) : Tri Tryz.prog 25 r [.agg (rowCl c), .agg (rowE e)] sto (fun d k => d = .int .i64 (nextE c e) ∧ k = sto) :=
  (c_trace_next_0 c e).pure rfl rfl rfl rfl hr
noncomputable def sWl (h : List Evt) (g : Cli) (i : Nat) : DS := ⟨[(2, .lptr 2 0 0), (3, .map 0), (9, encEs h), (10, .int .i64 (h.length : Int)), (11, .int .i64 (i : Int))], [(2, [.int .i64 0, .int .i64 0])], [.map (encCl g)], mR 0⟩
set_option maxHeartbeats 8000000 in
theorem c_trace_Well_1 (h : List Evt) (hl : h.length ≤ 1000000) : Tri Tryz.prog 12 0 [encEs h] [] (fun d k => d = fltE (wellE h) ∧ ∃ es, k = [.map es]) := by
  refine Tri.walk2 (L := LT) (c := {n := 51, kb := [2]}) [] [0, 2, 3, 4, 5, 6, 7, 9, 10, 11, 12, 25, 30, 31, 40] hLT hmix Tryz.func12 rfl rfl ⟨rfl, rfl⟩ (by show 1 ≤ 51; decide) (by first | exact Nat.zero_le _ | exact Nat.le_refl _ | exact Nat.le_succ 1 | decide) ?_
  show Ok _ _ _ _ _
  refine Ok.loopN hLT hmix [] [0, 2, 3, 4, 5, 6, 7, 9, 10, 11, 12, 25, 30, 31, 40] [2,3,9,10,11] [2] (fun n s => ∃ (i : Nat) (g : Cli), n = h.length - i ∧ i ≤ h.length ∧ goL i g (h.drop i) = wellE h ∧ s = sWl h g i) (n := h.length) ⟨0, [], rfl, Nat.zero_le _, rfl, by unfold sWl; rw [← List.length_map (f := rowE)]; rfl⟩ ?_
  rintro n s ⟨i, g, rfl, hi, hgo, rfl⟩
  refine And.intro (fun h1 => ?_) (fun h1 => ?_)
  rotate_left
  · have h1 : ¬ ((i : Nat) : Int) < (h.length : Int) := of_decide_eq_false h1
    rw [List.drop_eq_nil_of_le (by omega)] at hgo
    rw [← hgo]
    exact And.intro rfl ⟨_, rfl⟩
  have h1 : ((i : Nat) : Int) < (h.length : Int) := of_decide_eq_true h1
  have hil : i < h.length := by omega
  have hw := wrap_succ (i := i) (n := h.length) hil (by omega)
  rw [goL_at hil] at hgo
  refine ⟨(h).map rowE, rowE ((h)[i]'(by omega)), rfl, by omega, row_at' rowE (h) (by omega) (by omega), rfl, of_decide_eq_true rfl, ?_⟩
  generalize h[i] = e at hgo ⊢
  have hnx := c_trace_next (cliO g e.q.ses) e (r := 1) (sto := [.map (encCl g)]) (Nat.le_refl 1)
  have hfl := findL e.q.ses g
  cases hg : getL e.q.ses g with
  | none =>
    have hcl : cliO g e.q.ses = (zeroQ, false) := by unfold cliO; rw [hg]; rfl
    rw [hg] at hfl
    rw [hcl] at hnx hgo
    generalize nextE (zeroQ, false) e = w at hnx hgo
    refine And.intro rfl ⟨_, hfl, ?_⟩
    refine ⟨rfl, (by first | exact Nat.zero_le _ | exact Nat.le_refl _ | exact Nat.le_succ 1 | decide), (hnx).mono ?_⟩
    rintro d l ⟨rfl, rfl⟩
    refine ⟨rfl, fun _ _ => rfl, rfl, ?_⟩
    refine And.intro (fun h2 => ?_) (fun h2 => ?_)
    · have h2 := nd_true h2
      rw [if_pos h2] at hgo
      rw [← hgo]
      exact And.intro rfl ⟨_, rfl⟩
    have h2 := nd_false h2
    rw [if_neg (fun h => h h2)] at hgo
    refine And.intro (fun h3 => ?_) (fun h3 => ?_)
    · have h3 : e.kind = 1 := of_decide_eq_true h3
      refine And.intro ⟨Nat.le_refl _, rfl, rfl⟩ (Exists.intro (encCl (setL e.q.ses (e.q, true) g)) (And.intro (putL e.q.ses (e.q, true) g) ?_))
      have hs : stepL g e = setL e.q.ses (e.q, true) g := by unfold stepL; rw [if_pos h3]
      rw [hs] at hgo
      refine ⟨h.length - (i + 1), by omega, i + 1, setL e.q.ses (e.q, true) g, rfl, by omega, hgo, ?_⟩
      unfold sWl
      rw [← hw]
      rfl
    have h3 : ¬ e.kind = 1 := of_decide_eq_false h3
    refine And.intro (fun h4 => ?_) (fun h4 => ?_)
    · have h4 : e.kind = 2 := of_decide_eq_true h4
      refine And.intro ⟨Nat.le_refl _, rfl, rfl⟩ (Exists.intro (encCl (setL e.q.ses (zeroQ, false) g)) (And.intro (putL e.q.ses (zeroQ, false) g) ?_))
      have hs : stepL g e = setL e.q.ses (zeroQ, false) g := by unfold stepL; rw [if_neg h3, if_pos h4, hcl]
      rw [hs] at hgo
      refine ⟨h.length - (i + 1), by omega, i + 1, setL e.q.ses (zeroQ, false) g, rfl, by omega, hgo, ?_⟩
      unfold sWl
      rw [← hw]
      rfl
    have h4 : ¬ e.kind = 2 := of_decide_eq_false h4
    have hs : stepL g e = g := by unfold stepL; rw [if_neg h3, if_neg h4]
    rw [hs] at hgo
    refine ⟨h.length - (i + 1), by omega, i + 1, g, rfl, by omega, hgo, ?_⟩
    unfold sWl
    rw [← hw]
    rfl
  | some c =>
    have hcl : cliO g e.q.ses = c := by unfold cliO; rw [hg]; rfl
    rw [hg] at hfl
    rw [hcl] at hnx hgo
    generalize nextE c e = w at hnx hgo
    obtain ⟨cq, cw⟩ := c
    refine And.intro rfl ⟨_, hfl, ?_⟩
    refine ⟨rfl, (by first | exact Nat.zero_le _ | exact Nat.le_refl _ | exact Nat.le_succ 1 | decide), (hnx).mono ?_⟩
    rintro d l ⟨rfl, rfl⟩
    refine ⟨rfl, fun _ _ => rfl, rfl, ?_⟩
    refine And.intro (fun h2 => ?_) (fun h2 => ?_)
    · have h2 := nd_true h2
      rw [if_pos h2] at hgo
      rw [← hgo]
      exact And.intro rfl ⟨_, rfl⟩
    have h2 := nd_false h2
    rw [if_neg (fun h => h h2)] at hgo
    refine And.intro (fun h3 => ?_) (fun h3 => ?_)
    · have h3 : e.kind = 1 := of_decide_eq_true h3
      refine And.intro ⟨Nat.le_refl _, rfl, rfl⟩ (Exists.intro (encCl (setL e.q.ses (e.q, true) g)) (And.intro (putL e.q.ses (e.q, true) g) ?_))
      have hs : stepL g e = setL e.q.ses (e.q, true) g := by unfold stepL; rw [if_pos h3]
      rw [hs] at hgo
      refine ⟨h.length - (i + 1), by omega, i + 1, setL e.q.ses (e.q, true) g, rfl, by omega, hgo, ?_⟩
      unfold sWl
      rw [← hw]
      rfl
    have h3 : ¬ e.kind = 1 := of_decide_eq_false h3
    refine And.intro (fun h4 => ?_) (fun h4 => ?_)
    · have h4 : e.kind = 2 := of_decide_eq_true h4
      refine And.intro ⟨Nat.le_refl _, rfl, rfl⟩ (Exists.intro (encCl (setL e.q.ses (cq, false) g)) (And.intro (putL e.q.ses (cq, false) g) ?_))
      have hs : stepL g e = setL e.q.ses (cq, false) g := by unfold stepL; rw [if_neg h3, if_pos h4, hcl]
      rw [hs] at hgo
      refine ⟨h.length - (i + 1), by omega, i + 1, setL e.q.ses (cq, false) g, rfl, by omega, hgo, ?_⟩
      unfold sWl
      rw [← hw]
      rfl
    have h4 : ¬ e.kind = 2 := of_decide_eq_false h4
    have hs : stepL g e = g := by unfold stepL; rw [if_neg h3, if_neg h4]
    rw [hs] at hgo
    refine ⟨h.length - (i + 1), by omega, i + 1, g, rfl, by omega, hgo, ?_⟩
    unfold sWl
    rw [← hw]
    rfl
theorem c_trace_Well_0 (h : List Evt) (hl : h.length ≤ 1000000) : Tri Tryz.prog 12 0 [encEs h] [] (fun d k => d = fltE (wellE h) ∧ k = []) :=
  Tri.forget (c_trace_Well_1 h hl) (fun d l hh _ => ⟨0, Nat.zero_le _, Nat.zero_le _, by rw [hh.1]; exact nrB_nr (by rfl), fun o ho => absurd ho (by simp), hh.1, rfl⟩)
end Go.Lv

namespace Go.Lv
open Go.Proofs

noncomputable def openG (s : Int) : Int → Nat → List Evt → Int
  | k, _, [] => k
  | k, i, e :: r => openG s (if e.q.ses = s then (if e.kind = 2 then -1 else if e.kind = 1 then (i : Int) else k) else k) (i + 1) r
noncomputable def openI (h : List Evt) (n : Nat) (s : Int) : Int := openG s (-1) 0 (h.take n)
theorem openG_at {s k : Int} {h : List Evt} {i : Nat} (hi : i < h.length) : openG s k i (h.drop i) = openG s (if h[i].q.ses = s then (if h[i].kind = 2 then -1 else if h[i].kind = 1 then (i : Int) else k) else k) (i + 1) (h.drop (i + 1)) := by
  rw [List.drop_eq_getElem_cons hi]
  rfl
noncomputable def sOp (h : List Evt) (n : Nat) (s k : Int) (i : Nat) : DS := ⟨[(0, encEs h), (1, .int .i64 (n : Int)), (2, .int .i64 s), (6, .int .i64 0), (7, .int .i64 k), (8, .int .i64 (i : Int))], [], [], mR 0⟩
set_option maxHeartbeats 8000000 in
theorem c_drayref29_open_0 (h : List Evt) (hl : h.length ≤ 1000000) (n : Nat) (hn : n ≤ h.length) (s : Int) : Tri Tryz.prog 41 0 [encEs h, .int .i64 (n : Int), .int .i64 s] [] (fun d k => d = .int .i64 (openI h n s) ∧ k = []) := by
  refine Tri.walk2 (L := LT) (c := {n := 36, ko := [6]}) [] [0, 1, 2, 6, 7, 8, 11, 21, 27, 34] hLT hmix Tryz.func41 rfl rfl ⟨rfl, rfl⟩ (by show 3 ≤ 36; decide) (by first | exact Nat.zero_le _ | exact Nat.le_refl _ | exact Nat.le_succ 1 | decide) ?_
  show Ok _ _ _ _ _
  refine Ok.loopN hLT hmix [] [0, 1, 2, 6, 7, 8, 11, 21, 27, 34] [0,1,2,6,7,8] [] (fun f t => ∃ (i : Nat) (k : Int), f = n - i ∧ i ≤ n ∧ openG s k i ((h.take n).drop i) = openI h n s ∧ t = sOp h n s k i) (n := n) ⟨0, -1, rfl, Nat.zero_le _, rfl, rfl⟩ ?_
  rintro f t ⟨i, k, rfl, hi, hgo, rfl⟩
  refine And.intro (fun h1 => ?_) (fun h1 => ?_)
  rotate_left
  · have h1 : ¬ ((i : Nat) : Int) < (n : Int) := of_decide_eq_false h1
    rw [List.drop_eq_nil_of_le (by rw [List.length_take]; omega)] at hgo
    rw [← hgo]
    exact And.intro rfl rfl
  have h1 : ((i : Nat) : Int) < (n : Int) := of_decide_eq_true h1
  have hil : i < h.length := by omega
  have hw := wrap_succ (i := i) (n := n) (by omega) (by omega)
  rw [openG_at (by rw [List.length_take]; omega), List.getElem_take] at hgo
  have hrow : (h.map rowE)[((i : Nat) : Int).toNat]? = some (rowE h[i]) := row_at' rowE h rfl hil
  have hlen : ((i : Nat) : Int) < ((h.map rowE).length : Int) := by rw [List.length_map]; omega
  generalize h[i] = e at hgo hrow
  have fin : ∀ k2 : Int, (if e.q.ses = s then (if e.kind = 2 then -1 else if e.kind = 1 then (i : Int) else k) else k) = k2 → ∃ m, m < n - i ∧ ∃ (i' : Nat) (k' : Int), m = n - i' ∧ i' ≤ n ∧ openG s k' i' ((h.take n).drop i') = openI h n s ∧ sOp h n s k2 (i + 1) = sOp h n s k' i' := fun k2 e2 => ⟨n - (i + 1), by omega, i + 1, k2, rfl, by omega, by rw [← e2]; exact hgo, rfl⟩
  refine ⟨_, _, rfl, by omega, hrow, rfl, of_decide_eq_true rfl, ?_⟩
  refine And.intro (fun h2 => ?_) (fun h2 => ?_)
  · have h2 := nd_true h2
    obtain ⟨m, hm, hex⟩ := fin k (by rw [if_neg h2])
    refine ⟨m, hm, ?_⟩
    unfold sOp at hex
    rw [← hw] at hex
    exact hex
  have h2 := nd_false h2
  refine ⟨_, _, rfl, by omega, hrow, rfl, of_decide_eq_true rfl, ?_⟩
  refine And.intro (fun h3 => ?_) (fun h3 => ?_)
  · have h3 : e.kind = 1 := of_decide_eq_true h3
    refine ⟨_, _, rfl, by omega, hrow, rfl, of_decide_eq_true rfl, ?_⟩
    refine And.intro (fun h4 => ?_) (fun h4 => ?_)
    · have h4 : e.kind = 2 := of_decide_eq_true h4
      omega
    have h4 : ¬ e.kind = 2 := of_decide_eq_false h4
    obtain ⟨m, hm, hex⟩ := fin (i : Int) (by rw [if_pos h2, if_neg h4, if_pos h3])
    refine ⟨m, hm, ?_⟩
    unfold sOp at hex
    rw [← hw] at hex
    exact hex
  have h3 : ¬ e.kind = 1 := of_decide_eq_false h3
  refine ⟨_, _, rfl, by omega, hrow, rfl, of_decide_eq_true rfl, ?_⟩
  refine And.intro (fun h4 => ?_) (fun h4 => ?_)
  · have h4 : e.kind = 2 := of_decide_eq_true h4
    obtain ⟨m, hm, hex⟩ := fin (-1) (by rw [if_pos h2, if_pos h4])
    refine ⟨m, hm, ?_⟩
    unfold sOp at hex
    rw [← hw] at hex
    exact hex
  have h4 : ¬ e.kind = 2 := of_decide_eq_false h4
  obtain ⟨m, hm, hex⟩ := fin k (by rw [if_pos h2, if_neg h4, if_neg h3])
  refine ⟨m, hm, ?_⟩
  unfold sOp at hex
  rw [← hw] at hex
  exact hex
theorem c_drayref29_open (h : List Evt) (hl : h.length ≤ 1000000) (n : Nat) (hn : n ≤ h.length) (s : Int) {r : Nat} {sto : List Ob} (hr : r ≤ sto.length) : Tri Tryz.prog 41 r [encEs h, .int .i64 (n : Int), .int .i64 s] sto (fun d k => d = .int .i64 (openI h n s) ∧ k = sto) :=
  (c_drayref29_open_0 h hl n hn s).pure rfl (nrBL_E rfl) rfl rfl hr
structure InvW (h : List Evt) (n : Nat) (s : Int) (c : Req × Bool) : Prop where
  opn : (c.2 = false ∧ openI h n s = -1) ∨ (c.2 = true ∧ c.1.ses = s ∧ ∃ (j : Nat) (hj : j < h.length), openI h n s = (j : Int) ∧ h[j].q = c.1)
  up : ∀ (j : Nat) (hj : j < h.length), j < n → h[j].kind = 1 → h[j].q.ses = s → h[j].q.seq ≤ c.1.seq
  ex : 1 ≤ c.1.seq → ∃ (j : Nat) (hj : j < h.length), j < n ∧ h[j].kind = 1 ∧ h[j].q.ses = s ∧ h[j].q.seq = c.1.seq
noncomputable def sWg (h : List Evt) (n : Nat) (e : Evt) (k : Int) (i : Nat) : DS := ⟨[(0, encEs h), (1, .int .i64 (n : Int)), (4, .int .i64 0), (5, .lptr 5 0 0), (7, .int .i64 (i : Int))], [(5, rowE e)], [], mR 0⟩
set_option maxHeartbeats 16000000 in
theorem c_drayref29_wrong_0 (h : List Evt) (hl : h.length ≤ 1000000) (n : Nat) (hn : n < h.length) (c : Req × Bool) (hv : InvW h n h[n].q.ses c) : Tri Tryz.prog 26 0 [encEs h, .int .i64 (n : Int)] [] (fun d k => d = .int .i64 (nextE c h[n]) ∧ k = []) := by
  refine Tri.walk2 (L := LT) (c := {n := 116, ko := [4]}) [] [0, 1, 4, 5, 6, 7, 43, 52, 78, 80, 83, 115] hLT hmix Tryz.func26 rfl rfl ⟨rfl, rfl⟩ (by show 2 ≤ 116; decide) (by first | exact Nat.zero_le _ | exact Nat.le_refl _ | exact Nat.le_succ 1 | decide) ?_
  have hrow : (h.map rowE)[((n : Nat) : Int).toNat]? = some (rowE h[n]) := row_at' rowE h rfl hn
  have hlen : ((n : Nat) : Int) < ((h.map rowE).length : Int) := by rw [List.length_map]; omega
  generalize h[n] = e at hv hrow ⊢
  unfold nextE
  refine ⟨_, _, rfl, by omega, hrow, rfl, of_decide_eq_true rfl, ?_⟩
  refine And.intro (fun f1 => ?_) (fun f1 => ?_)
  · have f1 : e.kind < 1 := of_decide_eq_true f1
    repeat (first | refine And.intro (fun _ => ?_) (fun h => Bool.noConfusion h) | refine And.intro (fun h => Bool.noConfusion h) (fun _ => ?_))
    rw [if_pos (fun q : formE e => by have := q.1; omega)]
    exact And.intro rfl rfl
  have f1 : ¬ e.kind < 1 := of_decide_eq_false f1
  refine And.intro (fun f2 => ?_) (fun f2 => ?_)
  · have f2 : e.kind > 3 := of_decide_eq_true f2
    repeat (first | refine And.intro (fun _ => ?_) (fun h => Bool.noConfusion h) | refine And.intro (fun h => Bool.noConfusion h) (fun _ => ?_))
    rw [if_pos (fun q : formE e => by have := q.2.1; omega)]
    exact And.intro rfl rfl
  have f2 : ¬ e.kind > 3 := of_decide_eq_false f2
  repeat (first | refine And.intro (fun _ => ?_) (fun h => Bool.noConfusion h) | refine And.intro (fun h => Bool.noConfusion h) (fun _ => ?_))
  refine And.intro (fun f3 => ?_) (fun f3 => ?_)
  · have f3 : e.q.ses < 1 := of_decide_eq_true f3
    repeat (first | refine And.intro (fun _ => ?_) (fun h => Bool.noConfusion h) | refine And.intro (fun h => Bool.noConfusion h) (fun _ => ?_))
    rw [if_pos (fun q : formE e => by have := q.2.2.1; omega)]
    exact And.intro rfl rfl
  have f3 : ¬ e.q.ses < 1 := of_decide_eq_false f3
  repeat (first | refine And.intro (fun _ => ?_) (fun h => Bool.noConfusion h) | refine And.intro (fun h => Bool.noConfusion h) (fun _ => ?_))
  refine And.intro (fun f4 => ?_) (fun f4 => ?_)
  · have f4 : e.q.ses > 1000000 := of_decide_eq_true f4
    repeat (first | refine And.intro (fun _ => ?_) (fun h => Bool.noConfusion h) | refine And.intro (fun h => Bool.noConfusion h) (fun _ => ?_))
    rw [if_pos (fun q : formE e => by have := q.2.2.2.1; omega)]
    exact And.intro rfl rfl
  have f4 : ¬ e.q.ses > 1000000 := of_decide_eq_false f4
  repeat (first | refine And.intro (fun _ => ?_) (fun h => Bool.noConfusion h) | refine And.intro (fun h => Bool.noConfusion h) (fun _ => ?_))
  refine And.intro (fun f5 => ?_) (fun f5 => ?_)
  · have f5 : e.q.seq < 1 := of_decide_eq_true f5
    repeat (first | refine And.intro (fun _ => ?_) (fun h => Bool.noConfusion h) | refine And.intro (fun h => Bool.noConfusion h) (fun _ => ?_))
    rw [if_pos (fun q : formE e => by have := q.2.2.2.2.1; omega)]
    exact And.intro rfl rfl
  have f5 : ¬ e.q.seq < 1 := of_decide_eq_false f5
  repeat (first | refine And.intro (fun _ => ?_) (fun h => Bool.noConfusion h) | refine And.intro (fun h => Bool.noConfusion h) (fun _ => ?_))
  refine And.intro (fun f6 => ?_) (fun f6 => ?_)
  · have f6 : e.q.seq > 1099511627776 := of_decide_eq_true f6
    repeat (first | refine And.intro (fun _ => ?_) (fun h => Bool.noConfusion h) | refine And.intro (fun h => Bool.noConfusion h) (fun _ => ?_))
    rw [if_pos (fun q : formE e => by have := q.2.2.2.2.2; omega)]
    exact And.intro rfl rfl
  have f6 : ¬ e.q.seq > 1099511627776 := of_decide_eq_false f6
  have hform : formE e := ⟨by omega, by omega, by omega, by omega, by omega, by omega⟩
  rw [if_neg (fun q => q hform)]
  have hop := c_drayref29_open h hl n (by omega) e.q.ses (r := 0) (sto := []) (Nat.le_refl 0)
  obtain ⟨cq, cw⟩ := c
  rcases hv.opn with ⟨hw, ho⟩ | ⟨hw, hcs, j, hj, ho, hjq⟩
  · have hw : cw = false := hw
    subst hw
    rw [ho] at hop
    refine ⟨rfl, (by first | exact Nat.zero_le _ | exact Nat.le_refl _ | exact Nat.le_succ 1 | decide), (hop).mono ?_⟩
    rintro d l ⟨rfl, rfl⟩
    refine ⟨rfl, fun _ _ => rfl, rfl, ?_⟩
    refine And.intro (fun g1 => ?_) (fun g1 => ?_)
    · have g1 := nd_true g1
      refine ⟨⟨67108863, [0, 1, 2, 4, 4, 28, 36, 68, 132, 4, 516, 1028, 2308, 4100, 8196, 16384, 16384, 114688, 147456, 278528, 540672, 16384, 2113536, 4210688, 9453568, 16793600], [1, 3, 7, 15, 23, 63, 127, 255, 511, 519, 1543, 3591, 8191, 16383, 32767, 65535, 98303, 262143, 524287, 1048575, 2097151, 2129919, 6324223, 14712831, 33554431, 67108863]⟩, by kernel_rfl, ?_⟩
      repeat (first | refine And.intro (fun _ => ?_) (fun h => Bool.noConfusion h) | refine And.intro (fun h => Bool.noConfusion h) (fun _ => ?_))
      rw [if_neg (fun q => g1 q.1), if_neg (fun q => g1 q.1), if_pos ⟨g1, .inl rfl⟩]
      exact And.intro rfl rfl
    have g1 := nd_false g1
    repeat (first | refine And.intro (fun _ => ?_) (fun h => Bool.noConfusion h) | refine And.intro (fun h => Bool.noConfusion h) (fun _ => ?_))
    rw [if_neg (fun q => by cases q.2)]
    have hseq : (e.kind = 1 ∧ e.q.seq ≤ cq.seq) ↔ ∃ (i : Nat) (hi : i < h.length), i < n ∧ h[i].kind = 1 ∧ h[i].q.ses = e.q.ses ∧ h[i].q.seq ≥ e.q.seq := by
      constructor
      · rintro ⟨_, q⟩
        obtain ⟨i, hi, a1, a2, a3, a4⟩ := hv.ex (by show 1 ≤ cq.seq; omega)
        exact ⟨i, hi, a1, a2, a3, by rw [a4]; exact q⟩
      · rintro ⟨i, hi, a1, a2, a3, a4⟩
        have := hv.up i hi a1 a2 a3
        exact ⟨g1, Int.le_trans a4 this⟩
    show Ok _ _ _ _ _
    refine Ok.loopN hLT hmix [] [0, 1, 4, 5, 6, 7, 43, 52, 78, 80, 83, 115] [0,1,4,5,7] [5] (fun f t => ∃ i : Nat, f = n - i ∧ i ≤ n ∧ (∀ (x : Nat) (hx : x < h.length), x < i → ¬ (h[x].kind = 1 ∧ h[x].q.ses = e.q.ses ∧ h[x].q.seq ≥ e.q.seq)) ∧ t = sWg h n e (-1) i) (n := n) ⟨0, rfl, Nat.zero_le _, fun x hx q => absurd q (Nat.not_lt_zero x), rfl⟩ ?_
    rintro f t ⟨i, rfl, hi, hno, rfl⟩
    refine And.intro (fun g2 => ?_) (fun g2 => ?_)
    rotate_left
    · have g2 : ¬ ((i : Nat) : Int) < (n : Int) := of_decide_eq_false g2
      rw [if_neg (fun q => by
        obtain ⟨x, hx, a1, a2⟩ := hseq.1 q
        exact hno x hx (by omega) a2), if_neg (fun q => q.1 g1)]
      exact And.intro rfl rfl
    have g2 : ((i : Nat) : Int) < (n : Int) := of_decide_eq_true g2
    have hil : i < h.length := by omega
    have hwr := wrap_succ (i := i) (n := n) (by omega) (by omega)
    have hrow2 : (h.map rowE)[((i : Nat) : Int).toNat]? = some (rowE h[i]) := row_at' rowE h rfl hil
    have hlen2 : ((i : Nat) : Int) < ((h.map rowE).length : Int) := by rw [List.length_map]; omega
    have fin : ¬ (h[i].kind = 1 ∧ h[i].q.ses = e.q.ses ∧ h[i].q.seq ≥ e.q.seq) → ∀ (x : Nat) (hx : x < h.length), x < i + 1 → ¬ (h[x].kind = 1 ∧ h[x].q.ses = e.q.ses ∧ h[x].q.seq ≥ e.q.seq) := fun q x hx hxi => by
      by_cases e1 : x = i
      · subst e1; exact q
      · exact hno x hx (by omega)
    have hit : (h[i].kind = 1 ∧ h[i].q.ses = e.q.ses ∧ h[i].q.seq ≥ e.q.seq) → (e.kind = 1 ∧ e.q.seq ≤ cq.seq) := fun q => hseq.2 ⟨i, hil, by omega, q⟩
    generalize h[i] = x at hrow2 fin hit
    refine ⟨⟨1073741823, [0, 0, 3, 4, 8, 16, 32, 64, 64, 448, 576, 1088, 2112, 64, 8256, 16448, 36928, 65600, 131136, 262144, 262144, 1835008, 2359296, 4456448, 8650752, 262144, 33816576, 67371008, 151257088, 268697600], [1, 2, 7, 15, 31, 63, 127, 255, 383, 1023, 2047, 4095, 8191, 8319, 24703, 57471, 131071, 262143, 524287, 1048575, 1572863, 4194303, 8388607, 16777215, 33554431, 34078719, 101187583, 235405311, 536870911, 1073741823]⟩, by kernel_rfl, ?_⟩
    refine ⟨_, _, rfl, by omega, hrow2, rfl, of_decide_eq_true rfl, ?_⟩
    refine And.intro rfl ?_
    refine And.intro (fun k1 => ?_) (fun k1 => ?_)
    rotate_left
    · have k1 : ¬ x.kind = 1 := of_decide_eq_false k1
      repeat (first | refine And.intro (fun _ => ?_) (fun h => Bool.noConfusion h) | refine And.intro (fun h => Bool.noConfusion h) (fun _ => ?_))
      refine ⟨n - (i + 1), by omega, i + 1, rfl, by omega, fin (fun q => k1 q.1), ?_⟩
      unfold sWg
      rw [← hwr]
      rfl
    have k1 : x.kind = 1 := of_decide_eq_true k1
    repeat (first | refine And.intro (fun _ => ?_) (fun h => Bool.noConfusion h) | refine And.intro (fun h => Bool.noConfusion h) (fun _ => ?_))
    refine ⟨_, _, rfl, by omega, hrow2, rfl, of_decide_eq_true rfl, ?_⟩
    refine And.intro rfl ?_
    refine And.intro (fun k2 => ?_) (fun k2 => ?_)
    rotate_left
    · have k2 : ¬ x.q.ses = e.q.ses := of_decide_eq_false k2
      repeat (first | refine And.intro (fun _ => ?_) (fun h => Bool.noConfusion h) | refine And.intro (fun h => Bool.noConfusion h) (fun _ => ?_))
      refine ⟨n - (i + 1), by omega, i + 1, rfl, by omega, fin (fun q => k2 q.2.1), ?_⟩
      unfold sWg
      rw [← hwr]
      rfl
    have k2 : x.q.ses = e.q.ses := of_decide_eq_true k2
    repeat (first | refine And.intro (fun _ => ?_) (fun h => Bool.noConfusion h) | refine And.intro (fun h => Bool.noConfusion h) (fun _ => ?_))
    refine ⟨_, _, rfl, by omega, hrow2, rfl, of_decide_eq_true rfl, ?_⟩
    refine And.intro rfl ?_
    refine And.intro (fun k3 => ?_) (fun k3 => ?_)
    · have k3 : x.q.seq ≥ e.q.seq := of_decide_eq_true k3
      repeat (first | refine And.intro (fun _ => ?_) (fun h => Bool.noConfusion h) | refine And.intro (fun h => Bool.noConfusion h) (fun _ => ?_))
      rw [if_pos (hit ⟨k1, k2, k3⟩)]
      exact And.intro rfl rfl
    have k3 : ¬ x.q.seq ≥ e.q.seq := of_decide_eq_false k3
    repeat (first | refine And.intro (fun _ => ?_) (fun h => Bool.noConfusion h) | refine And.intro (fun h => Bool.noConfusion h) (fun _ => ?_))
    refine ⟨n - (i + 1), by omega, i + 1, rfl, by omega, fin (fun q => k3 q.2.2), ?_⟩
    unfold sWg
    rw [← hwr]
    rfl
  · have hw : cw = true := hw
    subst hw
    rw [ho] at hop
    refine ⟨rfl, (by first | exact Nat.zero_le _ | exact Nat.le_refl _ | exact Nat.le_succ 1 | decide), (hop).mono ?_⟩
    rintro d l ⟨rfl, rfl⟩
    refine ⟨rfl, fun _ _ => rfl, rfl, ?_⟩
    have hrow3 : (h.map rowE)[((j : Nat) : Int).toNat]? = some (rowE h[j]) := row_at' rowE h rfl hj
    have hlen3 : ((j : Nat) : Int) < ((h.map rowE).length : Int) := by rw [List.length_map]; omega
    have hjq : h[j].q = cq := hjq
    have hcs : cq.ses = e.q.ses := hcs
    generalize h[j] = x at hrow3 hjq
    subst hjq
    refine And.intro (fun g1 => ?_) (fun g1 => ?_)
    · have g1 := nd_true g1
      rw [if_neg (fun q => g1 q.1), if_neg (fun q => g1 q.1)]
      refine ⟨⟨67108863, [0, 1, 2, 4, 4, 28, 36, 68, 132, 4, 516, 1028, 2308, 4100, 8196, 16384, 16384, 114688, 147456, 278528, 540672, 16384, 2113536, 4210688, 9453568, 16793600], [1, 3, 7, 15, 23, 63, 127, 255, 511, 519, 1543, 3591, 8191, 16383, 32767, 65535, 98303, 262143, 524287, 1048575, 2097151, 2129919, 6324223, 14712831, 33554431, 67108863]⟩, by kernel_rfl, ?_⟩
      refine And.intro (fun g2 => ?_) (fun g2 => ?_)
      · have g2 : ((j : Nat) : Int) < 0 := of_decide_eq_true g2
        omega
      repeat (first | refine And.intro (fun _ => ?_) (fun h => Bool.noConfusion h) | refine And.intro (fun h => Bool.noConfusion h) (fun _ => ?_))
      refine ⟨_, _, rfl, by omega, hrow3, rfl, of_decide_eq_true rfl, ?_⟩
      refine And.intro rfl ?_
      refine And.intro (fun g3 => ?_) (fun g3 => ?_)
      · have g3 := nd_true g3
        repeat (first | refine And.intro (fun _ => ?_) (fun h => Bool.noConfusion h) | refine And.intro (fun h => Bool.noConfusion h) (fun _ => ?_))
        rw [if_pos ⟨g1, .inr (fun q => g3 (by rw [show x.q = e.q from q]))⟩]
        exact And.intro rfl rfl
      have g3 := nd_false g3
      repeat (first | refine And.intro (fun _ => ?_) (fun h => Bool.noConfusion h) | refine And.intro (fun h => Bool.noConfusion h) (fun _ => ?_))
      refine ⟨_, _, rfl, by omega, hrow3, rfl, of_decide_eq_true rfl, ?_⟩
      refine And.intro rfl ?_
      refine And.intro (fun g4 => ?_) (fun g4 => ?_)
      · have g4 : (!eqCm x.q.c e.q.c true) = true := g4
        repeat (first | refine And.intro (fun _ => ?_) (fun h => Bool.noConfusion h) | refine And.intro (fun h => Bool.noConfusion h) (fun _ => ?_))
        rw [if_pos ⟨g1, .inr (fun q => by rw [(eqCm_iff _ _).2 (by rw [show x.q = e.q from q])] at g4; cases g4)⟩]
        exact And.intro rfl rfl
      have g4 : (!eqCm x.q.c e.q.c true) = false := g4
      repeat (first | refine And.intro (fun _ => ?_) (fun h => Bool.noConfusion h) | refine And.intro (fun h => Bool.noConfusion h) (fun _ => ?_))
      have g5 : x.q.c = e.q.c := (eqCm_iff _ _).1 (by simpa using g4)
      have g6 : x.q = e.q := by
        generalize x.q = a at hcs g3 g5
        generalize e.q = b at hcs g3 g5
        cases a
        cases b
        simp only [Req.mk.injEq]
        exact ⟨hcs, g3, g5⟩
      rw [if_neg (by rintro ⟨_, q | q⟩; cases q; exact q g6)]
      exact And.intro rfl rfl
    have g1 := nd_false g1
    refine And.intro (fun g2 => ?_) (fun g2 => ?_)
    rotate_left
    · have g2 : ¬ ((j : Nat) : Int) ≥ 0 := of_decide_eq_false g2
      omega
    rw [if_pos ⟨g1, rfl⟩]
    exact And.intro rfl rfl
end Go.Lv

namespace Go.Lv
open Go.Proofs

theorem c_drayref29_wrong (h : List Evt) (hl : h.length ≤ 1000000) (n : Nat) (hn : n < h.length) (c : Req × Bool) (hv : InvW h n h[n].q.ses c) {r : Nat} {sto : List Ob} (hr : r ≤ sto.length) : Tri Tryz.prog 26 r [encEs h, .int .i64 (n : Int)] sto (fun d k => d = .int .i64 (nextE c h[n]) ∧ k = sto) :=
  (c_drayref29_wrong_0 h hl n hn c hv).pure rfl (nrBL_E rfl) rfl rfl hr
theorem openG_app (s : Int) : ∀ {a : List Evt} {k : Int} {i : Nat} {b : List Evt}, openG s k i (a ++ b) = openG s (openG s k i a) (i + a.length) b
  | [], _, _, _ => rfl
  | e :: a, k, i, b => by
    show openG s _ (i + 1) (a ++ b) = openG s (openG s _ (i + 1) a) (i + (a.length + 1)) b
    rw [openG_app s, show i + 1 + a.length = i + (a.length + 1) by omega]
theorem openI_succ {h : List Evt} {n : Nat} {s : Int} (hn : n < h.length) : openI h (n + 1) s = if h[n].q.ses = s then (if h[n].kind = 2 then -1 else if h[n].kind = 1 then (n : Int) else openI h n s) else openI h n s := by
  unfold openI
  rw [List.take_succ_eq_append_getElem hn, openG_app, List.length_take, Nat.min_eq_left (by omega), Nat.zero_add]
  rfl
theorem InvW.next {h : List Evt} {n : Nat} (hn : n < h.length) {g : Cli} (hall : ∀ s, InvW h n s (cliO g s)) (hok : nextE (cliO g h[n].q.ses) h[n] = 0) : ∀ s, InvW h (n + 1) s (cliO (stepL g h[n]) s) := by
  intro s
  have hv := hall s
  have hve := hall h[n].q.ses
  have hsu := openI_succ (s := s) hn
  generalize he : h[n] = e at hok hve hsu ⊢
  have hform : formE e := Classical.byContradiction fun q => by
    unfold nextE at hok
    rw [if_pos q] at hok
    exact absurd hok (by decide)
  unfold nextE at hok
  rw [if_neg (fun q => q hform)] at hok
  by_cases hs : e.q.ses = s
  · subst hs
    rw [if_pos rfl] at hsu
    by_cases h1 : e.kind = 1
    · have hst : stepL g e = setL e.q.ses (e.q, true) g := by unfold stepL; rw [if_pos h1]
      have hc : cliO (stepL g e) e.q.ses = (e.q, true) := by unfold cliO; rw [hst, getL_set]; rfl
      rw [hc]
      have h2 : ¬ (e.kind = 1 ∧ (cliO g e.q.ses).2 = true) := fun q => by rw [if_pos q] at hok; exact absurd hok (by decide)
      rw [if_neg h2] at hok
      have h3 : ¬ (e.kind = 1 ∧ e.q.seq ≤ (cliO g e.q.ses).1.seq) := fun q => by rw [if_pos q] at hok; exact absurd hok (by decide)
      rw [if_neg (show ¬ e.kind = 2 by omega), if_pos h1] at hsu
      refine ⟨.inr ⟨rfl, rfl, n, hn, hsu, by rw [he]⟩, fun j hj hjn k1 k2 => ?_, fun _ => ⟨n, hn, by omega, by rw [he]; exact h1, by rw [he], by rw [he]⟩⟩
      show h[j].q.seq ≤ e.q.seq
      by_cases e1 : j = n
      · subst e1; rw [he]; exact Int.le_refl _
      · have := hv.up j hj (by omega) k1 k2
        have h4 : ¬ e.q.seq ≤ (cliO g e.q.ses).1.seq := fun q => h3 ⟨h1, q⟩
        omega
    · by_cases h2 : e.kind = 2
      · have hst : stepL g e = setL e.q.ses ((cliO g e.q.ses).1, false) g := by unfold stepL; rw [if_neg h1, if_pos h2]
        have hc : cliO (stepL g e) e.q.ses = ((cliO g e.q.ses).1, false) := by
          rw [hst]
          generalize (cliO g e.q.ses).1 = c1
          unfold cliO
          rw [getL_set]
          rfl
        rw [hc]
        rw [if_pos h2] at hsu
        refine ⟨.inl ⟨rfl, hsu⟩, fun j hj hjn k1 k2 => ?_, fun q => ?_⟩
        · by_cases e1 : j = n
          · subst e1; rw [he] at k1; exact absurd k1 h1
          · exact hv.up j hj (by omega) k1 k2
        · obtain ⟨j, hj, a1, a2⟩ := hv.ex q
          exact ⟨j, hj, by omega, a2⟩
      · have hst : stepL g e = g := by unfold stepL; rw [if_neg h1, if_neg h2]
        rw [hst]
        rw [if_neg h2, if_neg h1] at hsu
        refine ⟨by rw [hsu]; exact hv.opn, fun j hj hjn k1 k2 => ?_, fun q => ?_⟩
        · by_cases e1 : j = n
          · subst e1; rw [he] at k1; exact absurd k1 h1
          · exact hv.up j hj (by omega) k1 k2
        · obtain ⟨j, hj, a1, a2⟩ := hv.ex q
          exact ⟨j, hj, by omega, a2⟩
  · have hc : cliO (stepL g e) s = cliO g s := by
      unfold stepL
      split
      · unfold cliO; rw [getL_ne _ (fun q => hs q.symm)]
      · split
        · generalize (cliO g e.q.ses).1 = c1
          unfold cliO; rw [getL_ne _ (fun q => hs q.symm)]
        · rfl
    rw [hc]
    rw [if_neg hs] at hsu
    refine ⟨by rw [hsu]; exact hv.opn, fun j hj hjn k1 k2 => ?_, fun q => ?_⟩
    · by_cases e1 : j = n
      · subst e1; rw [he] at k2; exact absurd k2 hs
      · exact hv.up j hj (by omega) k1 k2
    · obtain ⟨j, hj, a1, a2⟩ := hv.ex q
      exact ⟨j, hj, by omega, a2⟩
theorem InvW.zero (h : List Evt) (s : Int) : InvW h 0 s (cliO [] s) := ⟨.inl ⟨rfl, rfl⟩, fun j hj q => absurd q (Nat.not_lt_zero j), fun q => absurd q (by show ¬ (1 : Int) ≤ 0; decide)⟩
noncomputable def sDw (h : List Evt) (i : Nat) : DS := ⟨[(0, encEs h), (2, .lptr 2 0 0), (3, .int .i64 (i : Int))], [(2, [.int .i64 0, .int .i64 0])], [], mR 0⟩
set_option maxHeartbeats 8000000 in
theorem c_drayref29_Well_0 (h : List Evt) (hl : h.length ≤ 1000000) : Tri Tryz.prog 13 0 [encEs h] [] (fun d k => d = fltE (wellE h) ∧ k = []) := by
  refine Tri.walk2 (L := LT) (c := {n := 20, kb := [2]}) [] [0, 2, 3, 4, 8, 15] hLT hmix Tryz.func13 rfl rfl ⟨rfl, rfl⟩ (by show 1 ≤ 20; decide) (by first | exact Nat.zero_le _ | exact Nat.le_refl _ | exact Nat.le_succ 1 | decide) ?_
  show Ok _ _ _ _ _
  refine Ok.loopN hLT hmix [] [0, 2, 3, 4, 8, 15] [0,2,3] [2] (fun n s => ∃ (i : Nat) (g : Cli), n = h.length - i ∧ i ≤ h.length ∧ goL i g (h.drop i) = wellE h ∧ (∀ s, InvW h i s (cliO g s)) ∧ s = sDw h i) (n := h.length) ⟨0, [], rfl, Nat.zero_le _, rfl, InvW.zero h, rfl⟩ ?_
  rintro n s ⟨i, g, rfl, hi, hgo, hall, rfl⟩
  refine And.intro (fun h1 => ?_) (fun h1 => ?_)
  rotate_left
  · have h1 : ¬ ((i : Nat) : Int) < ((h.map rowE).length : Int) := of_decide_eq_false h1
    rw [List.length_map] at h1
    rw [List.drop_eq_nil_of_le (by omega)] at hgo
    rw [← hgo]
    exact And.intro rfl rfl
  have h1 : ((i : Nat) : Int) < ((h.map rowE).length : Int) := of_decide_eq_true h1
  rw [List.length_map] at h1
  have hil : i < h.length := by omega
  have hw := wrap_succ (i := i) (n := h.length) hil (by omega)
  rw [goL_at hil] at hgo
  have hwr := c_drayref29_wrong h hl i hil (cliO g h[i].q.ses) (hall _) (r := 0) (sto := []) (Nat.le_refl 0)
  have hnx := InvW.next hil hall
  generalize nextE (cliO g h[i].q.ses) h[i] = w at hgo hwr hnx
  refine ⟨rfl, (by first | exact Nat.zero_le _ | exact Nat.le_refl _ | exact Nat.le_succ 1 | decide), (hwr).mono ?_⟩
  rintro d l ⟨rfl, rfl⟩
  refine ⟨rfl, fun _ _ => rfl, rfl, ?_⟩
  refine And.intro (fun h2 => ?_) (fun h2 => ?_)
  · have h2 := nd_true h2
    rw [if_pos h2] at hgo
    rw [← hgo]
    exact And.intro rfl rfl
  have h2 := nd_false h2
  rw [if_neg (fun q => q h2)] at hgo
  refine ⟨h.length - (i + 1), by omega, i + 1, stepL g h[i], rfl, by omega, hgo, hnx h2, ?_⟩
  unfold sDw
  rw [← hw]
  rfl
noncomputable def sSe (h : List Evt) (i : Nat) : DS := ⟨[(0, encEs h), (1, encEs h), (4, .bool false), (5, .int .i64 (i : Int))], [], [], mR 0⟩
set_option maxHeartbeats 8000000 in
theorem c_draybook_Same_Evt_0 (h : List Evt) (hl : h.length ≤ 1000000) : Tri Tryz.prog 27 0 [encEs h, encEs h] [] (fun d k => d = .bool true ∧ k = []) := by
  refine Tri.walk2 (L := LT) (c := {n := 26, ko := [4]}) [] [0, 1, 4, 5, 10, 14, 25] hLT hmix Tryz.func27 rfl rfl ⟨rfl, rfl⟩ (by show 2 ≤ 26; decide) (by first | exact Nat.zero_le _ | exact Nat.le_refl _ | exact Nat.le_succ 1 | decide) ?_
  refine And.intro (fun h0 => ?_) (fun h0 => ?_)
  · exact absurd rfl (nd_true h0)
  show Ok _ _ _ _ _
  refine Ok.loopN hLT hmix [] [0, 1, 4, 5, 10, 14, 25] [0,1,4,5] [] (fun n s => ∃ i : Nat, n = h.length - i ∧ i ≤ h.length ∧ s = sSe h i) (n := h.length) ⟨0, rfl, Nat.zero_le _, rfl⟩ ?_
  rintro n s ⟨i, rfl, hi, rfl⟩
  refine And.intro (fun h1 => ?_) (fun h1 => ?_)
  rotate_left
  · exact And.intro rfl rfl
  have h1 : ((i : Nat) : Int) < ((h.map rowE).length : Int) := of_decide_eq_true h1
  rw [List.length_map] at h1
  have hil : i < h.length := by omega
  have hw := wrap_succ (i := i) (n := h.length) hil (by omega)
  have hrow : (h.map rowE)[((i : Nat) : Int).toNat]? = some (rowE h[i]) := row_at' rowE h rfl hil
  have hlen : ((i : Nat) : Int) < ((h.map rowE).length : Int) := by rw [List.length_map]; omega
  generalize h[i] = e at hrow
  refine ⟨⟨511, [0, 0, 3, 4, 0, 0, 48, 64, 136], [1, 2, 7, 15, 16, 32, 112, 240, 511]⟩, by kernel_rfl, ?_⟩
  refine ⟨_, _, rfl, by omega, hrow, rfl, of_decide_eq_true rfl, ?_⟩
  refine And.intro rfl ?_
  refine ⟨_, _, rfl, by omega, hrow, rfl, of_decide_eq_true rfl, ?_⟩
  refine And.intro rfl ?_
  refine And.intro (fun h2 => ?_) (fun h2 => ?_)
  · simp at h2
  refine ⟨h.length - (i + 1), by omega, i + 1, rfl, by omega, ?_⟩
  unfold sSe
  rw [← hw]
  rfl
end Go.Lv

namespace Go.Lv
open Go.Proofs

noncomputable def zeroE : Evt := ⟨0, 0, zeroQ, 0, 0, 0, 0⟩
theorem allLenE (l : List Evt) : allLen 27 (l.map rowE) = true := by simp [allLen, rowE, rowQ, rowCm]
theorem set_repE {mk : Evt} {l : List Evt} {m i : Nat} (h : i < m) : (l ++ (List.replicate i mk ++ List.replicate (m - i) zeroE)).set (l.length + i) mk = l ++ (List.replicate (i + 1) mk ++ List.replicate (m - (i + 1)) zeroE) := by
  rw [List.set_append_right _ _ (by omega)]
  congr 1
  rw [show l.length + i - l.length = i by omega, List.set_append_right _ _ (by simp)]
  rw [show i - (List.replicate i mk).length = 0 by simp, show m - i = (m - (i + 1)) + 1 by omega, List.replicate_succ, List.set_cons_zero, List.replicate_succ' , List.append_assoc]
  rfl
noncomputable def fRE (mk : Evt) (bs : List Evt) (i : Nat) : List Evt := bs ++ (List.replicate i mk ++ List.replicate (80 - i) zeroE)
noncomputable def sRE (mk : Evt) (bs : List Evt) (i : Nat) : DS := ⟨[(0, encEs bs), (3, .lptr 3 0 0), (5, .list (.own 27) ((fRE mk bs i).map rowE)), (6, .int .i64 ((bs.length + i : Nat) : Int)), (4, .list (.own 0) [])], [(3, rowE mk)], [], mR 0⟩
theorem fRE_len (mk : Evt) (bs : List Evt) {i : Nat} (h : i ≤ 80) : (fRE mk bs i).length = bs.length + 80 := by
  simp only [fRE, List.length_append, List.length_replicate]
  omega
set_option maxHeartbeats 8000000 in
theorem c_draybook_Roomy_Evt_0 (mk : Evt) (bs : List Evt) (hb : bs.length ≤ 1000000) :
    Tri Tryz.prog 11 0 [encEs bs, .agg (rowE mk)] [] (fun d l => d = .list (.own 27) ((bs ++ List.replicate 80 mk).map rowE) ∧ l = []) := by
  refine Tri.walk2 (L := LT) (c := {n := 27, ko := [4, 5], xf := [26]}) [] [0, 1, 3, 4, 5, 6, 19] hLT hmix Tryz.func11 rfl rfl ⟨rfl, rfl⟩ (by show 2 ≤ 27; decide) (by first | exact Nat.zero_le _ | exact Nat.le_refl _ | exact Nat.le_succ 1 | decide) ?_
  have hw : IntKind.i64.wrap (((bs.map rowE).length : Int) + 80) = ((bs.length + 80 : Nat) : Int) := by
    rw [List.length_map, wrap64 (by omega) (by omega)]
    omega
  refine And.intro ⟨by rw [hw]; omega, by rw [hw]; omega, by rw [hw]; show ((bs.length + 80 : Nat) : Int) * 216 ≤ 2 * 140737488355328; omega, by rw [hw]; omega, of_decide_eq_true rfl⟩ ?_
  have hrep : List.replicate (IntKind.i64.wrap (((bs.map rowE).length : Int) + 80)).toNat ((rowE zeroE).map fz) = (List.replicate (bs.length + 80) zeroE).map rowE := by
    rw [hw, Int.toNat_natCast, List.map_replicate]
    rfl
  have hrl : (List.replicate (IntKind.i64.wrap (((bs.map rowE).length : Int) + 80)).toNat ((rowE zeroE).map fz)).length = bs.length + 80 := by
    rw [hrep]
    simp
  have rest : ∀ zs : List (List D), zs = (fRE mk bs 0).map rowE → ∀ c Q, (∀ n s, (∃ i : Nat, n = 80 - i ∧ i ≤ 80 ∧ s = sRE mk bs i) → wC Tryz.prog ⟨LT, {n := 27, ko := [4, 5], xf := [26]}, 0, 0⟩ [] [0, 1, 3, 4, 5, 6, 19] c s (Ex.then (fun s' => ∃ k', k' < n ∧ ∃ i : Nat, k' = 80 - i ∧ i ≤ 80 ∧ nmB [0, 3, 5, 6, 4] [3] s' = sRE mk bs i) Q)) → Ok Tryz.prog ⟨LT, {n := 27, ko := [4, 5], xf := [26]}, 0, 0⟩ (.loop c) ⟨[(0, encEs bs), (1, .agg (rowE mk)), (3, .lptr 3 0 0), (4, .list (.own 0) []), (5, .list (.own 27) zs), (6, .int .i64 ((bs.map rowE).length : Int))], [(3, rowE mk)], [], mR 0⟩ Q := by
    intro zs hzs c Q hr
    refine Ok.loopN hLT hmix [] [0, 1, 3, 4, 5, 6, 19] [0,3,5,6,4] [3] (fun n s => ∃ i : Nat, n = 80 - i ∧ i ≤ 80 ∧ s = sRE mk bs i) (n := 80) ⟨0, rfl, by omega, by rw [hzs, List.length_map]; rfl⟩ ?_
    exact hr
  refine copy_any (e := 41) (ys := bs.map rowE) (zs := List.replicate (IntKind.i64.wrap (((bs.map rowE).length : Int) + 80)).toNat ((rowE zeroE).map fz)) rfl rfl rfl rfl ⟨⟨rfl, rfl⟩, of_decide_eq_true rfl, allLenE bs⟩ rfl ⟨rfl, rfl⟩ (fun hz => rest _ ?_ _ _ ?_) (fun hz => rest _ ?_ _ _ ?_)
  · rw [hrep]
    show List.take (min (bs.map rowE).length (List.map rowE (List.replicate (bs.length + 80) zeroE)).length) (bs.map rowE) ++ List.drop (min (bs.map rowE).length (List.map rowE (List.replicate (bs.length + 80) zeroE)).length) (List.map rowE (List.replicate (bs.length + 80) zeroE)) = (bs ++ ([] ++ List.replicate 80 zeroE)).map rowE
    rw [List.length_map, List.length_map, List.length_replicate, Nat.min_eq_left (by omega), List.take_of_length_le (by simp), List.nil_append, List.map_append, ← List.map_drop, List.drop_replicate, Nat.add_sub_cancel_left]
  rotate_left
  · rw [hrl, List.length_map] at hz
    have h0 : bs = [] := List.length_eq_zero_iff.1 (show bs.length = 0 by omega)
    show List.replicate (IntKind.i64.wrap (((bs.map rowE).length : Int) + 80)).toNat ((rowE zeroE).map fz) = _
    rw [hrep, h0]
    rfl
  all_goals
    rintro n s ⟨i, rfl, hi, rfl⟩
    have hl := fRE_len mk bs hi
    refine And.intro (fun h1 => ?_) (fun h1 => ?_)
    · have h1 : ((bs.length + i : Nat) : Int) < (((fRE mk bs i).map rowE).length : Int) := of_decide_eq_true h1
      rw [List.length_map, hl] at h1
      have hw1 : IntKind.i64.wrap (((bs.length + i : Nat) : Int) + 1) = ((bs.length + (i + 1) : Nat) : Int) := by
        rw [wrap64 (by omega) (by omega)]
        omega
      refine ⟨(fRE mk bs i).map rowE, rowE ((fRE mk bs i)[bs.length + i]'(by omega)), lsD_cp rfl ⟨rfl, rfl⟩ rfl, by omega, row_at' rowE (fRE mk bs i) rfl (by omega), rfl, of_decide_eq_true rfl, ?_⟩
      refine ⟨_, storeD_elem rfl ⟨rfl, of_decide_eq_true rfl⟩ ⟨rfl, rfl⟩ rfl (row_at' rowE (fRE mk bs i) rfl (by omega)) rfl, ?_⟩
      refine ⟨80 - (i + 1), by omega, i + 1, rfl, by omega, ?_⟩
      unfold sRE
      rw [← hw1]
      have hs : ((fRE mk bs i).map rowE).set (bs.length + i) (rowE mk) = (fRE mk bs (i + 1)).map rowE := by
        rw [← List.map_set]
        unfold fRE
        rw [set_repE (by omega)]
      rw [← hs]
      rfl
    · have h1 : ¬ ((bs.length + i : Nat) : Int) < (((fRE mk bs i).map rowE).length : Int) := of_decide_eq_false h1
      rw [List.length_map, hl] at h1
      have : i = 80 := by omega
      subst this
      refine And.intro ?_ rfl
      unfold fRE
      simp
noncomputable def roomE (mk : Evt) (bs : List Evt) : List Evt := bs ++ List.replicate 80 mk
theorem roomE_len (mk : Evt) (bs : List Evt) : (roomE mk bs).length = bs.length + 80 := by simp [roomE]
theorem roomE_at {mk : Evt} {bs : List Evt} {i : Nat} (h : bs.length ≤ i) (h2 : i < (roomE mk bs).length) : (roomE mk bs)[i] = mk := by
  unfold roomE at h2 ⊢
  rw [List.getElem_append_right h]
  exact List.getElem_replicate _
noncomputable def sVE (mk : Evt) (bs : List Evt) (i : Nat) : DS := ⟨[(0, encEs (roomE mk bs)), (1, encEs bs), (5, .lptr 5 0 0), (7, .int .i64 (i : Int)), (6, .bool false)], [(5, rowE mk)], [], mR 0⟩
set_option maxHeartbeats 8000000 in
theorem c_draybook_Intact_Evt_0 (mk : Evt) (bs : List Evt) (hb : bs.length ≤ 1000000) :
    Tri Tryz.prog 14 0 [encEs (roomE mk bs), encEs bs, .agg (rowE mk)] [] (fun d l => d = .bool true ∧ l = []) := by
  refine Tri.walk2 (L := LT) (c := {n := 37, ko := [6]}) [] [0, 1, 2, 5, 6, 7, 22, 28, 36] hLT hmix Tryz.func14 rfl rfl ⟨rfl, rfl⟩ (by show 3 ≤ 37; decide) (by first | exact Nat.zero_le _ | exact Nat.le_refl _ | exact Nat.le_succ 1 | decide) ?_
  have hrl := roomE_len mk bs
  have hw : IntKind.i64.wrap (((bs.map rowE).length : Int) + 80) = ((bs.length + 80 : Nat) : Int) := by
    rw [List.length_map, wrap64 (by omega) (by omega)]
    omega
  refine And.intro (fun h => absurd (by rw [hw, List.length_map, hrl]) (nd_true h)) (fun _ => ?_)
  refine And.intro ⟨by omega, by rw [List.length_map, List.length_map]; omega⟩ (And.intro (Nat.zero_le _) (And.intro (of_decide_eq_true rfl) (And.intro (allLenE _) ?_)))
  refine ⟨rfl, Nat.zero_le _, ?_⟩
  have e : List.take (((bs.map rowE).length : Int).toNat - 0) (List.drop 0 ((roomE mk bs).map rowE)) = bs.map rowE := by
    rw [List.drop_zero, Int.toNat_natCast, List.length_map, Nat.sub_zero, ← List.map_take]
    unfold roomE
    rw [List.take_left]
  rw [e]
  refine (c_draybook_Same_Evt_0 bs hb).mono ?_
  rintro d l ⟨rfl, rfl⟩
  refine ⟨rfl, fun _ _ => rfl, rfl, ?_⟩
  repeat (first | refine And.intro (fun _ => ?_) (fun h => Bool.noConfusion h) | refine And.intro (fun h => Bool.noConfusion h) (fun _ => ?_))
  show Ok _ _ _ _ _
  refine Ok.loopN hLT hmix [] [0, 1, 2, 5, 6, 7, 22, 28, 36] [0,1,5,7,6] [5] (fun n s => ∃ i : Nat, n = bs.length + 80 - i ∧ bs.length ≤ i ∧ i ≤ bs.length + 80 ∧ s = sVE mk bs i) (n := 80) ⟨bs.length, by omega, by omega, by omega, by rw [List.length_map]; rfl⟩ ?_
  rintro n s ⟨i, rfl, hi, hi2, rfl⟩
  refine And.intro (fun h1 => ?_) (fun h1 => ?_)
  · have h1 : ((i : Nat) : Int) < (((roomE mk bs).map rowE).length : Int) := of_decide_eq_true h1
    rw [List.length_map, hrl] at h1
    have hw1 : IntKind.i64.wrap ((i : Int) + 1) = ((i + 1 : Nat) : Int) := by
      rw [wrap64 (by omega) (by omega)]
      omega
    have hrow : ((roomE mk bs).map rowE)[((i : Nat) : Int).toNat]? = some (rowE mk) := by
      rw [row_at' rowE (roomE mk bs) rfl (by omega), roomE_at hi (by omega)]
    have hlen : ((i : Nat) : Int) < (((roomE mk bs).map rowE).length : Int) := by rw [List.length_map]; omega
    refine ⟨⟨63, [0, 0, 3, 4, 0, 24], [1, 2, 7, 15, 16, 63]⟩, by kernel_rfl, ?_⟩
    refine ⟨_, _, rfl, by omega, hrow, rfl, of_decide_eq_true rfl, ?_⟩
    refine And.intro rfl ?_
    refine And.intro (fun h2 => ?_) (fun h2 => ?_)
    · simp at h2
    refine ⟨bs.length + 80 - (i + 1), by omega, i + 1, rfl, by omega, by omega, ?_⟩
    unfold sVE
    rw [← hw1]
    rfl
  · exact And.intro rfl rfl
end Go.Lv

namespace Go.Lv
open Go.Proofs
noncomputable def ER : Ev := { L := LT, S := SS }
theorem ERok : EvOk Tryz.prog ER := ⟨fun f g h => (by cases h), hLT, by kernel_rfl, fun f T s o s' x args tys caps _ _ _ _ h => by cases h⟩
noncomputable def trueQ : Rz (D × List Ob) → Bool
  | .ok (.bool b, _) => b
  | _ => false
theorem trueQ_tri {n k : Nat} {args : List D} (h : trueQ (evF Tryz.prog ER n 0 k args []) = true) : Tri Tryz.prog k 0 args [] (fun d l => d = .bool true ∧ l = []) := by
  unfold trueQ at h
  split at h
  · rename_i b l he
    subst h
    exact Tri.forget ((evF_ok ERok n 0 k args [] _ _ he).1) (fun d l h _ => ⟨0, Nat.zero_le _, Nat.zero_le _, by rw [h.1]; exact .bool _, fun o ho => absurd ho (by simp), h.1, rfl⟩)
  · cases h
theorem tRuns : Tri Tryz.prog 3 0 [] [] (fun d l => d = .bool true ∧ l = []) := trueQ_tri (n := 30) (by kernel_rfl)
end Go.Lv

namespace Go.Lv
open Go.Proofs

theorem okWinT {n : Nat} {x : List D} (h : OkD LT (n + 2) 27 x) : ∃ a b, x = [.int .i64 a, .int .i64 b] := by
  obtain ⟨x1, y1, rfl, _, h1, x2, y2, rfl, _, h2, rfl⟩ := h
  obtain ⟨i1, rfl, _⟩ := h1
  obtain ⟨i2, rfl, _⟩ := h2
  exact ⟨i1, i2, rfl⟩
theorem okSitT {n : Nat} {x : List D} (h : OkD LT (n + 3) 29 x) : ∃ a b c d, x = [.int .i64 a, .int .i64 b, .int .i64 c, .int .i64 d] := by
  obtain ⟨x1, y1, rfl, _, h1, x2, y2, rfl, _, h2, x3, y3, rfl, _, h3, rfl⟩ := h
  obtain ⟨i1, rfl, _⟩ := h1
  obtain ⟨a, b, rfl⟩ := okWinT h2
  obtain ⟨i3, rfl, _⟩ := h3
  exact ⟨i1, a, b, i3, rfl⟩
theorem okOrdT {n : Nat} {x : List D} (h : OkD LT (n + 4) 31 x) : ∃ o0 o1 o2 o3 o4 o5 o6 o7 o8 o9, x = [.int .i64 o0, .int .i64 o1, .int .i64 o2, .int .i64 o3, .int .i64 o4, .int .i64 o5, .int .i64 o6, .int .i64 o7, .int .i64 o8, .int .i64 o9] := by
  obtain ⟨x1, y1, rfl, _, h1, x2, y2, rfl, _, h2, x3, y3, rfl, _, h3, x4, y4, rfl, _, h4, rfl⟩ := h
  obtain ⟨i1, rfl, _⟩ := h1
  obtain ⟨i2, rfl, _⟩ := h2
  obtain ⟨a, b, c, d, rfl⟩ := okSitT h3
  obtain ⟨e, f, g, k, rfl⟩ := okSitT h4
  exact ⟨i1, i2, a, b, c, d, e, f, g, k, rfl⟩
theorem okDrvT {n : Nat} {x : List D} (h : OkD LT (n + 3) 33 x) : ∃ d0 d1 d2 d3 d4 d5, x = [.int .i64 d0, .int .i64 d1, .int .i64 d2, .int .i64 d3, .int .i64 d4, .bool d5] := by
  obtain ⟨x1, y1, rfl, _, h1, x2, y2, rfl, _, h2, x3, y3, rfl, _, h3, x4, y4, rfl, _, h4, x5, y5, rfl, _, h5, rfl⟩ := h
  obtain ⟨i1, rfl, _⟩ := h1
  obtain ⟨i2, rfl, _⟩ := h2
  obtain ⟨i3, rfl, _⟩ := h3
  obtain ⟨a, b, rfl⟩ := okWinT h4
  obtain ⟨b5, rfl⟩ := h5
  exact ⟨i1, i2, i3, a, b, b5, rfl⟩
theorem okCmdT {n : Nat} {x : List D} (h : OkD LT (n + 5) 35 x) : ∃ c : Cmd, x = rowCm c := by
  obtain ⟨x1, y1, rfl, _, h1, x2, y2, rfl, _, h2, x3, y3, rfl, _, h3, x4, y4, rfl, _, h4, x5, y5, rfl, _, h5, rfl⟩ := h
  obtain ⟨i1, rfl, _⟩ := h1
  obtain ⟨o0, o1, o2, o3, o4, o5, o6, o7, o8, o9, rfl⟩ := okOrdT (n := n) h2
  obtain ⟨d0, d1, d2, d3, d4, d5, rfl⟩ := okDrvT (n := n + 1) h3
  obtain ⟨i4, rfl, _⟩ := h4
  obtain ⟨i5, rfl, _⟩ := h5
  exact ⟨⟨i1, o0, o1, o2, o3, o4, o5, o6, o7, o8, o9, d0, d1, d2, d3, d4, d5, i4, i5⟩, rfl⟩
theorem okReqT {n : Nat} {x : List D} (h : OkD LT (n + 6) 37 x) : ∃ q : Req, x = rowQ q := by
  obtain ⟨x1, y1, rfl, _, h1, x2, y2, rfl, _, h2, x3, y3, rfl, _, h3, rfl⟩ := h
  obtain ⟨i1, rfl, _⟩ := h1
  obtain ⟨i2, rfl, _⟩ := h2
  obtain ⟨c, rfl⟩ := okCmdT (n := n) h3
  exact ⟨⟨i1, i2, c⟩, rfl⟩
theorem okRepT {n : Nat} {x : List D} (h : OkD LT (n + 2) 39 x) : ∃ a b c d, x = [.int .i64 a, .int .i64 b, .int .i64 c, .int .i64 d] := by
  obtain ⟨x1, y1, rfl, _, h1, x2, y2, rfl, _, h2, x3, y3, rfl, _, h3, x4, y4, rfl, _, h4, rfl⟩ := h
  obtain ⟨i1, rfl, _⟩ := h1
  obtain ⟨i2, rfl, _⟩ := h2
  obtain ⟨i3, rfl, _⟩ := h3
  obtain ⟨i4, rfl, _⟩ := h4
  exact ⟨i1, i2, i3, i4, rfl⟩
theorem okEvtT {n : Nat} {x : List D} (h : OkD LT (n + 7) 41 x) : ∃ e : Evt, x = rowE e := by
  obtain ⟨x1, y1, rfl, _, h1, x2, y2, rfl, _, h2, x3, y3, rfl, _, h3, x4, y4, rfl, _, h4, rfl⟩ := h
  obtain ⟨i1, rfl, _⟩ := h1
  obtain ⟨i2, rfl, _⟩ := h2
  obtain ⟨q, rfl⟩ := okReqT (n := n) h3
  obtain ⟨a, b, c, d, rfl⟩ := okRepT (n := n + 4) h4
  exact ⟨⟨i1, i2, q, a, b, c, d⟩, rfl⟩
theorem okEvts {n : Nat} {x : List D} (h : OkD LT (n + 8) 50 x) : ∃ l : List Evt, x = [encEs l] := by
  obtain ⟨xs, rfl, _, h⟩ := h
  have key : ∀ xs : List (List D), (∀ r, r ∈ xs → r.length = LT.size 41 ∧ OkD LT (n + 7) 41 r) → ∃ l : List Evt, xs = l.map rowE := by
    intro xs
    induction xs with
    | nil => intro _; exact ⟨[], rfl⟩
    | cons x r ih =>
      intro h
      obtain ⟨s, rfl⟩ := okEvtT (h x (by simp)).2
      obtain ⟨l, rfl⟩ := ih fun y hy => h y (by simp [hy])
      exact ⟨s :: l, rfl⟩
  obtain ⟨l, rfl⟩ := key xs h
  exact ⟨l, rfl⟩
end Go.Lv

namespace Go.Lv
open Go.Proofs

noncomputable def mkE : Evt := ⟨-5, 0, zeroQ, 0, 0, 0, 0⟩
set_option maxHeartbeats 16000000 in
theorem l_Well (h : List Evt) : Tri Tryz.prog 4 0 [encEs h] [] (fun d _ => d = .bool true) := by
  refine Tri.walk2 (L := LT) (c := {n := 29, ko := [2]}) [] [0, 2, 3, 6] hLT hmix Tryz.func4 rfl rfl ⟨rfl, rfl⟩ (by show 1 ≤ 29; decide) (by first | exact Nat.zero_le _ | exact Nat.le_refl _ | exact Nat.le_succ 1 | decide) ?_
  refine And.intro (fun h1 => ?_) (fun h1 => ?_)
  · have h1 : ((h.map rowE).length : Int) > 60 := of_decide_eq_true h1
    rw [List.length_map] at h1
    refine And.intro ⟨by omega, by rw [List.length_map]; omega⟩ (And.intro (Nat.zero_le _) (And.intro (of_decide_eq_true rfl) (And.intro (allLenE _) ?_)))
    have hx : List.take ((60 : Int).toNat - 0) (List.drop 0 (h.map rowE)) = (h.take 60).map rowE := by
      rw [List.drop_zero, List.map_take]
      rfl
    have hB : (h.take 60).length ≤ 60 := by rw [List.length_take]; omega
    have hxl : ((h.take 60).map rowE).length = (h.take 60).length := List.length_map _
    refine ⟨rfl, Nat.zero_le _, ?_⟩
    show Tri Tryz.prog 11 0 [.list .imm (List.take ((60 : Int).toNat - 0) (List.drop 0 (h.map rowE))), .agg (rowE mkE)] [] _
    rw [hx]
    refine (c_draybook_Roomy_Evt_0 mkE (h.take 60) (by omega)).mono ?_
    rintro d l2 ⟨rfl, rfl⟩
    refine ⟨rfl, fun _ _ => rfl, rfl, ?_⟩
    refine And.intro ⟨by omega, by rw [List.length_map, List.length_map, List.length_append, List.length_replicate]; omega⟩ (And.intro (Nat.zero_le _) (And.intro (of_decide_eq_true rfl) (And.intro (allLenE _) ?_)))
    refine ⟨rfl, Nat.zero_le _, ?_⟩
    show Tri Tryz.prog 12 0 [.list .imm (List.take ((((h.take 60).map rowE).length : Int).toNat - 0) (List.drop 0 ((h.take 60 ++ List.replicate 80 mkE).map rowE)))] [] _
    have e : List.take ((((h.take 60).map rowE).length : Int).toNat - 0) (List.drop 0 ((h.take 60 ++ List.replicate 80 mkE).map rowE)) = (h.take 60).map rowE := by
      rw [List.drop_zero, Int.toNat_natCast, hxl, Nat.sub_zero, ← List.map_take, List.take_left]
    rw [e]
    have hwp := c_trace_Well_0 (h.take 60) (by omega)
    have hwd := c_drayref29_Well_0 (h.take 60) (by omega)
    generalize wellE (h.take 60) = x at hwp hwd
    obtain ⟨x1, x2⟩ := x
    refine hwp.mono ?_
    rintro d l2 ⟨rfl, rfl⟩
    refine ⟨rfl, fun _ _ => rfl, rfl, ?_⟩
    refine ⟨rfl, Nat.zero_le _, ?_⟩
    show Tri Tryz.prog 13 0 [.list .imm ((h.take 60).map rowE)] [] _
    refine hwd.mono ?_
    rintro d l2 ⟨rfl, rfl⟩
    refine ⟨rfl, fun _ _ => rfl, rfl, ?_⟩
    refine And.intro (fun h2 => ?_) (fun h2 => ?_)
    rotate_left
    · simp at h2
    repeat (first | refine And.intro (fun _ => ?_) (fun h => Bool.noConfusion h) | refine And.intro (fun h => Bool.noConfusion h) (fun _ => ?_))
    refine ⟨rfl, Nat.zero_le _, ?_⟩
    show Tri Tryz.prog 14 0 [.list .imm ((h.take 60 ++ List.replicate 80 mkE).map rowE), .list .imm ((h.take 60).map rowE), .agg (rowE mkE)] [] _
    refine (c_draybook_Intact_Evt_0 mkE (h.take 60) (by omega)).mono ?_
    rintro d l2 ⟨rfl, rfl⟩
    refine ⟨rfl, fun _ _ => rfl, rfl, ?_⟩
    repeat (first | refine And.intro (fun _ => ?_) (fun h => Bool.noConfusion h) | refine And.intro (fun h => Bool.noConfusion h) (fun _ => ?_))
    refine ⟨rfl, (by first | exact Nat.zero_le _ | exact Nat.le_refl _ | exact Nat.le_succ 1 | decide), (tRuns).mono ?_⟩
    rintro d l ⟨rfl, rfl⟩
    refine ⟨rfl, fun _ _ => rfl, rfl, ?_⟩
    repeat (first | refine And.intro (fun _ => ?_) (fun h => Bool.noConfusion h) | refine And.intro (fun h => Bool.noConfusion h) (fun _ => ?_))
    exact rfl
  · have h1 : ¬ ((h.map rowE).length : Int) > 60 := of_decide_eq_false h1
    rw [List.length_map] at h1
    have hx : h.map rowE = h.map rowE := rfl
    have hB : h.length ≤ 60 := by omega
    have hxl : (h.map rowE).length = h.length := List.length_map _
    refine ⟨rfl, Nat.zero_le _, ?_⟩
    show Tri Tryz.prog 11 0 [.list .imm (h.map rowE), .agg (rowE mkE)] [] _
    refine (c_draybook_Roomy_Evt_0 mkE h (by omega)).mono ?_
    rintro d l2 ⟨rfl, rfl⟩
    refine ⟨rfl, fun _ _ => rfl, rfl, ?_⟩
    refine And.intro ⟨by omega, by rw [List.length_map, List.length_map, List.length_append, List.length_replicate]; omega⟩ (And.intro (Nat.zero_le _) (And.intro (of_decide_eq_true rfl) (And.intro (allLenE _) ?_)))
    refine ⟨rfl, Nat.zero_le _, ?_⟩
    show Tri Tryz.prog 12 0 [.list .imm (List.take (((h.map rowE).length : Int).toNat - 0) (List.drop 0 ((h ++ List.replicate 80 mkE).map rowE)))] [] _
    have e : List.take (((h.map rowE).length : Int).toNat - 0) (List.drop 0 ((h ++ List.replicate 80 mkE).map rowE)) = h.map rowE := by
      rw [List.drop_zero, Int.toNat_natCast, hxl, Nat.sub_zero, ← List.map_take, List.take_left]
    rw [e]
    have hwp := c_trace_Well_0 h (by omega)
    have hwd := c_drayref29_Well_0 h (by omega)
    generalize wellE h = x at hwp hwd
    obtain ⟨x1, x2⟩ := x
    refine hwp.mono ?_
    rintro d l2 ⟨rfl, rfl⟩
    refine ⟨rfl, fun _ _ => rfl, rfl, ?_⟩
    refine ⟨rfl, Nat.zero_le _, ?_⟩
    show Tri Tryz.prog 13 0 [.list .imm (h.map rowE)] [] _
    refine hwd.mono ?_
    rintro d l2 ⟨rfl, rfl⟩
    refine ⟨rfl, fun _ _ => rfl, rfl, ?_⟩
    refine And.intro (fun h2 => ?_) (fun h2 => ?_)
    rotate_left
    · simp at h2
    repeat (first | refine And.intro (fun _ => ?_) (fun h => Bool.noConfusion h) | refine And.intro (fun h => Bool.noConfusion h) (fun _ => ?_))
    refine ⟨rfl, Nat.zero_le _, ?_⟩
    show Tri Tryz.prog 14 0 [.list .imm ((h ++ List.replicate 80 mkE).map rowE), .list .imm (h.map rowE), .agg (rowE mkE)] [] _
    refine (c_draybook_Intact_Evt_0 mkE h (by omega)).mono ?_
    rintro d l2 ⟨rfl, rfl⟩
    refine ⟨rfl, fun _ _ => rfl, rfl, ?_⟩
    repeat (first | refine And.intro (fun _ => ?_) (fun h => Bool.noConfusion h) | refine And.intro (fun h => Bool.noConfusion h) (fun _ => ?_))
    refine ⟨rfl, (by first | exact Nat.zero_le _ | exact Nat.le_refl _ | exact Nat.le_succ 1 | decide), (tRuns).mono ?_⟩
    rintro d l ⟨rfl, rfl⟩
    refine ⟨rfl, fun _ _ => rfl, rfl, ?_⟩
    repeat (first | refine And.intro (fun _ => ?_) (fun h => Bool.noConfusion h) | refine And.intro (fun h => Bool.noConfusion h) (fun _ => ?_))
    exact rfl
end Go.Lv
