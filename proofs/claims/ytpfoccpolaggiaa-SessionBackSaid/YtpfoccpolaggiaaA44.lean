/-
  A44: pure functions over every store; the sort of a list of numbers in a walk; loops in a walk.
-/
import Derived.Test.YtpfoccpolaggiaaA43
import Derived.Test.YtpfoccpolaggiaaA37
import Derived.Test.YtpfoccpolaggiaaA36
set_option linter.all false
set_option maxRecDepth 100000
namespace Go.Lv

mutual
theorem renD_id (ρ : Nat → Nat) : ∀ {d : D}, nrB 0 d = true → renD ρ d = d
  | .gptr j o, h => by simp [nrB] at h
  | .map j, h => by simp [nrB] at h
  | .fn f ds, h => by simp only [nrB] at h; simp only [renD, renL_id ρ h]
  | .list q xs, h => by simp only [nrB] at h; simp only [renD, renLL_id ρ h]
  | .agg cs, h => by simp only [nrB] at h; simp only [renD, renL_id ρ h]
  | .tup cs, h => by simp only [nrB] at h; simp only [renD, renL_id ρ h]
  | .int _ _, _ => rfl
  | .bool _, _ => rfl
  | .str _, _ => rfl
  | .nil, _ => rfl
  | .nilmap, _ => rfl
  | .nilfn, _ => rfl
  | .dead, _ => rfl
  | .lptr _ _ _, _ => rfl
  | .eptr _ _ _ _ _, _ => rfl
  | .stamp _ _ _, _ => rfl
theorem renL_id (ρ : Nat → Nat) : ∀ {l : List D}, nrBL 0 l = true → renL ρ l = l
  | [], _ => rfl
  | d :: r, h => by
    simp only [nrBL, Bool.and_eq_true] at h
    simp only [renL, renD_id ρ h.1, renL_id ρ h.2]
theorem renLL_id (ρ : Nat → Nat) : ∀ {l : List (List D)}, nrBLL 0 l = true → renLL ρ l = l
  | [], _ => rfl
  | d :: r, h => by
    simp only [nrBLL, Bool.and_eq_true] at h
    simp only [renLL, renL_id ρ h.1, renLL_id ρ h.2]
end

/-- A pure function of which something is told. -/
theorem Tri.pureR {P : Program} {f : Nat} {args : List D} {R : D → Prop} (h : Tri P f 0 args [] (fun d' l => R d' ∧ l = [])) (ha : args.all cellsOK = true) (hn : nrBL 0 args = true) (hd : ∀ d, R d → partsOK d = true ∧ nrB 0 d = true) {r : Nat} {sto : List Ob} (hr : r ≤ sto.length) :
    Tri P f r args sto (fun d' l => R d' ∧ l = sto) := by
  have := Tri.ren (r := r) (sto := sto) (fun k => k) h (fun i j hi => by cases hi) (fun i o hi => by simp at hi) (fun i hi => by cases hi) hr ha (fun x hx => nrBL_nr hn x hx) (fun o ho => by cases ho) rfl (fun d' l ⟨h1, h2⟩ => by subst h2; exact ⟨(hd _ h1).1, rfl⟩)
  rw [renL_id _ hn] at this
  refine this.mono fun d' l ⟨d1, l1, ⟨h1, h2⟩, h3, h4⟩ => ?_
  subst h2
  refine ⟨by rw [h3, renD_id _ (hd _ h1).2]; exact h1, by rw [h4]; simp [backSto]⟩
/-- A pure function. -/
theorem Tri.pure {P : Program} {f : Nat} {args : List D} {d : D} (h : Tri P f 0 args [] (fun d' l => d' = d ∧ l = [])) (ha : args.all cellsOK = true) (hn : nrBL 0 args = true) (hd : partsOK d = true) (hdn : nrB 0 d = true) {r : Nat} {sto : List Ob} (hr : r ≤ sto.length) :
    Tri P f r args sto (fun d' l => d' = d ∧ l = sto) := by
  have := Tri.ren (r := r) (sto := sto) (fun k => k) h (fun i j hi => by cases hi) (fun i o hi => by simp at hi) (fun i hi => by cases hi) hr ha (fun x hx => nrBL_nr hn x hx) (fun o ho => by cases ho) rfl (fun d' l ⟨h1, h2⟩ => by subst h1; subst h2; exact ⟨hd, rfl⟩)
  rw [renL_id _ hn] at this
  refine this.mono fun d' l ⟨d1, l1, ⟨h1, h2⟩, h3, h4⟩ => ?_
  subst h1; subst h2
  refine ⟨by rw [h3, renD_id _ hdn], by rw [h4]; simp [backSto]⟩
end Go.Lv

namespace Go.Lv
open Go

theorem intsOf_map (zs : List Int) : intsOf (zs.map rowI) = some zs := by
  induction zs with
  | nil => rfl
  | cons z r ih =>
    show (intsOf (r.map rowI)).map (z :: ·) = _
    rw [ih]
    rfl
theorem OpOk.turn {P : Program} {T : St} {s : DS} {o : Oper} {K : DS → Prop} {φ : List Int → List Int} {f : Nat} (hC : TurnC P f φ) {x y : Operand} {args : Array Operand} {tys : Array TypeId} {e v : Nat} {p : Place} {zs : List Int}
    (ho : o.op = .call { callee := .value x, args := args, argTypes := tys }) (hargs : args.toList = [y]) (hx : lookO s x = some (.fn f [])) (hy : lookO s y = some (.list (.cp e (some (p, v))) (zs.map rowI)))
    (h0 : zs = [] → Lv.sm (put T.c o.dst (.tup []) s) K)
    (h1 : zs ≠ [] → (s.m.rv p.r = v ∧ okR T.ro p.r = true) ∧ getPl s p = some (.list (.own 1) (zs.map rowI)) ∧ zs.length < 4611686018427387904 ∧
      Lv.sm (put T.c o.dst (.tup []) { setPl s p (.list (.own 1) ((φ zs).map rowI)) with m := (setPl s p (.list (.own 1) ((φ zs).map rowI))).m.bE }) K) : OpOk P T o s K := by
  cases zs with
  | nil =>
    obtain ⟨s2, h2, hk⟩ := sm_inv (h0 rfl)
    refine OpOk.mono (turnHk_ok (s' := s2) hC ho hx ?_).1 fun s1 e => by subst e; exact hk
    unfold turnHk
    rw [ho]
    simp only [hx, hargs, hy, List.map_nil, h2]
  | cons z r =>
    obtain ⟨hv, hpl, hlen, h1⟩ := h1 (by simp)
    obtain ⟨s2, h2, hk⟩ := sm_inv h1
    refine OpOk.mono (turnHk_ok (s' := s2) hC ho hx ?_).1 fun s1 e => by subst e; exact hk
    unfold turnHk
    rw [ho]
    simp only [hx, hargs, hy, List.map_cons, turnGo]
    rw [if_pos hv, hpl]
    simp only
    rw [intsOf_map]
    simp only
    rw [if_pos (by refine ⟨by simp, hlen, ?_⟩; trivial), h2]
end Go.Lv

namespace Go.Lv
open Go

section
variable {P : Program} {T : St} {X : Ctx} {G : Gh} {s : DS} {a : Act} {w : World} {M : Ms} {Q : Ex → DS → Prop}
theorem Ok.nmB {c : Code} (lv bs : List Nat) (h : Ok P T c (Lv.nmB lv bs s) Q) : Ok P T c s Q := fun X G a w hX hR => h X G a w hX (hR.nmB lv bs)
/-- A loop: what holds ahead of each round (of the slots and boxes that are named), and a number that goes down. -/
theorem Ok.loopN (H : LyOK P T.L) (hm : P.follows .mixedOrders = true) (M : Ms) (lv lv0 bs : List Nat) {c : Code} (I : Nat → DS → Prop) {n : Nat} (h0 : I n (Lv.nmB lv0 bs s))
    (hr : ∀ n s, I n s → wC P T M lv c s (Ex.then (fun s' => ∃ k, k < n ∧ I k (Lv.nmB lv0 bs s')) Q)) : Ok P T (.loop c) s Q :=
  Ok.loop (fun n s => I n (Lv.nmB lv0 bs s)) h0 fun n s h => Ok.nmB lv0 bs (wC_ok H hm (hr n _ h))
theorem wrap64 {z : Int} (h1 : -9223372036854775808 ≤ z) (h2 : z ≤ 9223372036854775807) : IntKind.i64.wrap z = z := by
  rw [IntKind.wrap_i64]; omega
end
end Go.Lv
