/-
  Chapter 18: tables that stand anywhere in a store; Copy.
-/
import Derived.Test.YtpfoccpolaggiaaW5
set_option linter.all false
set_option maxRecDepth 100000
namespace Go.Lv
open Go.Proofs

theorem NR.up {k k' : Nat} (h : k ≤ k') {d : D} (hd : NR k d) : NR k' d := by
  induction hd with
  | gptr j o hj => exact .gptr _ _ (Nat.lt_of_lt_of_le hj h)
  | map j hj => exact .map _ (Nat.lt_of_lt_of_le hj h)
  | fn f ds _ ih => exact .fn _ _ ih
  | list q xs _ ih => exact .list _ _ ih
  | agg cs _ ih => exact .agg _ ih
  | tup cs _ ih => exact .tup _ ih
  | int k n => exact .int _ _
  | bool b => exact .bool _
  | str s => exact .str _
  | nil => exact .nil
  | nilmap => exact .nilmap
  | nilfn => exact .nilfn
  | dead => exact .dead
noncomputable def rho2 (p b : Nat) : Nat → Nat := fun i => if i = 0 then p else b
theorem back2 {p b : Nat} {sto : List Ob} {es es' : List (D × D)} (hp : sto[p]? = some (.map es)) (hb : sto[b]? = some (.box [.map p])) (hne : p ≠ b) :
    backSto (rho2 p b) 2 sto [.map es', .box [.map 0]] = sto.set p (.map es') := by
  show ((sto.set p (.map es')).set b (.box [.map (extR (rho2 p b) 2 sto.length 0)])) ++ [] = _
  rw [List.append_nil]
  have : extR (rho2 p b) 2 sto.length 0 = p := rfl
  rw [this]
  apply List.ext_getElem?
  intro i
  rw [List.getElem?_set]
  split
  · rename_i h
    subst h
    have hlt := (List.getElem?_eq_some_iff.1 hb).1
    rw [if_pos (by rw [List.length_set]; exact hlt), List.getElem?_set_ne hne, hb]
  · rfl
theorem set_self {sto : List Ob} {p : Nat} {o : Ob} (h : sto[p]? = some o) : sto.set p o = sto := by
  apply List.ext_getElem?
  intro i
  rw [List.getElem?_set]
  split
  · rename_i e
    subst e
    rw [if_pos (List.getElem?_eq_some_iff.1 h).1, h]
  · rfl
/-- What reads a table, wherever it stands. -/
theorem Tri.tabRO {f : Nat} {m : Tbl} {args : List D} {R : D → Prop} (h : Tri Try.prog f 2 (.gptr 1 0 :: args) (stT m) (fun d l => R d ∧ l = stT m)) (ha : args.all cellsOK = true) (hn : nrBL 0 args = true) (hd : ∀ d, R d → partsOK d = true ∧ nrB 0 d = true)
    {r p b : Nat} {sto : List Ob} (hr : r ≤ sto.length) (hp : sto[p]? = some (.map (encT m))) (hb : sto[b]? = some (.box [.map p])) (hne : p ≠ b) (hpr : p < r) (hbr : b < r) : Tri Try.prog f r (.gptr b 0 :: args) sto (fun d l => R d ∧ l = sto) := by
  have := Tri.ren (r := r) (sto := sto) (rho2 p b) h (fun i j hi hj e => by
      match i, j, hi, hj with
      | 0, 0, _, _ => rfl
      | 1, 1, _, _ => rfl
      | 0, 1, _, _ => exact absurd (show p = b from e) hne
      | 1, 0, _, _ => exact absurd (show b = p from e).symm hne
      | i + 2, _, hi, _ => exact absurd hi (by show ¬ i + 2 < 2; omega)
      | _, j + 2, _, hj => exact absurd hj (by show ¬ j + 2 < 2; omega)) (fun i o hi => by
      match i, hi with
      | 0, hi => simp [stT] at hi; subst hi; exact hp
      | 1, hi => simp [stT] at hi; subst hi; exact hb
      | i + 2, hi => simp [stT] at hi) (fun i hi => by
      match i, hi with
      | 0, _ => exact ⟨fun _ => hpr, fun _ => by omega⟩
      | 1, _ => exact ⟨fun _ => hbr, fun _ => by omega⟩
      | i + 2, hi => exact absurd hi (by show ¬ i + 2 < 2; omega)) hr (by show (true && args.all cellsOK) = true; rw [ha]; rfl) (fun x hx => by
      rcases List.mem_cons.1 hx with e | hx
      · rw [e]; exact .gptr _ _ (by show 1 < 2; omega)
      · exact (nrBL_nr hn x hx).up (Nat.zero_le _)) (fun o ho => by
      rcases List.mem_cons.1 ho with e | ho
      · rw [e]; exact trivial
      · have : o = .box [.map 0] := by simpa using ho
        rw [this]
        exact nrO_nr (k := 2) rfl) rfl (fun d l ⟨h1, h2⟩ => by subst h2; exact ⟨(hd _ h1).1, rfl⟩)
  rw [show renL (rho2 p b) (.gptr 1 0 :: args) = .gptr b 0 :: args by show D.gptr b 0 :: renL (rho2 p b) args = _; rw [renL_id _ hn]] at this
  refine this.mono fun d l ⟨d1, l1, ⟨h1, h2⟩, h3, h4⟩ => ?_
  subst h2
  refine ⟨by rw [h3, renD_id _ (hd _ h1).2]; exact h1, ?_⟩
  rw [h4]
  exact (back2 hp hb hne).trans (set_self hp)
/-- What writes a table, wherever it stands. -/
theorem Tri.tabRW {f : Nat} {m m' : Tbl} {args : List D} {d : D} (h : Tri Try.prog f 0 (.gptr 1 0 :: args) (stT m) (fun d' l => d' = d ∧ l = stT m')) (ha : args.all cellsOK = true) (hn : nrBL 0 args = true) (hd : partsOK d = true) (hdn : nrB 0 d = true)
    {r p b : Nat} {sto : List Ob} (hr : r ≤ sto.length) (hp : sto[p]? = some (.map (encT m))) (hb : sto[b]? = some (.box [.map p])) (hne : p ≠ b) (hpr : r ≤ p) (hbr : r ≤ b) : Tri Try.prog f r (.gptr b 0 :: args) sto (fun d' l => d' = d ∧ l = sto.set p (.map (encT m'))) := by
  have := Tri.ren (r := r) (sto := sto) (rho2 p b) h (fun i j hi hj e => by
      match i, j, hi, hj with
      | 0, 0, _, _ => rfl
      | 1, 1, _, _ => rfl
      | 0, 1, _, _ => exact absurd (show p = b from e) hne
      | 1, 0, _, _ => exact absurd (show b = p from e).symm hne
      | i + 2, _, hi, _ => exact absurd hi (by show ¬ i + 2 < 2; omega)
      | _, j + 2, _, hj => exact absurd hj (by show ¬ j + 2 < 2; omega)) (fun i o hi => by
      match i, hi with
      | 0, hi => simp [stT] at hi; subst hi; exact hp
      | 1, hi => simp [stT] at hi; subst hi; exact hb
      | i + 2, hi => simp [stT] at hi) (fun i hi => by
      match i, hi with
      | 0, _ => exact ⟨fun h => absurd h (Nat.not_lt_zero _), fun h => by have : p < r := h; omega⟩
      | 1, _ => exact ⟨fun h => absurd h (Nat.not_lt_zero _), fun h => by have : b < r := h; omega⟩
      | i + 2, hi => exact absurd hi (by show ¬ i + 2 < 2; omega)) hr (by show (true && args.all cellsOK) = true; rw [ha]; rfl) (fun x hx => by
      rcases List.mem_cons.1 hx with e | hx
      · rw [e]; exact .gptr _ _ (by show 1 < 2; omega)
      · exact (nrBL_nr hn x hx).up (Nat.zero_le _)) (fun o ho => by
      rcases List.mem_cons.1 ho with e | ho
      · rw [e]; exact trivial
      · have : o = .box [.map 0] := by simpa using ho
        rw [this]
        exact nrO_nr (k := 2) rfl) rfl (fun d l ⟨h1, h2⟩ => by subst h1; subst h2; exact ⟨hd, rfl⟩)
  rw [show renL (rho2 p b) (.gptr 1 0 :: args) = .gptr b 0 :: args by show D.gptr b 0 :: renL (rho2 p b) args = _; rw [renL_id _ hn]] at this
  refine this.mono fun d' l ⟨d1, l1, ⟨h1, h2⟩, h3, h4⟩ => ?_
  subst h1; subst h2
  refine ⟨by rw [h3, renD_id _ hdn], ?_⟩
  rw [h4]
  exact back2 hp hb hne
/-- New, behind whatever is there. -/
theorem t10R {r : Nat} {sto : List Ob} (hr : r ≤ sto.length) : Tri Try.prog 10 r [] sto (fun d l => d = .gptr (sto.length + 1) 0 ∧ l = sto ++ [.map [], .box [.map sto.length]]) := by
  have := Tri.ren (r := r) (sto := sto) (fun k => k) t10 (fun i j hi => by cases hi) (fun i o hi => by simp at hi) (fun i hi => by cases hi) hr rfl (fun x hx => by cases hx) (fun o ho => by cases ho) rfl (fun d l ⟨h1, h2⟩ => by subst h1; subst h2; exact ⟨rfl, rfl⟩)
  refine this.mono fun d l ⟨d1, l1, ⟨h1, h2⟩, h3, h4⟩ => ?_
  subst h1; subst h2
  refine ⟨?_, ?_⟩
  · rw [h3]
    show D.gptr (extR _ 0 sto.length 1) 0 = _
    simp [extR]
  · rw [h4]
    show sto ++ [.map [], .box [.map (extR _ 0 sto.length 0)]] = _
    simp [extR]
end Go.Lv
