/-
  Part 1 of the texts under the proof: an abstract run of loaded code on data, and what the functions do. No condition.
-/
import Derived.Test.YtmbkdljolcmmiaaGreatDispatchRunsE2
set_option linter.all false
set_option maxRecDepth 100000
namespace Go.Lv

theorem Tri.pureR {P : Program} {f : Nat} {args : List D} {R : D → Prop} (h : Tri P f 0 args [] (fun d' l => R d' ∧ l = [])) (ha : args.all cellsOK = true) (hn : nrBL 0 args = true) (hd : ∀ d, R d → partsOK d = true ∧ nrB 0 d = true) {r : Nat} {sto : List Ob} (hr : r ≤ sto.length) :
    Tri P f r args sto (fun d' l => R d' ∧ l = sto) := by
  have := Tri.ren (r := r) (sto := sto) (fun k => k) h (fun i j hi => by cases hi) (fun i o hi => by simp at hi) (fun i hi => by cases hi) hr ha (fun x hx => nrBL_nr hn x hx) (fun o ho => by cases ho) rfl (fun d' l ⟨h1, h2⟩ => by subst h2; exact ⟨(hd _ h1).1, rfl⟩)
  rw [renL_id _ hn] at this
  refine this.mono fun d' l ⟨d1, l1, ⟨h1, h2⟩, h3, h4⟩ => ?_
  subst h2
  refine ⟨by rw [h3, renD_id _ (hd _ h1).2]; exact h1, by rw [h4]; simp [backSto]⟩
end Go.Lv

namespace Go.Lv
open Go

end Go.Lv

namespace Go.Lv
open Go

section
variable {P : Program} {T : St} {X : Ctx} {G : Gh} {s : DS} {a : Act} {w : World} {M : Ms} {Q : Ex → DS → Prop}
theorem Ok.loopN (H : LyOK P T.L) (hm : P.follows .mixedOrders = true) (M : Ms) (lv lv0 bs : List Nat) {c : Code} (I : Nat → DS → Prop) {n : Nat} (h0 : I n (Lv.nmB lv0 bs s))
    (hr : ∀ n s, I n s → wC P T M lv c s (Ex.then (fun s' => ∃ k, k < n ∧ I k (Lv.nmB lv0 bs s')) Q)) : Ok P T (.loop c) s Q :=
  Ok.loop (fun n s => I n (Lv.nmB lv0 bs s)) h0 fun n s h => Ok.nmB lv0 bs (wC_ok H hm (hr n _ h))
theorem wrap64 {z : Int} (h1 : -9223372036854775808 ≤ z) (h2 : z ≤ 9223372036854775807) : IntKind.i64.wrap z = z := by
  rw [IntKind.wrap_i64]; omega
end
end Go.Lv

namespace Go.Lv

theorem mapEntry_new {T : St} {s : DS} {o : Oper} {K : DS → Prop} {t n kt e : Nat} {m k : Operand} {key z : D} {es : List (D × D)} (ho : o.op = .mapEntry t m k) (hm : lookO s m = some (.map n)) (hk : lookO s k = some key) (ht : T.L.tk t = .map kt e)
    (hc : (decide (T.ro ≤ n) && keyT T.L kt key) = true) (hs : s.sto[n]? = some (.map es)) (hz : zeroD T.L e = some z) (hf : findE T.L kt key es = some none) (hkc : keyC z = true)
    (h : Lv.sm (put T.c o.dst (.tup [z, .stamp s.m.era n es.length]) { s with sto := s.sto.set n (.map (es ++ [(key, z)])) }) fun s => fW s K) : anyW T s o K := by
  have hop : opD T.L T.c T.ro s o = put T.c o.dst (.tup [z, .stamp s.m.era n es.length]) { s with sto := s.sto.set n (.map (es ++ [(key, z)])) } := by
    simp only [opD, ho, hm, hk, mapEntryD, ht]
    rw [if_pos hc, hs, hz]
    simp only [hf]
    rw [if_pos hkc]
  unfold anyW
  rw [hop]
  exact sm_iff.1 h
theorem entryStore_any {T : St} {s : DS} {o : Oper} {K : DS → Prop} {t n e i : Nat} {m st x : Operand} {v : D} {y : D × D} {es : List (D × D)} (ho : o.op = .entryStore t m st x) (hm : lookO s m = some (.map n)) (hst : lookO s st = some (.stamp e n i)) (hx : lookO s x = some v)
    (hc : (decide (T.ro ≤ n) && n == n && e == s.m.era && keyC v) = true) (hs : s.sto[n]? = some (.map es)) (hi : es[i]? = some y)
    (h : Lv.sm (voidS T.c o.dst { s with sto := s.sto.set n (.map (es.set i (y.1, v))) }) fun s => fW s K) : anyW T s o K := by
  have hop : opD T.L T.c T.ro s o = voidS T.c o.dst { s with sto := s.sto.set n (.map (es.set i (y.1, v))) } := by
    simp only [opD, ho, hm, hst, hx, entryStoreD]
    rw [if_pos hc, hs]
    simp only [hi]
  unfold anyW
  rw [hop]
  exact sm_iff.1 h
end Go.Lv

namespace Go.Lv
open Go.Proofs

theorem hmix : Tryz.prog.follows .mixedOrders = true := by kernel_rfl
theorem row_at {α : Type} {f : α → List D} (l : List α) {i : Nat} (hi : i < l.length) : (l.map f)[((i : Nat) : Int).toNat]? = some (f l[i]) := by
  rw [Int.toNat_natCast, List.getElem?_map, List.getElem?_eq_getElem hi]
  rfl
theorem wrap_succ {i n : Nat} (hi : i < n) (hn : n ≤ 1000000000000000) : IntKind.i64.wrap ((i : Int) + 1) = ((i + 1 : Nat) : Int) := by
  rw [wrap64 (by omega) (by omega)]
  omega
theorem row_at' {α : Type} (f : α → List D) (l : List α) {n : Int} {i : Nat} (h : n = (i : Int)) (hi : i < l.length) : (l.map f)[n.toNat]? = some (f l[i]) := by
  rw [h]
  exact row_at l hi
theorem nd_true {p : Prop} [Decidable p] (h : (!decide p) = true) : ¬ p := by simpa using h
theorem nd_false {p : Prop} [Decidable p] (h : (!decide p) = false) : p := by simpa using h
theorem NR.up {k k' : Nat} (h : k ≤ k') {d : D} (hd : NR k d) : NR k' d := by
  induction hd with
  | gptr j o hj => exact .gptr _ _ (Nat.lt_of_lt_of_le hj h)
  | map j hj => exact .map _ (Nat.lt_of_lt_of_le hj h)
  | fn f ds _ ih => exact .fn _ _ ih
  | list q xs _ ih => exact .list _ _ ih
  | agg cs _ ih => exact .agg _ ih
  | tup cs _ ih => exact .tup _ ih
  | int k n => exact .int _ _
  | bool b => exact .bool _
  | str s => exact .str _
  | nil => exact .nil
  | nilmap => exact .nilmap
  | nilfn => exact .nilfn
  | dead => exact .dead
theorem set_self {sto : List Ob} {p : Nat} {o : Ob} (h : sto[p]? = some o) : sto.set p o = sto := by
  apply List.ext_getElem?
  intro i
  rw [List.getElem?_set]
  split
  · rename_i e
    subst e
    rw [if_pos (List.getElem?_eq_some_iff.1 h).1, h]
  · rfl
theorem Tri.one {f : Nat} {o : Ob} {R : D → List Ob → Prop} (h : Tri Tryz.prog f 0 [.gptr 0 0] [o] R) (ho : nrO 0 o = true) (hbx : ([o].drop 0).all boxOK = true)
    (hok : ∀ d l, R d l → partsOK d = true ∧ (l.drop 0).all boxOK = true) {r b : Nat} {sto : List Ob} (hr : r ≤ b) (hb : sto[b]? = some o) (hid : ∀ ρ, renO ρ o = o) :
    Tri Tryz.prog f r [.gptr b 0] sto (fun d l => ∃ d' l', R d' l' ∧ d = renD (extR (fun _ => b) 1 sto.length) d' ∧ l = backSto (fun _ => b) 1 sto l') := by
  have hlt : b < sto.length := (List.getElem?_eq_some_iff.1 hb).1
  exact Tri.ren (r := r) (sto := sto) (fun _ => b) h (fun i j hi hj e => by
      have hi : i < 1 := hi
      have hj : j < 1 := hj
      omega) (fun i o' hi => by
      match i, hi with
      | 0, hi =>
        have : o' = o := by simpa using hi.symm
        rw [this, hid]
        exact hb
      | i + 1, hi => simp at hi) (fun i hi => ⟨fun h => absurd h (Nat.not_lt_zero _), fun h => by have : b < r := h; omega⟩) (by omega) rfl (fun x hx => by
      have : x = .gptr 0 0 := by simpa using hx
      rw [this]
      exact .gptr _ _ (by show 0 < 1; omega)) (fun o' ho' => by
      have : o' = o := by simpa using ho'
      rw [this]
      have h := nrO_nr (k := 0) ho
      cases o with
      | box cs => exact fun d hd => (h d hd).up (Nat.zero_le _)
      | map es => trivial) hbx hok
theorem nrBLL_I : ∀ l : List Int, nrBLL 0 (l.map rowI) = true
  | [] => rfl
  | b :: r => by
    show (nrBL 0 (rowI b) && nrBLL 0 (r.map rowI)) = true
    rw [nrBLL_I r]
    rfl
end Go.Lv

namespace Go.Lv
open Go.Proofs

structure Stp where
  ord : Int
  drop : Bool
  deriving DecidableEq
structure Rte where
  drv : Int
  srv : Int
  st : List Stp
  deriving DecidableEq
abbrev Pln := List Rte
noncomputable def rowS (s : Stp) : List D := [.int .i64 s.ord, .bool s.drop]
noncomputable def rowR (r : Rte) : List D := [.int .i64 r.drv, .int .i64 r.srv, .list .imm (r.st.map rowS)]
noncomputable def encP (p : Pln) : D := .list .imm (p.map rowR)
theorem nrBLL_S : ∀ l : List Stp, nrBLL 0 (l.map rowS) = true
  | [] => rfl
  | b :: r => by
    show (nrBL 0 (rowS b) && nrBLL 0 (r.map rowS)) = true
    rw [nrBLL_S r]
    rfl
theorem nrBLL_P : ∀ l : Pln, nrBLL 0 (l.map rowR) = true
  | [] => rfl
  | b :: r => by
    show ((true && (true && (nrBLL 0 (b.st.map rowS) && true))) && nrBLL 0 (r.map rowR)) = true
    rw [nrBLL_P r, nrBLL_S]
    rfl
theorem nrBL_P {l : Pln} {ds : List D} (hd : nrBL 0 ds = true) : nrBL 0 (encP l :: ds) = true := by
  show (nrBLL 0 (l.map rowR) && nrBL 0 ds) = true
  rw [nrBLL_P, hd]
  rfl
theorem stp_eq {a b : Stp} (h : (decide (a.ord = b.ord) && (a.drop == b.drop && true)) = true) : a = b := by
  obtain ⟨x, y⟩ := a
  obtain ⟨z, w⟩ := b
  simp only [Bool.and_true, Bool.and_eq_true, decide_eq_true_eq, beq_iff_eq] at h
  obtain ⟨rfl, rfl⟩ := h
  rfl
theorem stp_ne {a b : Stp} (h : (decide (a.ord = b.ord) && (a.drop == b.drop && true)) = false) : a ≠ b := by
  rintro rfl
  simp at h
end Go.Lv

namespace Go.Lv
open Go.Proofs

noncomputable def stOK (seen : List Stp) : List Stp → Bool
  | [] => true
  | s :: l => decide (1 ≤ s.ord ∧ s.ord ≤ 1000000 ∧ s ∉ seen) && stOK (seen ++ [s]) l
noncomputable def hdOK (last : Int) (r : Rte) : Prop := last < r.drv ∧ r.drv ≤ 1000000 ∧ r.st.length ≤ 80 ∧ 0 ≤ r.srv ∧ r.srv ≤ r.st.length
noncomputable instance (last : Int) (r : Rte) : Decidable (hdOK last r) := by unfold hdOK; infer_instance
noncomputable def rightG (last : Int) (seen : List Stp) : Pln → Bool
  | [] => true
  | r :: p => decide (hdOK last r) && (stOK seen r.st && rightG r.drv (seen ++ r.st) p)
noncomputable def rightP (p : Pln) : Bool := decide (p.length ≤ 8) && rightG 0 [] p
noncomputable def encM (seen : List Stp) : List (D × D) := seen.map fun s => (.agg (rowS s), .int .i64 1)
theorem findM (s : Stp) : ∀ seen : List Stp, findE LT 138 (.agg (rowS s)) (encM seen) = some (if s ∈ seen then some (.int .i64 1) else none)
  | [] => rfl
  | x :: r => by
    have ih := findM s r
    have e : eqD LT 138 (.agg (rowS s)) (.agg (rowS x)) = some (decide (s.ord = x.ord) && (s.drop == x.drop && true)) := rfl
    show (match eqD LT 138 (.agg (rowS s)) (.agg (rowS x)) with | some true => some (some (D.int .i64 1)) | some false => findE LT 138 (.agg (rowS s)) (encM r) | none => none) = _
    rw [e]
    cases hb : (decide (s.ord = x.ord) && (s.drop == x.drop && true)) with
    | true => rw [if_pos (by rw [stp_eq hb]; simp)]
    | false =>
      have hn := stp_ne hb
      simp only [ih, List.mem_cons, hn, false_or]
theorem findM_new {s : Stp} {v : D} : ∀ {seen : List Stp}, s ∉ seen → findE LT 138 (.agg (rowS s)) (encM seen ++ [(D.agg (rowS s), v)]) = some (some v)
  | [], _ => by
    have e : eqD LT 138 (.agg (rowS s)) (.agg (rowS s)) = some (decide (s.ord = s.ord) && (s.drop == s.drop && true)) := rfl
    show (match eqD LT 138 (.agg (rowS s)) (.agg (rowS s)) with | some true => some (some v) | some false => some none | none => none) = _
    rw [e]
    simp
  | x :: r, h => by
    have ih := findM_new (v := v) (seen := r) (fun q => h (List.mem_cons_of_mem _ q))
    have e : eqD LT 138 (.agg (rowS s)) (.agg (rowS x)) = some (decide (s.ord = x.ord) && (s.drop == x.drop && true)) := rfl
    show (match eqD LT 138 (.agg (rowS s)) (.agg (rowS x)) with | some true => some (some (D.int .i64 1)) | some false => findE LT 138 (.agg (rowS s)) (encM r ++ [(D.agg (rowS s), v)]) | none => none) = _
    rw [e]
    cases hb : (decide (s.ord = x.ord) && (s.drop == x.drop && true)) with
    | true => exact absurd (by rw [stp_eq hb]; simp) h
    | false => exact ih
theorem findM_no {s : Stp} {seen : List Stp} (h : s ∉ seen) : findE LT 138 (.agg (rowS s)) (encM seen) = some none := by rw [findM, if_neg h]
theorem encM_snoc (seen : List Stp) (s : Stp) : (encM seen ++ [(D.agg (rowS s), D.int .i64 0)]).set (encM seen).length (D.agg (rowS s), D.int .i64 1) = encM (seen ++ [s]) := by
  rw [List.set_append_right _ _ (Nat.le_refl _), Nat.sub_self]
  simp [encM]
theorem stOK_at {seen l : List Stp} {i : Nat} (h : i < l.length) : stOK (seen ++ l.take i) (l.drop i) = (decide (1 ≤ l[i].ord ∧ l[i].ord ≤ 1000000 ∧ l[i] ∉ seen ++ l.take i) && stOK (seen ++ l.take (i + 1)) (l.drop (i + 1))) := by
  rw [List.drop_eq_getElem_cons h]
  show (_ && stOK (seen ++ l.take i ++ [l[i]]) (l.drop (i + 1))) = _
  rw [List.append_assoc, List.take_succ_eq_append_getElem h]
theorem rightG_at {last : Int} {seen : List Stp} {p : Pln} {i : Nat} (h : i < p.length) : rightG last seen (p.drop i) = (decide (hdOK last p[i]) && (stOK seen p[i].st && rightG p[i].drv (seen ++ p[i].st) (p.drop (i + 1)))) := by
  rw [List.drop_eq_getElem_cons h]
  rfl
noncomputable def sRi (p : Pln) (last : Int) (seen : List Stp) (i : Nat) : DS := ⟨[(3, .int .i64 last), (4, .map 0), (13, encP p), (14, .int .i64 (p.length : Int)), (15, .int .i64 (i : Int)), (2, .bool false)], [], [.map (encM seen)], mR 0⟩
noncomputable def sRj (p : Pln) (last : Int) (seen : List Stp) (l : List Stp) (i j : Nat) : DS := ⟨[(3, .int .i64 last), (4, .map 0), (13, encP p), (14, .int .i64 (p.length : Int)), (15, .int .i64 (i : Int)), (50, .list .imm (l.map rowS)), (51, .int .i64 (l.length : Int)), (52, .int .i64 (j : Int)), (2, .bool false)], [], [.map (encM seen)], mR 0⟩
set_option maxHeartbeats 8000000 in
theorem c_plan_Right_1 (p : Pln) : Tri Tryz.prog 123 0 [encP p] [] (fun d k => d = .bool (rightP p) ∧ (k = [] ∨ ∃ es, k = [.map es])) := by
  refine Tri.walk2 (L := LT) (c := {n := 78, ko := [2]}) [] [0, 2, 3, 4, 6, 8, 11, 13, 14, 15, 16, 46, 50, 51, 52, 53, 69] hLT hmix Tryz.func123 rfl rfl ⟨rfl, rfl⟩ (by show 1 ≤ 78; decide) (by first | exact Nat.zero_le _ | exact Nat.le_refl _ | exact Nat.le_succ 1 | decide) ?_
  unfold rightP
  refine And.intro (fun h0 => ?_) (fun h0 => ?_)
  · have h0 : ((p.map rowR).length : Int) > 8 := of_decide_eq_true h0
    rw [List.length_map] at h0
    rw [decide_eq_false (show ¬ p.length ≤ 8 by omega)]
    exact And.intro rfl (.inl rfl)
  · have h0 : ¬ ((p.map rowR).length : Int) > 8 := of_decide_eq_false h0
    rw [List.length_map] at h0
    have hp8 : p.length ≤ 8 := by omega
    rw [decide_eq_true hp8, Bool.true_and]
    show Ok _ _ _ _ _
    refine Ok.loopN hLT hmix [] [0, 2, 3, 4, 6, 8, 11, 13, 14, 15, 16, 46, 50, 51, 52, 53, 69] [3,4,13,14,15,2] [] (fun n s => ∃ (i : Nat) (last : Int) (seen : List Stp), n = p.length - i ∧ i ≤ p.length ∧ rightG last seen (p.drop i) = rightG 0 [] p ∧ s = sRi p last seen i) (n := p.length) ⟨0, 0, [], rfl, Nat.zero_le _, rfl, by unfold sRi; rw [← List.length_map (f := rowR)]; rfl⟩ ?_
    rintro n s ⟨i, last, seen, rfl, hi, hix, rfl⟩
    refine And.intro (fun h1 => ?_) (fun h1 => ?_)
    · have h1 : ((i : Nat) : Int) < (p.length : Int) := of_decide_eq_true h1
      have hw := wrap_succ (i := i) (n := p.length) (by omega) (by omega)
      rw [rightG_at (by omega)] at hix
      refine ⟨(p).map rowR, rowR ((p)[i]'(by omega)), rfl, by omega, row_at' rowR (p) (by omega) (by omega), rfl, of_decide_eq_true rfl, ?_⟩
      generalize p[i] = r at hix ⊢
      have bad : ¬ hdOK last r → false = rightG 0 [] p := fun h => by rw [← hix, decide_eq_false h]; rfl
      refine And.intro (fun q1 => ?_) (fun q1 => ?_)
      · repeat (first | refine And.intro (fun _ => ?_) (fun h => Bool.noConfusion h) | refine And.intro (fun h => Bool.noConfusion h) (fun _ => ?_))
        exact And.intro (congrArg D.bool (bad (fun h => absurd (of_decide_eq_true q1) (by exact Int.not_le.2 h.1)))) (.inr ⟨_, rfl⟩)
      repeat (first | refine And.intro (fun _ => ?_) (fun h => Bool.noConfusion h) | refine And.intro (fun h => Bool.noConfusion h) (fun _ => ?_))
      have q1 := of_decide_eq_false q1
      refine And.intro (fun q2 => ?_) (fun q2 => ?_)
      · repeat (first | refine And.intro (fun _ => ?_) (fun h => Bool.noConfusion h) | refine And.intro (fun h => Bool.noConfusion h) (fun _ => ?_))
        exact And.intro (congrArg D.bool (bad (fun h => absurd (of_decide_eq_true q2) (by exact Int.not_lt.2 h.2.1)))) (.inr ⟨_, rfl⟩)
      repeat (first | refine And.intro (fun _ => ?_) (fun h => Bool.noConfusion h) | refine And.intro (fun h => Bool.noConfusion h) (fun _ => ?_))
      have q2 := of_decide_eq_false q2
      refine And.intro (fun q3 => ?_) (fun q3 => ?_)
      · repeat (first | refine And.intro (fun _ => ?_) (fun h => Bool.noConfusion h) | refine And.intro (fun h => Bool.noConfusion h) (fun _ => ?_))
        exact And.intro (congrArg D.bool (bad (fun h => absurd (of_decide_eq_true q3) (by rw [List.length_map]; have := h.2.2.1; omega)))) (.inr ⟨_, rfl⟩)
      repeat (first | refine And.intro (fun _ => ?_) (fun h => Bool.noConfusion h) | refine And.intro (fun h => Bool.noConfusion h) (fun _ => ?_))
      have q3 := of_decide_eq_false q3
      refine And.intro (fun q4 => ?_) (fun q4 => ?_)
      · repeat (first | refine And.intro (fun _ => ?_) (fun h => Bool.noConfusion h) | refine And.intro (fun h => Bool.noConfusion h) (fun _ => ?_))
        exact And.intro (congrArg D.bool (bad (fun h => absurd (of_decide_eq_true q4) (by exact Int.not_lt.2 h.2.2.2.1)))) (.inr ⟨_, rfl⟩)
      repeat (first | refine And.intro (fun _ => ?_) (fun h => Bool.noConfusion h) | refine And.intro (fun h => Bool.noConfusion h) (fun _ => ?_))
      have q4 := of_decide_eq_false q4
      refine And.intro (fun q5 => ?_) (fun q5 => ?_)
      · repeat (first | refine And.intro (fun _ => ?_) (fun h => Bool.noConfusion h) | refine And.intro (fun h => Bool.noConfusion h) (fun _ => ?_))
        exact And.intro (congrArg D.bool (bad (fun h => absurd (of_decide_eq_true q5) (by rw [List.length_map]; exact Int.not_lt.2 h.2.2.2.2)))) (.inr ⟨_, rfl⟩)
      repeat (first | refine And.intro (fun _ => ?_) (fun h => Bool.noConfusion h) | refine And.intro (fun h => Bool.noConfusion h) (fun _ => ?_))
      have q5 := of_decide_eq_false q5
      rw [List.length_map] at q3 q5
      have hok : hdOK last r := ⟨by omega, by omega, by omega, by omega, by omega⟩
      rw [decide_eq_true hok, Bool.true_and] at hix
      show Ok _ _ _ _ _
      refine Ok.loopN hLT hmix [] [0, 2, 3, 4, 6, 8, 11, 13, 14, 15, 16, 46, 50, 51, 52, 53, 69] [3,4,13,14,15,50,51,52,2] [] (fun n s => ∃ (j : Nat), n = r.st.length - j ∧ j ≤ r.st.length ∧ (stOK (seen ++ r.st.take j) (r.st.drop j) && rightG r.drv (seen ++ r.st) (p.drop (i + 1))) = rightG 0 [] p ∧ s = sRj p r.drv (seen ++ r.st.take j) r.st i j) (n := r.st.length) ⟨0, rfl, Nat.zero_le _, by rw [List.take_zero, List.append_nil]; exact hix, by rw [List.take_zero, List.append_nil]; unfold sRj; rw [← List.length_map (f := rowS)]; rfl⟩ ?_
      rintro n s ⟨j, rfl, hj, hjx, rfl⟩
      refine And.intro (fun g1 => ?_) (fun g1 => ?_)
      · have g1 : ((j : Nat) : Int) < (r.st.length : Int) := of_decide_eq_true g1
        have hwj := wrap_succ (i := j) (n := r.st.length) (by omega) (by omega)
        rw [stOK_at (by omega)] at hjx
        have htk : seen ++ r.st.take (j + 1) = seen ++ r.st.take j ++ [r.st[j]] := by
          rw [List.append_assoc, List.take_succ_eq_append_getElem (by omega)]
        rw [htk] at hjx
        refine ⟨(r.st).map rowS, rowS ((r.st)[j]'(by omega)), rfl, by omega, row_at' rowS (r.st) (by omega) (by omega), rfl, of_decide_eq_true rfl, ?_⟩
        generalize r.st[j] = x at hjx htk ⊢
        generalize seen ++ r.st.take j = sn at hjx htk ⊢
        have badx : ¬ (1 ≤ x.ord ∧ x.ord ≤ 1000000 ∧ x ∉ sn) → false = rightG 0 [] p := fun h => by rw [← hjx, decide_eq_false h]; rfl
        refine And.intro (fun w1 => ?_) (fun w1 => ?_)
        · repeat (first | refine And.intro (fun _ => ?_) (fun h => Bool.noConfusion h) | refine And.intro (fun h => Bool.noConfusion h) (fun _ => ?_))
          exact And.intro (congrArg D.bool (badx (fun h => absurd (of_decide_eq_true w1) (by have := h.1; omega)))) (.inr ⟨_, rfl⟩)
        repeat (first | refine And.intro (fun _ => ?_) (fun h => Bool.noConfusion h) | refine And.intro (fun h => Bool.noConfusion h) (fun _ => ?_))
        have w1 := of_decide_eq_false w1
        refine And.intro (fun w2 => ?_) (fun w2 => ?_)
        · repeat (first | refine And.intro (fun _ => ?_) (fun h => Bool.noConfusion h) | refine And.intro (fun h => Bool.noConfusion h) (fun _ => ?_))
          exact And.intro (congrArg D.bool (badx (fun h => absurd (of_decide_eq_true w2) (by have := h.2.1; omega)))) (.inr ⟨_, rfl⟩)
        repeat (first | refine And.intro (fun _ => ?_) (fun h => Bool.noConfusion h) | refine And.intro (fun h => Bool.noConfusion h) (fun _ => ?_))
        have w2 := of_decide_eq_false w2
        refine And.intro rfl ⟨_, findM x sn, ?_⟩
        by_cases hm : x ∈ sn
        · rw [if_pos hm]
          repeat (first | refine And.intro (fun _ => ?_) (fun h => Bool.noConfusion h) | refine And.intro (fun h => Bool.noConfusion h) (fun _ => ?_))
          exact And.intro (congrArg D.bool (badx (fun h => h.2.2 hm))) (.inr ⟨_, rfl⟩)
        · rw [if_neg hm]
          repeat (first | refine And.intro (fun _ => ?_) (fun h => Bool.noConfusion h) | refine And.intro (fun h => Bool.noConfusion h) (fun _ => ?_))
          have hxok : 1 ≤ x.ord ∧ x.ord ≤ 1000000 ∧ x ∉ sn := ⟨by omega, by omega, hm⟩
          rw [decide_eq_true hxok, Bool.true_and] at hjx
          refine ⟨⟨63, [0, 0, 3, 4, 3, 16, 63], [1, 2, 7, 15, 19, 51, 127]⟩, by kernel_rfl, ?_⟩
          refine And.intro rfl ⟨_, findM x sn, ?_⟩
          rw [if_neg hm]
          refine And.intro rfl ?_
          refine And.intro ?_ trivial
          refine mapEntry_new rfl rfl rfl rfl rfl rfl rfl (findM_no hm) rfl ?_
          refine And.intro (And.intro ⟨rfl, rfl⟩ (And.intro ⟨rfl, _, findM_new hm, And.intro rfl (And.intro rfl rfl)⟩ trivial)) ?_
          refine And.intro ?_ trivial
          refine entryStore_any rfl rfl rfl rfl rfl rfl List.getElem?_concat_length ?_
          refine And.intro trivial ?_
          refine ⟨r.st.length - (j + 1), by omega, j + 1, rfl, by omega, by rw [htk]; exact hjx, ?_⟩
          unfold sRj
          rw [htk, ← encM_snoc, ← hwj]
          rfl
      · have g1 : ¬ ((j : Nat) : Int) < (r.st.length : Int) := of_decide_eq_false g1
        rw [List.drop_eq_nil_of_le (by omega)] at hjx
        have hjx : rightG r.drv (seen ++ r.st) (p.drop (i + 1)) = rightG 0 [] p := hjx
        rw [List.take_of_length_le (by omega)]
        refine ⟨p.length - (i + 1), by omega, i + 1, r.drv, seen ++ r.st, rfl, by omega, hjx, ?_⟩
        unfold sRi
        rw [← hw]
        rfl
    · have h1 : ¬ ((i : Nat) : Int) < (p.length : Int) := of_decide_eq_false h1
      rw [List.drop_eq_nil_of_le (by omega)] at hix
      rw [← hix]
      exact And.intro rfl (.inr ⟨_, rfl⟩)
theorem c_plan_Right_0 (p : Pln) : Tri Tryz.prog 123 0 [encP p] [] (fun d k => d = .bool (rightP p) ∧ k = []) :=
  Tri.forget (c_plan_Right_1 p) (fun d l h _ => ⟨0, Nat.zero_le _, Nat.zero_le _, by rw [h.1]; exact .bool _, fun o ho => absurd ho (by simp), h.1, rfl⟩)
theorem c_plan_Right (p : Pln) {r : Nat} {sto : List Ob} (hr : r ≤ sto.length) : Tri Tryz.prog 123 r [encP p] sto (fun d k => d = .bool (rightP p) ∧ k = sto) :=
  (c_plan_Right_0 p).pure rfl (nrBL_P rfl) rfl rfl hr
end Go.Lv

namespace Go.Lv
open Go.Proofs

structure Win where
  lo : Int
  hi : Int
  deriving DecidableEq
structure Sit where
  place : Int
  w : Win
  serv : Int
  deriving DecidableEq
structure Ord where
  id : Int
  size : Int
  pick : Sit
  drop : Sit
  deriving DecidableEq
structure Drv where
  id : Int
  room : Int
  home : Int
  w : Win
  ret : Bool
  deriving DecidableEq
structure Mp where
  n : Int
  l : List Int
  deriving DecidableEq
structure okMp (m : Mp) : Prop where
  n1 : 1 ≤ m.n
  n12 : m.n ≤ 12
  len : (m.l.length : Int) = m.n * m.n
  t : ∀ x, x ∈ m.l → 0 ≤ x ∧ x ≤ 1000000
noncomputable def rowW (w : Win) : List D := [.int .i64 w.lo, .int .i64 w.hi]
noncomputable def rowSi (s : Sit) : List D := [.int .i64 s.place, .int .i64 s.w.lo, .int .i64 s.w.hi, .int .i64 s.serv]
noncomputable def rowO (o : Ord) : List D := [.int .i64 o.id, .int .i64 o.size, .int .i64 o.pick.place, .int .i64 o.pick.w.lo, .int .i64 o.pick.w.hi, .int .i64 o.pick.serv, .int .i64 o.drop.place, .int .i64 o.drop.w.lo, .int .i64 o.drop.w.hi, .int .i64 o.drop.serv]
noncomputable def rowDr (d : Drv) : List D := [.int .i64 d.id, .int .i64 d.room, .int .i64 d.home, .int .i64 d.w.lo, .int .i64 d.w.hi, .bool d.ret]
noncomputable def mcs (m : Mp) : List D := [.int .i64 m.n, .list .imm (m.l.map rowI)]
noncomputable def mbox (m : Mp) : Ob := .box (mcs m)
noncomputable def encOs (os : List Ord) : D := .list .imm (os.map rowO)
noncomputable def encDs (ds : List Drv) : D := .list .imm (ds.map rowDr)
theorem nrBLL_O : ∀ l : List Ord, nrBLL 0 (l.map rowO) = true
  | [] => rfl
  | b :: r => by
    show (nrBL 0 (rowO b) && nrBLL 0 (r.map rowO)) = true
    rw [nrBLL_O r]
    rfl
theorem nrBLL_Dr : ∀ l : List Drv, nrBLL 0 (l.map rowDr) = true
  | [] => rfl
  | b :: r => by
    show (nrBL 0 (rowDr b) && nrBLL 0 (r.map rowDr)) = true
    rw [nrBLL_Dr r]
    rfl
theorem nrBL_O {l : List Ord} {ds : List D} (hd : nrBL 0 ds = true) : nrBL 0 (encOs l :: ds) = true := by
  show (nrBLL 0 (l.map rowO) && nrBL 0 ds) = true
  rw [nrBLL_O, hd]
  rfl
theorem nrBL_Dr {l : List Drv} {ds : List D} (hd : nrBL 0 ds = true) : nrBL 0 (encDs l :: ds) = true := by
  show (nrBLL 0 (l.map rowDr) && nrBL 0 ds) = true
  rw [nrBLL_Dr, hd]
  rfl
theorem nr_mcs (m : Mp) : nrBL 0 (mcs m) = true := by
  show (nrBLL 0 (m.l.map rowI) && true) = true
  rw [nrBLL_I]
  rfl
theorem nrBL_up {k : Nat} {ds : List D} (h : nrBL 0 ds = true) (x : D) (hx : x ∈ ds) : NR k x := (nrBL_nr h x hx).up (Nat.zero_le _)
theorem Tri.boxRO {P : Program} {f : Nat} {cs : List D} {args : List D} {R : D → Prop} (h : Tri P f 1 (.gptr 0 0 :: args) [.box cs] (fun d l => R d ∧ l = [.box cs])) (hc : nrBL 0 cs = true) (ha : args.all cellsOK = true) (hn : nrBL 0 args = true) (hd : ∀ d, R d → partsOK d = true ∧ nrB 0 d = true)
    {r b : Nat} {sto : List Ob} (hr : r ≤ sto.length) (hb : sto[b]? = some (.box cs)) (hbr : b < r) : Tri P f r (.gptr b 0 :: args) sto (fun d l => R d ∧ l = sto) := by
  have := Tri.ren (r := r) (sto := sto) (fun _ => b) h (fun i j hi hj e => by
      have hi : i < 1 := hi
      have hj : j < 1 := hj
      omega) (fun i o hi => by
      match i, hi with
      | 0, hi =>
        simp at hi
        subst hi
        show _ = some (Ob.box (renL _ cs))
        rw [renL_id _ hc]
        exact hb
      | i + 1, hi => simp at hi) (fun i hi => by
      have hi : i < 1 := hi
      exact ⟨fun _ => hbr, fun _ => by omega⟩) hr (by show (true && args.all cellsOK) = true; rw [ha]; rfl) (fun x hx => by
      rcases List.mem_cons.1 hx with e | hx
      · rw [e]; exact .gptr _ _ (by show 0 < 1; omega)
      · exact nrBL_up hn x hx) (fun o ho => by
      have : o = .box cs := by simpa using ho
      rw [this]
      exact fun x hx => nrBL_up hc x hx) rfl (fun d l ⟨h1, h2⟩ => by subst h2; exact ⟨(hd _ h1).1, rfl⟩)
  rw [show renL (fun _ => b) (.gptr 0 0 :: args) = .gptr b 0 :: args by show D.gptr b 0 :: renL _ args = _; rw [renL_id _ hn]] at this
  refine this.mono fun d l ⟨d1, l1, ⟨h1, h2⟩, h3, h4⟩ => ?_
  subst h2
  refine ⟨by rw [h3, renD_id _ (hd _ h1).2]; exact h1, ?_⟩
  rw [h4]
  show (sto.set b (.box (renL _ cs))) ++ [] = sto
  rw [renL_id _ hc, List.append_nil]
  apply List.ext_getElem?
  intro i
  rw [List.getElem?_set]
  split
  · rename_i e
    subst e
    rw [if_pos (List.getElem?_eq_some_iff.1 hb).1, hb]
  · rfl

noncomputable def rightW (w : Win) : Bool := decide (0 ≤ w.lo ∧ w.lo ≤ w.hi ∧ w.hi ≤ 1000000)
theorem idx_lt {n a b : Int} (h1 : 0 ≤ a) (h2 : 0 ≤ b) (h3 : a < n) (h4 : b < n) : 0 ≤ a * n + b ∧ a * n + b < n * n := by
  have h5 : 0 ≤ a * n := Int.mul_nonneg h1 (by omega)
  have h6 : a * n ≤ (n - 1) * n := Int.mul_le_mul_of_nonneg_right (by omega) (by omega)
  rw [Int.sub_mul] at h6
  omega
end Go.Lv

namespace Go.Lv
open Go.Proofs

theorem rightW_t {w : Win} (h1 : 0 ≤ w.lo) (h2 : w.lo ≤ w.hi) (h3 : w.hi ≤ 1000000) : rightW w = true := decide_eq_true ⟨h1, h2, h3⟩
theorem rightW_f {w : Win} (h : ¬ (0 ≤ w.lo ∧ w.lo ≤ w.hi ∧ w.hi ≤ 1000000)) : rightW w = false := decide_eq_false h
set_option maxHeartbeats 2000000 in
theorem c_span_Right_0 (w : Win) : Tri Tryz.prog 107 0 [.agg (rowW w)] [] (fun d k => d = .bool (rightW w) ∧ k = []) := by
  refine Tri.walk2 (L := LT) (c := {n := 18, ko := [2]}) [] [0, 1, 2] hLT hmix Tryz.func107 rfl rfl ⟨rfl, rfl⟩ (by show 1 ≤ 18; decide) (by first | exact Nat.zero_le _ | exact Nat.le_refl _ | exact Nat.le_succ 1 | decide) ?_
  refine And.intro (fun h1 => ?_) (fun h1 => ?_)
  · have h1 := of_decide_eq_true h1
    repeat (first | refine And.intro (fun _ => ?_) (fun h => Bool.noConfusion h) | refine And.intro (fun h => Bool.noConfusion h) (fun _ => ?_))
    refine And.intro (fun h2 => ?_) (fun h2 => ?_)
    · have h2 := of_decide_eq_true h2
      repeat (first | refine And.intro (fun _ => ?_) (fun h => Bool.noConfusion h) | refine And.intro (fun h => Bool.noConfusion h) (fun _ => ?_))
      refine And.intro (fun h3 => ?_) (fun h3 => ?_)
      · rw [rightW_t h1 h2 (of_decide_eq_true h3)]
        exact And.intro rfl rfl
      · rw [rightW_f (fun h => of_decide_eq_false h3 h.2.2)]
        exact And.intro rfl rfl
    · repeat (first | refine And.intro (fun _ => ?_) (fun h => Bool.noConfusion h) | refine And.intro (fun h => Bool.noConfusion h) (fun _ => ?_))
      rw [rightW_f (fun h => of_decide_eq_false h2 h.2.1)]
      exact And.intro rfl rfl
  · repeat (first | refine And.intro (fun _ => ?_) (fun h => Bool.noConfusion h) | refine And.intro (fun h => Bool.noConfusion h) (fun _ => ?_))
    rw [rightW_f (fun h => of_decide_eq_false h1 h.1)]
    exact And.intro rfl rfl
theorem c_span_Right (w : Win) {r : Nat} {sto : List Ob} (hr : r ≤ sto.length) : Tri Tryz.prog 107 r [.agg (rowW w)] sto (fun d k => d = .bool (rightW w) ∧ k = sto) :=
  (c_span_Right_0 w).pure rfl rfl rfl rfl hr
theorem okMp.at {m : Mp} (hm : okMp m) {a b : Int} (h1 : 0 ≤ a) (h2 : 0 ≤ b) (h3 : a < m.n) (h4 : b < m.n) : 0 ≤ a * m.n + b ∧ (a * m.n + b).toNat < m.l.length ∧ a * m.n ≤ 144 ∧ 0 ≤ a * m.n ∧ IntKind.i64.wrap (IntKind.i64.wrap (a * m.n) + b) = (((a * m.n + b).toNat : Nat) : Int) := by
  have h5 := idx_lt h1 h2 h3 h4
  have h6 := hm.len
  have h7 : 0 ≤ a * m.n := Int.mul_nonneg h1 (by omega)
  have h8 : m.n * m.n ≤ 12 * 12 := Int.mul_le_mul hm.n12 hm.n12 (by have := hm.n1; omega) (by decide)
  have h9 := hm.n12
  refine ⟨h5.1, by omega, by omega, h7, ?_⟩
  rw [wrap64 (z := a * m.n) (by omega) (by omega), wrap64 (by omega) (by omega)]
  omega
end Go.Lv

namespace Go.Lv
open Go.Proofs

noncomputable def errO (n : Int) (o : Ord) : Int :=
  if ¬ (1 ≤ o.id ∧ o.id ≤ 1000000) then 1 else
  if ¬ (1 ≤ o.size ∧ o.size ≤ 1000) then 14 else
  if ¬ ((0 ≤ o.pick.place ∧ o.pick.place < n) ∧ (0 ≤ o.drop.place ∧ o.drop.place < n)) then 12 else
  if ¬ ((0 ≤ o.pick.w.lo ∧ o.pick.w.lo ≤ o.pick.w.hi ∧ o.pick.w.hi ≤ 1000000) ∧ (0 ≤ o.drop.w.lo ∧ o.drop.w.lo ≤ o.drop.w.hi ∧ o.drop.w.hi ≤ 1000000)) then 13 else
  if ¬ ((0 ≤ o.pick.serv ∧ o.pick.serv ≤ 1000000) ∧ (0 ≤ o.drop.serv ∧ o.drop.serv ≤ 1000000)) then 7 else 0
noncomputable def errD (n : Int) (d : Drv) : Int :=
  if ¬ (1 ≤ d.id ∧ d.id ≤ 1000000) then 1 else
  if ¬ (1 ≤ d.room ∧ d.room ≤ 1000) then 14 else
  if ¬ (0 ≤ d.home ∧ d.home < n) then 12 else
  if ¬ (0 ≤ d.w.lo ∧ d.w.lo ≤ d.w.hi ∧ d.w.hi ≤ 1000000) then 13 else 0
theorem c_deal_within_0 (n lo hi : Int) : Tri Tryz.prog 105 0 [.int .i64 n, .int .i64 lo, .int .i64 hi] [] (fun d k => d = .bool (decide (lo ≤ n ∧ n ≤ hi)) ∧ k = []) := by
  refine Tri.walk2 (L := LT) (c := {n := 15, ko := [6]}) [] [0, 1, 2, 6] hLT hmix Tryz.func105 rfl rfl ⟨rfl, rfl⟩ (by show 3 ≤ 15; decide) (by first | exact Nat.zero_le _ | exact Nat.le_refl _ | exact Nat.le_succ 1 | decide) ?_
  refine And.intro (fun h1 => ?_) (fun h1 => ?_)
  · have h1 := of_decide_eq_true h1
    repeat (first | refine And.intro (fun _ => ?_) (fun h => Bool.noConfusion h) | refine And.intro (fun h => Bool.noConfusion h) (fun _ => ?_))
    refine And.intro (fun h2 => ?_) (fun h2 => ?_)
    · rw [decide_eq_true (show lo ≤ n ∧ n ≤ hi from ⟨h1, of_decide_eq_true h2⟩)]
      exact And.intro rfl rfl
    · rw [decide_eq_false (show ¬ (lo ≤ n ∧ n ≤ hi) from fun h => of_decide_eq_false h2 h.2)]
      exact And.intro rfl rfl
  · repeat (first | refine And.intro (fun _ => ?_) (fun h => Bool.noConfusion h) | refine And.intro (fun h => Bool.noConfusion h) (fun _ => ?_))
    rw [decide_eq_false (show ¬ (lo ≤ n ∧ n ≤ hi) from fun h => of_decide_eq_false h1 h.1)]
    exact And.intro rfl rfl
theorem c_deal_within (n lo hi : Int) {r : Nat} {sto : List Ob} (hr : r ≤ sto.length) : Tri Tryz.prog 105 r [.int .i64 n, .int .i64 lo, .int .i64 hi] sto (fun d k => d = .bool (decide (lo ≤ n ∧ n ≤ hi)) ∧ k = sto) :=
  (c_deal_within_0 n lo hi).pure rfl rfl rfl rfl hr
theorem c_geo_Places_0 (m : Mp) : Tri Tryz.prog 14 1 [.gptr 0 0] [mbox m] (fun d k => d = .int .i64 m.n ∧ k = [mbox m]) := by
  refine Tri.walk2 (L := LT) (c := {n := 9, ko := [2]}) [] [0, 2, 4] hLT hmix Tryz.func14 rfl rfl ⟨rfl, rfl⟩ (by show 1 ≤ 9; decide) (by first | exact Nat.zero_le _ | exact Nat.le_refl _ | exact Nat.le_succ 1 | decide) ?_
  repeat (first | refine And.intro (fun _ => ?_) (fun h => Bool.noConfusion h) | refine And.intro (fun h => Bool.noConfusion h) (fun _ => ?_))
  exact And.intro rfl rfl
theorem c_geo_Places (m : Mp) {r b : Nat} {sto : List Ob} (hr : r ≤ sto.length) (hb : sto[b]? = some (mbox m)) (hbr : b < r) : Tri Tryz.prog 14 r [.gptr b 0] sto (fun d k => d = .int .i64 m.n ∧ k = sto) :=
  (c_geo_Places_0 m).boxRO (nr_mcs m) rfl rfl (fun d h => by subst h; exact ⟨rfl, rfl⟩) hr hb hbr
theorem c_deal_place_0 (m : Mp) (hm : okMp m) (p : Int) : Tri Tryz.prog 106 1 [.gptr 0 0, .int .i64 p] [mbox m] (fun d k => d = .bool (decide (0 ≤ p ∧ p < m.n)) ∧ k = [mbox m]) := by
  refine Tri.walk2 (L := LT) (c := {n := 10, ko := [4]}) [] [0, 1, 4] hLT hmix Tryz.func106 rfl rfl ⟨rfl, rfl⟩ (by show 2 ≤ 10; decide) (by first | exact Nat.zero_le _ | exact Nat.le_refl _ | exact Nat.le_succ 1 | decide) ?_
  refine ⟨rfl, (by first | exact Nat.zero_le _ | exact Nat.le_refl _ | exact Nat.le_succ 1 | decide), (c_geo_Places m (r := 1) (sto := [mbox m]) (Nat.le_refl 1) rfl (Nat.lt_succ_self 0)).mono ?_⟩
  rintro d l ⟨rfl, rfl⟩
  refine ⟨rfl, fun _ _ => rfl, rfl, ?_⟩
  refine ⟨rfl, (by first | exact Nat.zero_le _ | exact Nat.le_refl _ | exact Nat.le_succ 1 | decide), (c_deal_within p 0 (IntKind.i64.wrap (m.n - 1)) (r := 1) (sto := [mbox m]) (Nat.le_refl 1)).mono ?_⟩
  rintro d l ⟨rfl, rfl⟩
  refine ⟨rfl, fun _ _ => rfl, rfl, ?_⟩
  rw [wrap64 (by have := hm.n1; omega) (by have := hm.n12; omega), show decide (0 ≤ p ∧ p ≤ m.n - 1) = decide (0 ≤ p ∧ p < m.n) from decide_eq_decide.2 (by omega)]
  exact And.intro rfl rfl
theorem c_deal_place (m : Mp) (hm : okMp m) (p : Int) {r b : Nat} {sto : List Ob} (hr : r ≤ sto.length) (hb : sto[b]? = some (mbox m)) (hbr : b < r) : Tri Tryz.prog 106 r [.gptr b 0, .int .i64 p] sto (fun d k => d = .bool (decide (0 ≤ p ∧ p < m.n)) ∧ k = sto) :=
  (c_deal_place_0 m hm p).boxRO (nr_mcs m) rfl rfl (fun d h => by subst h; exact ⟨rfl, rfl⟩) hr hb hbr
set_option maxHeartbeats 4000000 in
theorem c_deal_Order_0 (m : Mp) (hm : okMp m) (o : Ord) : Tri Tryz.prog 100 1 [.gptr 0 0, .agg (rowO o)] [mbox m] (fun d k => d = .int .i64 (errO m.n o) ∧ k = [mbox m]) := by
  refine Tri.walk2 (L := LT) (c := {n := 55, ko := [4]}) [] [0, 1, 3, 4, 12, 16, 30, 42, 54] hLT hmix Tryz.func100 rfl rfl ⟨rfl, rfl⟩ (by show 2 ≤ 55; decide) (by first | exact Nat.zero_le _ | exact Nat.le_refl _ | exact Nat.le_succ 1 | decide) ?_
  repeat (first | refine And.intro (fun _ => ?_) (fun h => Bool.noConfusion h) | refine And.intro (fun h => Bool.noConfusion h) (fun _ => ?_))
  -- step
  refine ⟨rfl, (by first | exact Nat.zero_le _ | exact Nat.le_refl _ | exact Nat.le_succ 1 | decide), (c_deal_within o.id 1 1000000 (r := 1) (sto := [mbox m]) (Nat.le_refl 1)).mono ?_⟩
  rintro d l ⟨rfl, rfl⟩
  refine ⟨rfl, fun _ _ => rfl, rfl, ?_⟩
  cases h0 : decide (1 ≤ o.id ∧ o.id ≤ 1000000)
  · (repeat (first | refine And.intro (fun _ => ?_) (fun h => Bool.noConfusion h) | refine And.intro (fun h => Bool.noConfusion h) (fun _ => ?_)))
    simp only [rightW, Bool.not_eq_true', Bool.not_eq_false', decide_eq_true_eq, decide_eq_false_iff_not] at *
    unfold errO
    repeat (first | rw [if_pos (by omega)] | rw [if_neg (by omega)])
    exact And.intro rfl rfl
  repeat (first | refine And.intro (fun _ => ?_) (fun h => Bool.noConfusion h) | refine And.intro (fun h => Bool.noConfusion h) (fun _ => ?_))
  -- step
  refine ⟨rfl, (by first | exact Nat.zero_le _ | exact Nat.le_refl _ | exact Nat.le_succ 1 | decide), (c_deal_within o.size 1 1000 (r := 1) (sto := [mbox m]) (Nat.le_refl 1)).mono ?_⟩
  rintro d l ⟨rfl, rfl⟩
  refine ⟨rfl, fun _ _ => rfl, rfl, ?_⟩
  cases h1 : decide (1 ≤ o.size ∧ o.size ≤ 1000)
  · (repeat (first | refine And.intro (fun _ => ?_) (fun h => Bool.noConfusion h) | refine And.intro (fun h => Bool.noConfusion h) (fun _ => ?_)))
    simp only [rightW, Bool.not_eq_true', Bool.not_eq_false', decide_eq_true_eq, decide_eq_false_iff_not] at *
    unfold errO
    repeat (first | rw [if_pos (by omega)] | rw [if_neg (by omega)])
    exact And.intro rfl rfl
  repeat (first | refine And.intro (fun _ => ?_) (fun h => Bool.noConfusion h) | refine And.intro (fun h => Bool.noConfusion h) (fun _ => ?_))
  -- step
  refine ⟨rfl, (by first | exact Nat.zero_le _ | exact Nat.le_refl _ | exact Nat.le_succ 1 | decide), (c_deal_place m hm o.pick.place (r := 1) (sto := [mbox m]) (Nat.le_refl 1) rfl (Nat.lt_succ_self 0)).mono ?_⟩
  rintro d l ⟨rfl, rfl⟩
  refine ⟨rfl, fun _ _ => rfl, rfl, ?_⟩
  cases h2 : decide (0 ≤ o.pick.place ∧ o.pick.place < m.n)
  · (repeat (first | refine And.intro (fun _ => ?_) (fun h => Bool.noConfusion h) | refine And.intro (fun h => Bool.noConfusion h) (fun _ => ?_)))
    simp only [rightW, Bool.not_eq_true', Bool.not_eq_false', decide_eq_true_eq, decide_eq_false_iff_not] at *
    unfold errO
    repeat (first | rw [if_pos (by omega)] | rw [if_neg (by omega)])
    exact And.intro rfl rfl
  repeat (first | refine And.intro (fun _ => ?_) (fun h => Bool.noConfusion h) | refine And.intro (fun h => Bool.noConfusion h) (fun _ => ?_))
  -- step
  refine ⟨rfl, (by first | exact Nat.zero_le _ | exact Nat.le_refl _ | exact Nat.le_succ 1 | decide), (c_deal_place m hm o.drop.place (r := 1) (sto := [mbox m]) (Nat.le_refl 1) rfl (Nat.lt_succ_self 0)).mono ?_⟩
  rintro d l ⟨rfl, rfl⟩
  refine ⟨rfl, fun _ _ => rfl, rfl, ?_⟩
  cases h3 : decide (0 ≤ o.drop.place ∧ o.drop.place < m.n)
  · (repeat (first | refine And.intro (fun _ => ?_) (fun h => Bool.noConfusion h) | refine And.intro (fun h => Bool.noConfusion h) (fun _ => ?_)))
    simp only [rightW, Bool.not_eq_true', Bool.not_eq_false', decide_eq_true_eq, decide_eq_false_iff_not] at *
    unfold errO
    repeat (first | rw [if_pos (by omega)] | rw [if_neg (by omega)])
    exact And.intro rfl rfl
  repeat (first | refine And.intro (fun _ => ?_) (fun h => Bool.noConfusion h) | refine And.intro (fun h => Bool.noConfusion h) (fun _ => ?_))
  -- step
  refine ⟨rfl, (by first | exact Nat.zero_le _ | exact Nat.le_refl _ | exact Nat.le_succ 1 | decide), (c_span_Right o.pick.w (r := 1) (sto := [mbox m]) (Nat.le_refl 1)).mono ?_⟩
  rintro d l ⟨rfl, rfl⟩
  refine ⟨rfl, fun _ _ => rfl, rfl, ?_⟩
  cases h4 : rightW o.pick.w
  · (repeat (first | refine And.intro (fun _ => ?_) (fun h => Bool.noConfusion h) | refine And.intro (fun h => Bool.noConfusion h) (fun _ => ?_)))
    simp only [rightW, Bool.not_eq_true', Bool.not_eq_false', decide_eq_true_eq, decide_eq_false_iff_not] at *
    unfold errO
    repeat (first | rw [if_pos (by omega)] | rw [if_neg (by omega)])
    exact And.intro rfl rfl
  repeat (first | refine And.intro (fun _ => ?_) (fun h => Bool.noConfusion h) | refine And.intro (fun h => Bool.noConfusion h) (fun _ => ?_))
  -- step
  refine ⟨rfl, (by first | exact Nat.zero_le _ | exact Nat.le_refl _ | exact Nat.le_succ 1 | decide), (c_span_Right o.drop.w (r := 1) (sto := [mbox m]) (Nat.le_refl 1)).mono ?_⟩
  rintro d l ⟨rfl, rfl⟩
  refine ⟨rfl, fun _ _ => rfl, rfl, ?_⟩
  cases h5 : rightW o.drop.w
  · (repeat (first | refine And.intro (fun _ => ?_) (fun h => Bool.noConfusion h) | refine And.intro (fun h => Bool.noConfusion h) (fun _ => ?_)))
    simp only [rightW, Bool.not_eq_true', Bool.not_eq_false', decide_eq_true_eq, decide_eq_false_iff_not] at *
    unfold errO
    repeat (first | rw [if_pos (by omega)] | rw [if_neg (by omega)])
    exact And.intro rfl rfl
  repeat (first | refine And.intro (fun _ => ?_) (fun h => Bool.noConfusion h) | refine And.intro (fun h => Bool.noConfusion h) (fun _ => ?_))
  -- step
  refine ⟨rfl, (by first | exact Nat.zero_le _ | exact Nat.le_refl _ | exact Nat.le_succ 1 | decide), (c_deal_within o.pick.serv 0 1000000 (r := 1) (sto := [mbox m]) (Nat.le_refl 1)).mono ?_⟩
  rintro d l ⟨rfl, rfl⟩
  refine ⟨rfl, fun _ _ => rfl, rfl, ?_⟩
  cases h6 : decide (0 ≤ o.pick.serv ∧ o.pick.serv ≤ 1000000)
  · (repeat (first | refine And.intro (fun _ => ?_) (fun h => Bool.noConfusion h) | refine And.intro (fun h => Bool.noConfusion h) (fun _ => ?_)))
    simp only [rightW, Bool.not_eq_true', Bool.not_eq_false', decide_eq_true_eq, decide_eq_false_iff_not] at *
    unfold errO
    repeat (first | rw [if_pos (by omega)] | rw [if_neg (by omega)])
    exact And.intro rfl rfl
  repeat (first | refine And.intro (fun _ => ?_) (fun h => Bool.noConfusion h) | refine And.intro (fun h => Bool.noConfusion h) (fun _ => ?_))
  -- step
  refine ⟨rfl, (by first | exact Nat.zero_le _ | exact Nat.le_refl _ | exact Nat.le_succ 1 | decide), (c_deal_within o.drop.serv 0 1000000 (r := 1) (sto := [mbox m]) (Nat.le_refl 1)).mono ?_⟩
  rintro d l ⟨rfl, rfl⟩
  refine ⟨rfl, fun _ _ => rfl, rfl, ?_⟩
  cases h7 : decide (0 ≤ o.drop.serv ∧ o.drop.serv ≤ 1000000)
  · (repeat (first | refine And.intro (fun _ => ?_) (fun h => Bool.noConfusion h) | refine And.intro (fun h => Bool.noConfusion h) (fun _ => ?_)))
    simp only [rightW, Bool.not_eq_true', Bool.not_eq_false', decide_eq_true_eq, decide_eq_false_iff_not] at *
    unfold errO
    repeat (first | rw [if_pos (by omega)] | rw [if_neg (by omega)])
    exact And.intro rfl rfl
  repeat (first | refine And.intro (fun _ => ?_) (fun h => Bool.noConfusion h) | refine And.intro (fun h => Bool.noConfusion h) (fun _ => ?_))
  simp only [rightW, Bool.not_eq_true', Bool.not_eq_false', decide_eq_true_eq, decide_eq_false_iff_not] at *
  unfold errO
  repeat (first | rw [if_pos (by omega)] | rw [if_neg (by omega)])
  exact And.intro rfl rfl
theorem c_deal_Order (m : Mp) (hm : okMp m) (o : Ord) {r b : Nat} {sto : List Ob} (hr : r ≤ sto.length) (hb : sto[b]? = some (mbox m)) (hbr : b < r) : Tri Tryz.prog 100 r [.gptr b 0, .agg (rowO o)] sto (fun d k => d = .int .i64 (errO m.n o) ∧ k = sto) :=
  (c_deal_Order_0 m hm o).boxRO (nr_mcs m) rfl rfl (fun d h => by subst h; exact ⟨rfl, rfl⟩) hr hb hbr
set_option maxHeartbeats 4000000 in
theorem c_deal_Driver_0 (m : Mp) (hm : okMp m) (e : Drv) : Tri Tryz.prog 59 1 [.gptr 0 0, .agg (rowDr e)] [mbox m] (fun d k => d = .int .i64 (errD m.n e) ∧ k = [mbox m]) := by
  refine Tri.walk2 (L := LT) (c := {n := 26, ko := [4]}) [] [0, 1, 3, 4, 12, 16, 21, 25] hLT hmix Tryz.func59 rfl rfl ⟨rfl, rfl⟩ (by show 2 ≤ 26; decide) (by first | exact Nat.zero_le _ | exact Nat.le_refl _ | exact Nat.le_succ 1 | decide) ?_
  repeat (first | refine And.intro (fun _ => ?_) (fun h => Bool.noConfusion h) | refine And.intro (fun h => Bool.noConfusion h) (fun _ => ?_))
  -- step
  refine ⟨rfl, (by first | exact Nat.zero_le _ | exact Nat.le_refl _ | exact Nat.le_succ 1 | decide), (c_deal_within e.id 1 1000000 (r := 1) (sto := [mbox m]) (Nat.le_refl 1)).mono ?_⟩
  rintro d l ⟨rfl, rfl⟩
  refine ⟨rfl, fun _ _ => rfl, rfl, ?_⟩
  cases h0 : decide (1 ≤ e.id ∧ e.id ≤ 1000000)
  · (repeat (first | refine And.intro (fun _ => ?_) (fun h => Bool.noConfusion h) | refine And.intro (fun h => Bool.noConfusion h) (fun _ => ?_)))
    simp only [rightW, Bool.not_eq_true', Bool.not_eq_false', decide_eq_true_eq, decide_eq_false_iff_not] at *
    unfold errD
    repeat (first | rw [if_pos (by omega)] | rw [if_neg (by omega)])
    exact And.intro rfl rfl
  repeat (first | refine And.intro (fun _ => ?_) (fun h => Bool.noConfusion h) | refine And.intro (fun h => Bool.noConfusion h) (fun _ => ?_))
  -- step
  refine ⟨rfl, (by first | exact Nat.zero_le _ | exact Nat.le_refl _ | exact Nat.le_succ 1 | decide), (c_deal_within e.room 1 1000 (r := 1) (sto := [mbox m]) (Nat.le_refl 1)).mono ?_⟩
  rintro d l ⟨rfl, rfl⟩
  refine ⟨rfl, fun _ _ => rfl, rfl, ?_⟩
  cases h1 : decide (1 ≤ e.room ∧ e.room ≤ 1000)
  · (repeat (first | refine And.intro (fun _ => ?_) (fun h => Bool.noConfusion h) | refine And.intro (fun h => Bool.noConfusion h) (fun _ => ?_)))
    simp only [rightW, Bool.not_eq_true', Bool.not_eq_false', decide_eq_true_eq, decide_eq_false_iff_not] at *
    unfold errD
    repeat (first | rw [if_pos (by omega)] | rw [if_neg (by omega)])
    exact And.intro rfl rfl
  repeat (first | refine And.intro (fun _ => ?_) (fun h => Bool.noConfusion h) | refine And.intro (fun h => Bool.noConfusion h) (fun _ => ?_))
  -- step
  refine ⟨rfl, (by first | exact Nat.zero_le _ | exact Nat.le_refl _ | exact Nat.le_succ 1 | decide), (c_deal_place m hm e.home (r := 1) (sto := [mbox m]) (Nat.le_refl 1) rfl (Nat.lt_succ_self 0)).mono ?_⟩
  rintro d l ⟨rfl, rfl⟩
  refine ⟨rfl, fun _ _ => rfl, rfl, ?_⟩
  cases h2 : decide (0 ≤ e.home ∧ e.home < m.n)
  · (repeat (first | refine And.intro (fun _ => ?_) (fun h => Bool.noConfusion h) | refine And.intro (fun h => Bool.noConfusion h) (fun _ => ?_)))
    simp only [rightW, Bool.not_eq_true', Bool.not_eq_false', decide_eq_true_eq, decide_eq_false_iff_not] at *
    unfold errD
    repeat (first | rw [if_pos (by omega)] | rw [if_neg (by omega)])
    exact And.intro rfl rfl
  repeat (first | refine And.intro (fun _ => ?_) (fun h => Bool.noConfusion h) | refine And.intro (fun h => Bool.noConfusion h) (fun _ => ?_))
  -- step
  refine ⟨rfl, (by first | exact Nat.zero_le _ | exact Nat.le_refl _ | exact Nat.le_succ 1 | decide), (c_span_Right e.w (r := 1) (sto := [mbox m]) (Nat.le_refl 1)).mono ?_⟩
  rintro d l ⟨rfl, rfl⟩
  refine ⟨rfl, fun _ _ => rfl, rfl, ?_⟩
  cases h3 : rightW e.w
  · (repeat (first | refine And.intro (fun _ => ?_) (fun h => Bool.noConfusion h) | refine And.intro (fun h => Bool.noConfusion h) (fun _ => ?_)))
    simp only [rightW, Bool.not_eq_true', Bool.not_eq_false', decide_eq_true_eq, decide_eq_false_iff_not] at *
    unfold errD
    repeat (first | rw [if_pos (by omega)] | rw [if_neg (by omega)])
    exact And.intro rfl rfl
  repeat (first | refine And.intro (fun _ => ?_) (fun h => Bool.noConfusion h) | refine And.intro (fun h => Bool.noConfusion h) (fun _ => ?_))
  simp only [rightW, Bool.not_eq_true', Bool.not_eq_false', decide_eq_true_eq, decide_eq_false_iff_not] at *
  unfold errD
  repeat (first | rw [if_pos (by omega)] | rw [if_neg (by omega)])
  exact And.intro rfl rfl
theorem c_deal_Driver (m : Mp) (hm : okMp m) (e : Drv) {r b : Nat} {sto : List Ob} (hr : r ≤ sto.length) (hb : sto[b]? = some (mbox m)) (hbr : b < r) : Tri Tryz.prog 59 r [.gptr b 0, .agg (rowDr e)] sto (fun d k => d = .int .i64 (errD m.n e) ∧ k = sto) :=
  (c_deal_Driver_0 m hm e).boxRO (nr_mcs m) rfl rfl (fun d h => by subst h; exact ⟨rfl, rfl⟩) hr hb hbr
noncomputable def okOs (n : Int) (os : List Ord) : Prop := os.length ≤ 40 ∧ (∀ o, o ∈ os → errO n o = 0) ∧ os.Pairwise (fun a b => a.id ≠ b.id)
noncomputable instance (n : Int) (os : List Ord) : Decidable (okOs n os) := by unfold okOs; infer_instance
theorem pw_snoc {os : List Ord} {i : Nat} (hi : i < os.length) (h : (os.take i).Pairwise (fun a b => a.id ≠ b.id)) (hn : ∀ x, x ∈ os.take i → x.id ≠ os[i].id) : (os.take (i + 1)).Pairwise (fun a b => a.id ≠ b.id) := by
  rw [List.take_succ_eq_append_getElem hi, List.pairwise_append]
  exact ⟨h, by simp, fun a ha b hb => by rw [List.mem_singleton.1 hb]; exact hn a ha⟩
theorem pw_no {os : List Ord} {i j : Nat} (hi : i < os.length) (hj : j < i) (e : (os[j]'(by omega)).id = os[i].id) : ¬ os.Pairwise (fun a b => a.id ≠ b.id) := fun h => (List.pairwise_iff_getElem.1 h j i (by omega) hi hj) e
end Go.Lv

namespace Go.Lv
open Go.Proofs

end Go.Lv

namespace Go.Lv
open Go.Proofs

noncomputable def diagO (n : Int) (l : List Int) (k : Nat) : Prop := ∀ a, a < k → l.getD (a * n.toNat + a) 0 = 0
noncomputable instance (n : Int) (l : List Int) (k : Nat) : Decidable (diagO n l k) := by unfold diagO; infer_instance
noncomputable def timesO (l : List Int) : Prop := ∀ t, t ∈ l → 0 ≤ t ∧ t ≤ 1000000
noncomputable instance (l : List Int) : Decidable (timesO l) := by unfold timesO; infer_instance
noncomputable def newE (n : Int) (l : List Int) : Int :=
  if n < 1 ∨ n > 12 then 1 else
  if (l.length : Int) ≠ n * n then 2 else
  if ¬ timesO l then 7 else
  if ¬ diagO n l n.toNat then 4 else 0
noncomputable def isNew (n : Int) (l : List Int) (N : Nat) (sto : List Ob) (d : D) (k : List Ob) : Prop := (newE n l = 0 ∧ okMp ⟨n, l⟩ ∧ d = .tup [.gptr N 0, .int .i64 0] ∧ k = sto ++ [mbox ⟨n, l⟩]) ∨ (newE n l ≠ 0 ∧ d = .tup [.nil, .int .i64 (newE n l)] ∧ k = sto)
theorem isNew_no {n : Int} {l : List Int} {N : Nat} {sto : List Ob} {e : Int} (h : newE n l = e) (he : e ≠ 0) : isNew n l N sto (.tup [.nil, .int .i64 e]) sto := .inr ⟨by rw [h]; exact he, by rw [h], rfl⟩
theorem diag_idx {n : Int} {a : Nat} (h1 : 1 ≤ n) (h2 : n ≤ 12) (ha : (a : Int) < n) {len : Nat} (hl : (len : Int) = n * n) : IntKind.i64.wrap (IntKind.i64.wrap ((a : Int) * n) + (a : Int)) = ((a * n.toNat + a : Nat) : Int) ∧ a * n.toNat + a < len := by
  have h5 := idx_lt (n := n) (a := (a : Int)) (b := (a : Int)) (by omega) (by omega) ha ha
  have h8 : n * n ≤ 12 * 12 := Int.mul_le_mul h2 h2 (by omega) (by decide)
  have h9 : ((a * n.toNat + a : Nat) : Int) = (a : Int) * n + a := by
    rw [Int.natCast_add, Int.natCast_mul, Int.toNat_of_nonneg (by omega)]
  have h10 : 0 ≤ (a : Int) * n := Int.mul_nonneg (by omega) (by omega)
  refine ⟨?_, by omega⟩
  rw [wrap64 (z := (a : Int) * n) (by omega) (by omega), wrap64 (by omega) (by omega), h9]
theorem Tri.newAny {P : Program} {f : Nat} {args : List D} {n : Int} {l : List Int} (h : Tri P f 0 args [] (fun d k => isNew n l 0 [] d k)) (ha : args.all cellsOK = true) (hn : nrBL 0 args = true) {r : Nat} {sto : List Ob} (hr : r ≤ sto.length) : Tri P f r args sto (fun d k => isNew n l sto.length sto d k) := by
  have := Tri.ren (r := r) (sto := sto) (fun k => k) h (fun i j hi => by cases hi) (fun i o hi => by simp at hi) (fun i hi => by cases hi) hr ha (fun x hx => nrBL_nr hn x hx) (fun o ho => by cases ho) rfl (fun d' l' hh => by
    rcases hh with ⟨_, _, rfl, rfl⟩ | ⟨_, rfl, rfl⟩
    · exact ⟨rfl, rfl⟩
    · exact ⟨rfl, rfl⟩)
  rw [renL_id _ hn] at this
  refine this.mono fun d k ⟨d1, l1, hh, h3, h4⟩ => ?_
  subst h3 h4
  rcases hh with ⟨h1, h2, rfl, rfl⟩ | ⟨h1, rfl, rfl⟩
  · refine .inl ⟨h1, h2, ?_, ?_⟩
    · show D.tup [.gptr (extR _ 0 sto.length 0) 0, .int .i64 0] = _
      simp [extR]
    · show _ ++ [Ob.box (renL _ (mcs ⟨n, l⟩))] = _
      rw [renL_id _ (nr_mcs _)]
      rfl
  · refine .inr ⟨h1, rfl, ?_⟩
    simp [backSto]

noncomputable def sgeo_New1 (n : Int) (l : List Int) (i : Nat) : DS := ⟨[(0, .int .i64 n), (1, .list .imm (l.map rowI)), (4, .nil), (5, .int .i64 0), (21, .list .imm (l.map rowI)), (22, .int .i64 (l.length : Int)), (23, .int .i64 (i : Int))], [], [], mR 0⟩
noncomputable def sgeo_New2 (n : Int) (l : List Int) (i : Nat) : DS := ⟨[(0, .int .i64 n), (1, .list .imm (l.map rowI)), (4, .nil), (5, .int .i64 0), (34, .int .i64 n), (35, .int .i64 (i : Int))], [], [], mR 0⟩
set_option maxHeartbeats 8000000 in
theorem c_geo_New_0 (n : Int) (l : List Int) (hl : l.length ≤ 1000000000000000) : Tri Tryz.prog 6 0 [.int .i64 n, .list .imm (l.map rowI)] [] (fun d k => isNew n l 0 [] d k) := by
  refine Tri.walk2 (L := LT) (c := {n := 53, gl := [52], ko := [4, 5]}) [] [0, 1, 4, 5, 7, 8, 14, 20, 21, 22, 23, 24, 32, 34, 35, 36, 46] hLT hmix Tryz.func6 rfl rfl ⟨rfl, rfl⟩ (by show 2 ≤ 53; decide) (by first | exact Nat.zero_le _ | exact Nat.le_refl _ | exact Nat.le_succ 1 | decide) ?_
  refine And.intro (fun h0 => ?_) (fun h0 => ?_)
  · have h0 : n < 1 := of_decide_eq_true h0
    repeat (first | refine And.intro (fun _ => ?_) (fun h => Bool.noConfusion h) | refine And.intro (fun h => Bool.noConfusion h) (fun _ => ?_))
    exact isNew_no (show newE n l = 1 by unfold newE; rw [if_pos (.inl h0)]) (by decide)
  have h0 : ¬ n < 1 := of_decide_eq_false h0
  repeat (first | refine And.intro (fun _ => ?_) (fun h => Bool.noConfusion h) | refine And.intro (fun h => Bool.noConfusion h) (fun _ => ?_))
  refine And.intro (fun h1 => ?_) (fun h1 => ?_)
  · have h1 : n > 12 := of_decide_eq_true h1
    repeat (first | refine And.intro (fun _ => ?_) (fun h => Bool.noConfusion h) | refine And.intro (fun h => Bool.noConfusion h) (fun _ => ?_))
    exact isNew_no (show newE n l = 1 by unfold newE; rw [if_pos (.inr h1)]) (by decide)
  have h1 : ¬ n > 12 := of_decide_eq_false h1
  repeat (first | refine And.intro (fun _ => ?_) (fun h => Bool.noConfusion h) | refine And.intro (fun h => Bool.noConfusion h) (fun _ => ?_))
  have hnn : n * n ≤ 12 * 12 := Int.mul_le_mul (by omega) (by omega) (by omega) (by decide)
  have hn0 : 0 ≤ n * n := Int.mul_nonneg (by omega) (by omega)
  have hwm : IntKind.i64.wrap (n * n) = n * n := wrap64 (by omega) (by omega)
  have hi0 : ¬ (n < 1 ∨ n > 12) := by omega
  refine And.intro (fun h2 => ?_) (fun h2 => ?_)
  · have h2 : ¬ ((l.map rowI).length : Int) = IntKind.i64.wrap (n * n) := nd_true h2
    rw [List.length_map, hwm] at h2
    exact isNew_no (show newE n l = 2 by unfold newE; rw [if_neg hi0, if_pos h2]) (by decide)
  have h2 : ((l.map rowI).length : Int) = IntKind.i64.wrap (n * n) := nd_false h2
  rw [List.length_map, hwm] at h2
  show Ok _ _ _ _ _
  refine Ok.loopN hLT hmix [] [0, 1, 4, 5, 7, 8, 14, 20, 21, 22, 23, 24, 32, 34, 35, 36, 46] [0,1,4,5,21,22,23] [] (fun k s => ∃ i : Nat, k = l.length - i ∧ i ≤ l.length ∧ timesO (l.take i) ∧ s = sgeo_New1 n l i) (n := l.length) ⟨0, rfl, Nat.zero_le _, (fun t ht => by simp at ht), by unfold sgeo_New1; rw [← List.length_map (f := rowI)]; rfl⟩ ?_
  rintro k s ⟨i, rfl, hi, hti, rfl⟩
  refine And.intro (fun h3 => ?_) (fun h3 => ?_)
  · have h3 : ((i : Nat) : Int) < (l.length : Int) := of_decide_eq_true h3

    have hil : i < l.length := by omega
    have hw := wrap_succ (i := i) (n := l.length) hil hl
    refine ⟨(l).map rowI, rowI ((l)[i]'(by omega)), rfl, by omega, row_at' rowI (l) (by omega) (by omega), rfl, of_decide_eq_true rfl, ?_⟩
    refine And.intro (fun h4 => ?_) (fun h4 => ?_)
    · have h4 : l[i] < 0 := of_decide_eq_true h4
      repeat (first | refine And.intro (fun _ => ?_) (fun h => Bool.noConfusion h) | refine And.intro (fun h => Bool.noConfusion h) (fun _ => ?_))
      exact isNew_no (show newE n l = 7 by unfold newE; rw [if_neg hi0, if_neg (fun h => h h2), if_pos (fun h => by have := h l[i] (List.getElem_mem _); omega)]) (by decide)
    have h4 : ¬ l[i] < 0 := of_decide_eq_false h4
    repeat (first | refine And.intro (fun _ => ?_) (fun h => Bool.noConfusion h) | refine And.intro (fun h => Bool.noConfusion h) (fun _ => ?_))
    
    refine And.intro (fun h5 => ?_) (fun h5 => ?_)
    · have h5 : l[i] > 1000000 := of_decide_eq_true h5
      repeat (first | refine And.intro (fun _ => ?_) (fun h => Bool.noConfusion h) | refine And.intro (fun h => Bool.noConfusion h) (fun _ => ?_))
      exact isNew_no (show newE n l = 7 by unfold newE; rw [if_neg hi0, if_neg (fun h => h h2), if_pos (fun h => by have := h l[i] (List.getElem_mem _); omega)]) (by decide)
    have h5 : ¬ l[i] > 1000000 := of_decide_eq_false h5
    repeat (first | refine And.intro (fun _ => ?_) (fun h => Bool.noConfusion h) | refine And.intro (fun h => Bool.noConfusion h) (fun _ => ?_))
    refine ⟨l.length - (i + 1), by omega, i + 1, rfl, by omega, fun t ht => ?_, ?_⟩
    · rw [List.take_succ_eq_append_getElem hil] at ht
      rcases List.mem_append.1 ht with ht | ht
      · exact hti t ht
      · rw [List.mem_singleton.1 ht]
        omega
    · unfold sgeo_New1
      rw [← hw]
      rfl
  have h3 : ¬ ((i : Nat) : Int) < (l.length : Int) := of_decide_eq_false h3

  rw [List.take_of_length_le (by omega)] at hti
  show Ok _ _ _ _ _
  refine Ok.loopN hLT hmix [] [0, 1, 4, 5, 7, 8, 14, 20, 21, 22, 23, 24, 32, 34, 35, 36, 46] [0,1,4,5,34,35] [] (fun k s => ∃ i : Nat, k = n.toNat - i ∧ i ≤ n.toNat ∧ diagO n l i ∧ s = sgeo_New2 n l i) (n := n.toNat) ⟨0, rfl, Nat.zero_le _, (fun a ha => absurd ha (Nat.not_lt_zero _)), rfl⟩ ?_
  rintro k s ⟨i, rfl, hi, hdi, rfl⟩
  refine And.intro (fun h3 => ?_) (fun h3 => ?_)
  · have h3 : ((i : Nat) : Int) < n := of_decide_eq_true h3
    have hw := wrap_succ (i := i) (n := n.toNat) (by omega) (by omega)
    obtain ⟨q1, q2⟩ := diag_idx (a := i) (by omega) (by omega) h3 h2
    refine ⟨(l).map rowI, rowI ((l)[i * n.toNat + i]'q2), rfl, by rw [q1]; exact Int.natCast_nonneg _, row_at' rowI l q1 q2, rfl, of_decide_eq_true rfl, ?_⟩
    have hgd : l.getD (i * n.toNat + i) 0 = l[i * n.toNat + i] := by rw [List.getD_eq_getElem?_getD, List.getElem?_eq_getElem q2]; rfl
    refine And.intro (fun h4 => ?_) (fun h4 => ?_)
    · have h4 := nd_true h4
      exact isNew_no (show newE n l = 4 by unfold newE; rw [if_neg hi0, if_neg (fun h => h h2), if_neg (fun h => h hti), if_pos (fun h => h4 (by rw [← hgd]; exact h i (by omega)))]) (by decide)
    have h4 := nd_false h4
    refine ⟨n.toNat - (i + 1), by omega, i + 1, rfl, by omega, fun a ha => ?_, ?_⟩
    · rcases Nat.lt_or_ge a i with h | h
      · exact hdi a h
      · rw [show a = i by omega, hgd]
        exact h4
    · unfold sgeo_New2
      rw [← hw]
      rfl
  have h3 : ¬ ((i : Nat) : Int) < n := of_decide_eq_false h3
  have hdn : diagO n l n.toNat := by rw [show n.toNat = i by omega]; exact hdi
  have hnew : newE n l = 0 := by unfold newE; rw [if_neg hi0, if_neg (fun h => h h2), if_neg (fun h => h hti), if_neg (fun h => h hdn)]
  have hok : okMp ⟨n, l⟩ := ⟨by show 1 ≤ n; omega, by show n ≤ 12; omega, h2, hti⟩
  have hrm : (0 + (l.map rowI).length) * 8 ≤ 140737488355328 := by rw [List.length_map]; omega
  have hal : allLen 1 (l.map rowI) = true := by simp [allLen, rowI]
  refine And.intro trivial (And.intro rfl (And.intro hrm (And.intro hal ?_)))
  exact .inl ⟨hnew, hok, rfl, rfl⟩
theorem c_geo_New (n : Int) (l : List Int) (hl : l.length ≤ 1000000000000000) {r : Nat} {sto : List Ob} (hr : r ≤ sto.length) : Tri Tryz.prog 6 r [.int .i64 n, .list .imm (l.map rowI)] sto (fun d k => isNew n l sto.length sto d k) :=
  (c_geo_New_0 n l hl).newAny rfl (by show (true && (nrBLL 0 (l.map rowI) && true)) = true; rw [nrBLL_I]; rfl) hr

noncomputable def sdrayref4_New1 (n : Int) (l : List Int) (i : Nat) : DS := ⟨[(0, .int .i64 n), (1, .list .imm (l.map rowI)), (4, .nil), (5, .int .i64 0), (6, .int .i64 (i : Int))], [], [], mR 0⟩
noncomputable def sdrayref4_New2 (n : Int) (l : List Int) (i : Nat) : DS := ⟨[(0, .int .i64 n), (1, .list .imm (l.map rowI)), (4, .nil), (5, .int .i64 0), (7, .int .i64 (i : Int))], [], [], mR 0⟩
set_option maxHeartbeats 8000000 in
theorem c_drayref4_New_0 (n : Int) (l : List Int) (hl : l.length ≤ 1000000000000000) : Tri Tryz.prog 31 0 [.int .i64 n, .list .imm (l.map rowI)] [] (fun d k => isNew n l 0 [] d k) := by
  refine Tri.walk2 (L := LT) (c := {n := 58, gl := [57], ko := [4, 5]}) [] [0, 1, 4, 5, 6, 7, 13, 19, 23, 37, 40, 51] hLT hmix Tryz.func31 rfl rfl ⟨rfl, rfl⟩ (by show 2 ≤ 58; decide) (by first | exact Nat.zero_le _ | exact Nat.le_refl _ | exact Nat.le_succ 1 | decide) ?_
  refine And.intro (fun h0 => ?_) (fun h0 => ?_)
  · have h0 : n < 1 := of_decide_eq_true h0
    repeat (first | refine And.intro (fun _ => ?_) (fun h => Bool.noConfusion h) | refine And.intro (fun h => Bool.noConfusion h) (fun _ => ?_))
    exact isNew_no (show newE n l = 1 by unfold newE; rw [if_pos (.inl h0)]) (by decide)
  have h0 : ¬ n < 1 := of_decide_eq_false h0
  repeat (first | refine And.intro (fun _ => ?_) (fun h => Bool.noConfusion h) | refine And.intro (fun h => Bool.noConfusion h) (fun _ => ?_))
  refine And.intro (fun h1 => ?_) (fun h1 => ?_)
  · have h1 : n > 12 := of_decide_eq_true h1
    repeat (first | refine And.intro (fun _ => ?_) (fun h => Bool.noConfusion h) | refine And.intro (fun h => Bool.noConfusion h) (fun _ => ?_))
    exact isNew_no (show newE n l = 1 by unfold newE; rw [if_pos (.inr h1)]) (by decide)
  have h1 : ¬ n > 12 := of_decide_eq_false h1
  repeat (first | refine And.intro (fun _ => ?_) (fun h => Bool.noConfusion h) | refine And.intro (fun h => Bool.noConfusion h) (fun _ => ?_))
  have hnn : n * n ≤ 12 * 12 := Int.mul_le_mul (by omega) (by omega) (by omega) (by decide)
  have hn0 : 0 ≤ n * n := Int.mul_nonneg (by omega) (by omega)
  have hwm : IntKind.i64.wrap (n * n) = n * n := wrap64 (by omega) (by omega)
  have hi0 : ¬ (n < 1 ∨ n > 12) := by omega
  refine And.intro (fun h2 => ?_) (fun h2 => ?_)
  · have h2 : ¬ ((l.map rowI).length : Int) = IntKind.i64.wrap (n * n) := nd_true h2
    rw [List.length_map, hwm] at h2
    exact isNew_no (show newE n l = 2 by unfold newE; rw [if_neg hi0, if_pos h2]) (by decide)
  have h2 : ((l.map rowI).length : Int) = IntKind.i64.wrap (n * n) := nd_false h2
  rw [List.length_map, hwm] at h2
  show Ok _ _ _ _ _
  refine Ok.loopN hLT hmix [] [0, 1, 4, 5, 6, 7, 13, 19, 23, 37, 40, 51] [0,1,4,5,6] [] (fun k s => ∃ i : Nat, k = l.length - i ∧ i ≤ l.length ∧ timesO (l.take i) ∧ s = sdrayref4_New1 n l i) (n := l.length) ⟨0, rfl, Nat.zero_le _, (fun t ht => by simp at ht), by unfold sdrayref4_New1; rfl⟩ ?_
  rintro k s ⟨i, rfl, hi, hti, rfl⟩
  refine And.intro (fun h3 => ?_) (fun h3 => ?_)
  · have h3 : ((i : Nat) : Int) < ((l.map rowI).length : Int) := of_decide_eq_true h3
    rw [List.length_map] at h3
    have hil : i < l.length := by omega
    have hw := wrap_succ (i := i) (n := l.length) hil hl
    refine ⟨(l).map rowI, rowI ((l)[i]'(by omega)), rfl, by omega, row_at' rowI (l) (by omega) (by omega), rfl, of_decide_eq_true rfl, ?_⟩
    refine And.intro (fun h4 => ?_) (fun h4 => ?_)
    · have h4 : l[i] < 0 := of_decide_eq_true h4
      repeat (first | refine And.intro (fun _ => ?_) (fun h => Bool.noConfusion h) | refine And.intro (fun h => Bool.noConfusion h) (fun _ => ?_))
      exact isNew_no (show newE n l = 7 by unfold newE; rw [if_neg hi0, if_neg (fun h => h h2), if_pos (fun h => by have := h l[i] (List.getElem_mem _); omega)]) (by decide)
    have h4 : ¬ l[i] < 0 := of_decide_eq_false h4
    repeat (first | refine And.intro (fun _ => ?_) (fun h => Bool.noConfusion h) | refine And.intro (fun h => Bool.noConfusion h) (fun _ => ?_))
    refine ⟨(l).map rowI, rowI ((l)[i]'(by omega)), rfl, by omega, row_at' rowI (l) (by omega) (by omega), rfl, of_decide_eq_true rfl, ?_⟩
    refine And.intro (fun h5 => ?_) (fun h5 => ?_)
    · have h5 : l[i] > 1000000 := of_decide_eq_true h5
      repeat (first | refine And.intro (fun _ => ?_) (fun h => Bool.noConfusion h) | refine And.intro (fun h => Bool.noConfusion h) (fun _ => ?_))
      exact isNew_no (show newE n l = 7 by unfold newE; rw [if_neg hi0, if_neg (fun h => h h2), if_pos (fun h => by have := h l[i] (List.getElem_mem _); omega)]) (by decide)
    have h5 : ¬ l[i] > 1000000 := of_decide_eq_false h5
    repeat (first | refine And.intro (fun _ => ?_) (fun h => Bool.noConfusion h) | refine And.intro (fun h => Bool.noConfusion h) (fun _ => ?_))
    refine ⟨l.length - (i + 1), by omega, i + 1, rfl, by omega, fun t ht => ?_, ?_⟩
    · rw [List.take_succ_eq_append_getElem hil] at ht
      rcases List.mem_append.1 ht with ht | ht
      · exact hti t ht
      · rw [List.mem_singleton.1 ht]
        omega
    · unfold sdrayref4_New1
      rw [← hw]
      rfl
  have h3 : ¬ ((i : Nat) : Int) < ((l.map rowI).length : Int) := of_decide_eq_false h3
  rw [List.length_map] at h3
  rw [List.take_of_length_le (by omega)] at hti
  show Ok _ _ _ _ _
  refine Ok.loopN hLT hmix [] [0, 1, 4, 5, 6, 7, 13, 19, 23, 37, 40, 51] [0,1,4,5,7] [] (fun k s => ∃ i : Nat, k = n.toNat - i ∧ i ≤ n.toNat ∧ diagO n l i ∧ s = sdrayref4_New2 n l i) (n := n.toNat) ⟨0, rfl, Nat.zero_le _, (fun a ha => absurd ha (Nat.not_lt_zero _)), rfl⟩ ?_
  rintro k s ⟨i, rfl, hi, hdi, rfl⟩
  refine And.intro (fun h3 => ?_) (fun h3 => ?_)
  · have h3 : ((i : Nat) : Int) < n := of_decide_eq_true h3
    have hw := wrap_succ (i := i) (n := n.toNat) (by omega) (by omega)
    obtain ⟨q1, q2⟩ := diag_idx (a := i) (by omega) (by omega) h3 h2
    refine ⟨(l).map rowI, rowI ((l)[i * n.toNat + i]'q2), rfl, by rw [q1]; exact Int.natCast_nonneg _, row_at' rowI l q1 q2, rfl, of_decide_eq_true rfl, ?_⟩
    have hgd : l.getD (i * n.toNat + i) 0 = l[i * n.toNat + i] := by rw [List.getD_eq_getElem?_getD, List.getElem?_eq_getElem q2]; rfl
    refine And.intro (fun h4 => ?_) (fun h4 => ?_)
    · have h4 := nd_true h4
      exact isNew_no (show newE n l = 4 by unfold newE; rw [if_neg hi0, if_neg (fun h => h h2), if_neg (fun h => h hti), if_pos (fun h => h4 (by rw [← hgd]; exact h i (by omega)))]) (by decide)
    have h4 := nd_false h4
    refine ⟨n.toNat - (i + 1), by omega, i + 1, rfl, by omega, fun a ha => ?_, ?_⟩
    · rcases Nat.lt_or_ge a i with h | h
      · exact hdi a h
      · rw [show a = i by omega, hgd]
        exact h4
    · unfold sdrayref4_New2
      rw [← hw]
      rfl
  have h3 : ¬ ((i : Nat) : Int) < n := of_decide_eq_false h3
  have hdn : diagO n l n.toNat := by rw [show n.toNat = i by omega]; exact hdi
  have hnew : newE n l = 0 := by unfold newE; rw [if_neg hi0, if_neg (fun h => h h2), if_neg (fun h => h hti), if_neg (fun h => h hdn)]
  have hok : okMp ⟨n, l⟩ := ⟨by show 1 ≤ n; omega, by show n ≤ 12; omega, h2, hti⟩
  have hrm : (0 + (l.map rowI).length) * 8 ≤ 140737488355328 := by rw [List.length_map]; omega
  have hal : allLen 1 (l.map rowI) = true := by simp [allLen, rowI]
  refine And.intro trivial (And.intro rfl (And.intro hrm (And.intro hal ?_)))
  exact .inl ⟨hnew, hok, rfl, rfl⟩
theorem c_drayref4_New (n : Int) (l : List Int) (hl : l.length ≤ 1000000000000000) {r : Nat} {sto : List Ob} (hr : r ≤ sto.length) : Tri Tryz.prog 31 r [.int .i64 n, .list .imm (l.map rowI)] sto (fun d k => isNew n l sto.length sto d k) :=
  (c_drayref4_New_0 n l hl).newAny rfl (by show (true && (nrBLL 0 (l.map rowI) && true)) = true; rw [nrBLL_I]; rfl) hr

end Go.Lv

namespace Go.Lv
open Go.Proofs

noncomputable def encW (n : Int) (l : List Int) (ds : List Drv) (os : List Ord) (p : Pln) : List D := [.int .i64 n, .list .imm (l.map rowI), encDs ds, encOs os, encP p]
noncomputable def isMaps (n : Int) (l : List Int) (d : D) (k : List Ob) : Prop := (d = .tup [.nil, .nil, .bool true] ∧ k = []) ∨ (okMp ⟨n, l⟩ ∧ d = .tup [.gptr 0 0, .gptr 1 0, .bool true] ∧ k = [mbox ⟨n, l⟩, mbox ⟨n, l⟩])
set_option maxHeartbeats 4000000 in
theorem c_draykeep_Maps_0 (n : Int) (l : List Int) (hl : l.length ≤ 1000000000000000) (ds : List Drv) (os : List Ord) (p : Pln) : Tri Tryz.prog 9 0 [.agg (encW n l ds os p)] [] (fun d k => isMaps n l d k) := by
  refine Tri.walk2 (L := LT) (c := {n := 37, ko := [2, 3, 4]}) [] [0, 1, 2, 3, 4, 5, 6, 7, 8] hLT hmix Tryz.func9 rfl rfl ⟨rfl, rfl⟩ (by show 1 ≤ 37; decide) (by first | exact Nat.zero_le _ | exact Nat.le_refl _ | exact Nat.le_succ 1 | decide) ?_
  have h1 := c_geo_New n l hl (r := 0) (sto := []) (Nat.le_refl 0)
  refine ⟨rfl, Nat.le_refl _, h1.mono ?_⟩
  rintro d k (⟨he, hm, rfl, rfl⟩ | ⟨he, rfl, rfl⟩)
  · refine ⟨rfl, fun k hk => absurd hk (Nat.not_lt_zero k), rfl, ?_⟩
    have h2 := c_drayref4_New n l hl (r := 1) (sto := [mbox ⟨n, l⟩]) (Nat.le_refl 1)
    refine ⟨rfl, Nat.zero_le _, h2.mono ?_⟩
    rintro d k (⟨_, _, rfl, rfl⟩ | ⟨he2, rfl, rfl⟩)
    · refine ⟨rfl, fun k hk => List.getElem?_append_left hk, rfl, ?_⟩
      repeat (first | refine And.intro (fun _ => ?_) (fun h => Bool.noConfusion h) | refine And.intro (fun h => Bool.noConfusion h) (fun _ => ?_))
      exact .inr ⟨hm, rfl, rfl⟩
    · exact absurd he he2
  · refine ⟨rfl, fun k hk => absurd hk (Nat.not_lt_zero k), rfl, ?_⟩
    have h2 := c_drayref4_New n l hl (r := 0) (sto := []) (Nat.zero_le _)
    refine ⟨rfl, Nat.le_refl _, h2.mono ?_⟩
    rintro d k (⟨he2, _, rfl, rfl⟩ | ⟨_, rfl, rfl⟩)
    · exact absurd he2 he
    · refine ⟨rfl, fun k hk => absurd hk (Nat.not_lt_zero k), rfl, ?_⟩
      refine And.intro (fun h3 => ?_) (fun h3 => ?_)
      · repeat (first | refine And.intro (fun _ => ?_) (fun h => Bool.noConfusion h) | refine And.intro (fun h => Bool.noConfusion h) (fun _ => ?_))
        exact .inl ⟨rfl, rfl⟩
      · exact absurd rfl (of_decide_eq_false h3)
end Go.Lv

namespace Go.Lv
open Go.Proofs

theorem okInts {n : Nat} {x : List D} (h : OkD LT (n + 2) 42 x) : ∃ l : List Int, x = [.list .imm (l.map rowI)] := by
  obtain ⟨xs, rfl, _, h⟩ := h
  have key : ∀ xs : List (List D), (∀ r, r ∈ xs → r.length = LT.size 3 ∧ OkD LT (n + 1) 3 r) → ∃ l : List Int, xs = l.map rowI := by
    intro xs
    induction xs with
    | nil => intro _; exact ⟨[], rfl⟩
    | cons x r ih =>
      intro h
      obtain ⟨s, rfl, _⟩ := (h x (by simp)).2
      obtain ⟨l, rfl⟩ := ih fun y hy => h y (by simp [hy])
      exact ⟨s :: l, rfl⟩
  obtain ⟨l, rfl⟩ := key xs h
  exact ⟨l, rfl⟩
theorem okWin {n : Nat} {x : List D} (h : OkD LT (n + 2) 27 x) : ∃ w : Win, x = rowW w := by
  obtain ⟨x1, y1, rfl, _, h1, x2, y2, rfl, _, h2, rfl⟩ := h
  obtain ⟨i1, rfl, _⟩ := h1
  obtain ⟨i2, rfl, _⟩ := h2
  exact ⟨⟨i1, i2⟩, rfl⟩
theorem okSit {n : Nat} {x : List D} (h : OkD LT (n + 3) 29 x) : ∃ s : Sit, x = rowSi s := by
  obtain ⟨x1, y1, rfl, _, h1, x2, y2, rfl, _, h2, x3, y3, rfl, _, h3, rfl⟩ := h
  obtain ⟨i1, rfl, _⟩ := h1
  obtain ⟨w, rfl⟩ := okWin h2
  obtain ⟨i3, rfl, _⟩ := h3
  exact ⟨⟨i1, w, i3⟩, rfl⟩
theorem okOrd {n : Nat} {x : List D} (h : OkD LT (n + 4) 31 x) : ∃ o : Ord, x = rowO o := by
  obtain ⟨x1, y1, rfl, _, h1, x2, y2, rfl, _, h2, x3, y3, rfl, _, h3, x4, y4, rfl, _, h4, rfl⟩ := h
  obtain ⟨i1, rfl, _⟩ := h1
  obtain ⟨i2, rfl, _⟩ := h2
  obtain ⟨a, rfl⟩ := okSit h3
  obtain ⟨b, rfl⟩ := okSit h4
  exact ⟨⟨i1, i2, a, b⟩, rfl⟩
theorem okDrv {n : Nat} {x : List D} (h : OkD LT (n + 3) 33 x) : ∃ d : Drv, x = rowDr d := by
  obtain ⟨x1, y1, rfl, _, h1, x2, y2, rfl, _, h2, x3, y3, rfl, _, h3, x4, y4, rfl, _, h4, x5, y5, rfl, _, h5, rfl⟩ := h
  obtain ⟨i1, rfl, _⟩ := h1
  obtain ⟨i2, rfl, _⟩ := h2
  obtain ⟨i3, rfl, _⟩ := h3
  obtain ⟨w, rfl⟩ := okWin h4
  obtain ⟨b, rfl⟩ := h5
  exact ⟨⟨i1, i2, i3, w, b⟩, rfl⟩
theorem okOrds {n : Nat} {x : List D} (h : OkD LT (n + 5) 44 x) : ∃ l : List Ord, x = [encOs l] := by
  obtain ⟨xs, rfl, _, h⟩ := h
  have key : ∀ xs : List (List D), (∀ r, r ∈ xs → r.length = LT.size 31 ∧ OkD LT (n + 4) 31 r) → ∃ l : List Ord, xs = l.map rowO := by
    intro xs
    induction xs with
    | nil => intro _; exact ⟨[], rfl⟩
    | cons x r ih =>
      intro h
      obtain ⟨s, rfl⟩ := okOrd (h x (by simp)).2
      obtain ⟨l, rfl⟩ := ih fun y hy => h y (by simp [hy])
      exact ⟨s :: l, rfl⟩
  obtain ⟨l, rfl⟩ := key xs h
  exact ⟨l, rfl⟩
theorem okDrvs {n : Nat} {x : List D} (h : OkD LT (n + 4) 43 x) : ∃ l : List Drv, x = [encDs l] := by
  obtain ⟨xs, rfl, _, h⟩ := h
  have key : ∀ xs : List (List D), (∀ r, r ∈ xs → r.length = LT.size 33 ∧ OkD LT (n + 3) 33 r) → ∃ l : List Drv, xs = l.map rowDr := by
    intro xs
    induction xs with
    | nil => intro _; exact ⟨[], rfl⟩
    | cons x r ih =>
      intro h
      obtain ⟨s, rfl⟩ := okDrv (h x (by simp)).2
      obtain ⟨l, rfl⟩ := ih fun y hy => h y (by simp [hy])
      exact ⟨s :: l, rfl⟩
  obtain ⟨l, rfl⟩ := key xs h
  exact ⟨l, rfl⟩
theorem okStopN {n : Nat} {x : List D} (h : OkD LT (n + 2) 138 x) : ∃ s : Stp, x = rowS s := by
  obtain ⟨x1, y1, rfl, _, h1, x2, y2, rfl, _, h2, rfl⟩ := h
  obtain ⟨i1, rfl, _⟩ := h1
  obtain ⟨b, rfl⟩ := h2
  exact ⟨⟨i1, b⟩, rfl⟩
theorem okStopsN {n : Nat} {x : List D} (h : OkD LT (n + 3) 134 x) : ∃ l : List Stp, x = [.list .imm (l.map rowS)] := by
  obtain ⟨xs, rfl, _, h⟩ := h
  have key : ∀ xs : List (List D), (∀ r, r ∈ xs → r.length = LT.size 138 ∧ OkD LT (n + 2) 138 r) → ∃ l : List Stp, xs = l.map rowS := by
    intro xs
    induction xs with
    | nil => intro _; exact ⟨[], rfl⟩
    | cons x r ih =>
      intro h
      obtain ⟨s, rfl⟩ := okStopN (h x (by simp)).2
      obtain ⟨l, rfl⟩ := ih fun y hy => h y (by simp [hy])
      exact ⟨s :: l, rfl⟩
  obtain ⟨l, rfl⟩ := key xs h
  exact ⟨l, rfl⟩
theorem okRouteN {n : Nat} {x : List D} (h : OkD LT (n + 4) 136 x) : ∃ r : Rte, x = rowR r := by
  obtain ⟨x1, y1, rfl, _, h1, x2, y2, rfl, _, h2, x3, y3, rfl, _, h3, rfl⟩ := h
  obtain ⟨i1, rfl, _⟩ := h1
  obtain ⟨i2, rfl, _⟩ := h2
  obtain ⟨l, rfl⟩ := okStopsN h3
  exact ⟨⟨i1, i2, l⟩, rfl⟩
theorem okPlanN {n : Nat} {x : List D} (h : OkD LT (n + 5) 46 x) : ∃ p : Pln, x = [encP p] := by
  obtain ⟨xs, rfl, _, h⟩ := h
  have key : ∀ xs : List (List D), (∀ r, r ∈ xs → r.length = LT.size 136 ∧ OkD LT (n + 4) 136 r) → ∃ p : Pln, xs = p.map rowR := by
    intro xs
    induction xs with
    | nil => intro _; exact ⟨[], rfl⟩
    | cons x r ih =>
      intro h
      obtain ⟨s, rfl⟩ := okRouteN (h x (by simp)).2
      obtain ⟨l, rfl⟩ := ih fun y hy => h y (by simp [hy])
      exact ⟨s :: l, rfl⟩
  obtain ⟨p, rfl⟩ := key xs h
  exact ⟨p, rfl⟩
theorem okWorld {n m : Nat} {x : List D} (h : OkD LT (n + 6) 48 x) (z : SzD LT (m + 2) 48 x) : ∃ (k : Int) (l : List Int) (ds : List Drv) (os : List Ord) (p : Pln), x = encW k l ds os p ∧ l.length ≤ 1000000000000000 := by
  obtain ⟨x1, y1, rfl, _, h1, x2, y2, rfl, _, h2, x3, y3, rfl, _, h3, x4, y4, rfl, _, h4, x5, y5, rfl, _, h5, rfl⟩ := h
  obtain ⟨k, rfl, _⟩ := h1
  obtain ⟨l, rfl⟩ := okInts h2
  obtain ⟨ds, rfl⟩ := okDrvs h3
  obtain ⟨os, rfl⟩ := okOrds h4
  obtain ⟨p, rfl⟩ := okPlanN h5
  obtain ⟨a1, b1, e1, k1, _, a2, b2, e2, k2, z2, _⟩ := z
  have k1' : a1.length = 1 := k1
  have k2' : a2.length = 1 := k2
  obtain ⟨d1, rfl⟩ : ∃ c, a1 = [c] := List.length_eq_one_iff.1 k1'
  obtain ⟨d2, rfl⟩ : ∃ c, a2 = [c] := List.length_eq_one_iff.1 k2'
  subst e2
  simp only [List.cons_append, List.nil_append, List.cons.injEq] at e1
  obtain ⟨_, e, _⟩ := e1
  subst e
  obtain ⟨xs', e, z2, _⟩ := z2
  cases e
  have z2 : (l.map rowI).length * 8 ≤ 140737488351232 := z2
  rw [List.length_map] at z2
  exact ⟨k, l, ds, os, p, rfl, by omega⟩
end Go.Lv

namespace Go.Lv
open Go.Proofs

noncomputable def sKn (m : Mp) (os : List Ord) (i : Nat) : DS := ⟨[(0, .gptr 0 0), (1, encOs os), (12, encOs os), (13, .int .i64 (os.length : Int)), (14, .int .i64 (i : Int)), (4, .bool false)], [], [mbox m], mR 1⟩
noncomputable def sKn2 (m : Mp) (os : List Ord) (i j : Nat) (h : i < os.length) : DS := ⟨[(0, .gptr 0 0), (1, encOs os), (12, encOs os), (13, .int .i64 (os.length : Int)), (14, .int .i64 (i : Int)), (6, .lptr 6 0 0), (25, encOs (os.take i)), (26, .int .i64 (((os.take i).map rowO).length : Int)), (27, .int .i64 (j : Int)), (4, .bool false)], [(6, rowO os[i])], [mbox m], mR 1⟩
theorem take_rows (os : List Ord) (i : Nat) {n : Int} (h : n = (i : Int)) : ((os.map rowO).drop 0).take (n.toNat - 0) = (os.take i).map rowO := by
  subst h
  simp [List.map_take]
theorem allLenO (os : List Ord) : allLen 10 (os.map rowO) = true := by simp [allLen, rowO]
set_option maxHeartbeats 4000000 in
theorem c_deal_Known_0 (m : Mp) (hm : okMp m) (os : List Ord) : Tri Tryz.prog 122 1 [.gptr 0 0, encOs os] [mbox m] (fun d k => d = .bool (decide (okOs m.n os)) ∧ k = [mbox m]) := by
  refine Tri.walk2 (L := LT) (c := {n := 38, ko := [4]}) [] [0, 1, 4, 5, 6, 8, 11, 12, 13, 14, 15, 22, 25, 26, 27, 28, 35] hLT hmix Tryz.func122 rfl rfl ⟨rfl, rfl⟩ (by show 2 ≤ 38; decide) (by first | exact Nat.zero_le _ | exact Nat.le_refl _ | exact Nat.le_succ 1 | decide) ?_
  refine And.intro (fun h0 => ?_) (fun h0 => ?_)
  · have h0 : ((os.map rowO).length : Int) > 40 := of_decide_eq_true h0
    rw [List.length_map] at h0
    rw [decide_eq_false (show ¬ okOs m.n os from fun h => by have := h.1; omega)]
    exact And.intro rfl rfl
  have h0 : ¬ ((os.map rowO).length : Int) > 40 := of_decide_eq_false h0
  rw [List.length_map] at h0
  show Ok _ _ _ _ _
  refine Ok.loopN hLT hmix [] [0, 1, 4, 5, 6, 8, 11, 12, 13, 14, 15, 22, 25, 26, 27, 28, 35] [0,1,12,13,14,4] [] (fun n s => ∃ i : Nat, n = os.length - i ∧ i ≤ os.length ∧ (∀ o, o ∈ os.take i → errO m.n o = 0) ∧ (os.take i).Pairwise (fun a b => a.id ≠ b.id) ∧ s = sKn m os i) (n := os.length) ⟨0, rfl, Nat.zero_le _, by simp, by simp, by unfold sKn; rw [← List.length_map (f := rowO)]; rfl⟩ ?_
  rintro n s ⟨i, rfl, hi, hall, hpw, rfl⟩
  refine And.intro (fun h1 => ?_) (fun h1 => ?_)
  rotate_left
  · have h1 : ¬ ((i : Nat) : Int) < (os.length : Int) := of_decide_eq_false h1
    rw [List.take_of_length_le (by omega)] at hall hpw
    rw [decide_eq_true (show okOs m.n os from ⟨by omega, hall, hpw⟩)]
    exact And.intro rfl rfl
  have h1 : ((i : Nat) : Int) < (os.length : Int) := of_decide_eq_true h1
  have hil : i < os.length := by omega
  have hw := wrap_succ (i := i) (n := os.length) hil (by omega)
  refine ⟨(os).map rowO, rowO ((os)[i]'(by omega)), rfl, by omega, row_at' rowO (os) (by omega) (by omega), rfl, of_decide_eq_true rfl, ?_⟩
  refine ⟨rfl, (by first | exact Nat.zero_le _ | exact Nat.le_refl _ | exact Nat.le_succ 1 | decide), (c_deal_Order m hm os[i] (r := 1) (sto := [mbox m]) (Nat.le_refl 1) rfl (Nat.lt_succ_self 0)).mono ?_⟩
  rintro d l ⟨rfl, rfl⟩
  refine ⟨rfl, fun _ _ => rfl, rfl, ?_⟩
  refine And.intro (fun h2 => ?_) (fun h2 => ?_)
  · have h2 := nd_true h2
    rw [decide_eq_false (show ¬ okOs m.n os from fun h => h2 (h.2.1 _ (List.getElem_mem _)))]
    exact And.intro rfl rfl
  have h2 := nd_false h2
  refine And.intro ⟨Int.natCast_nonneg _, by rw [List.length_map]; omega⟩ (And.intro (Nat.zero_le _) (And.intro (of_decide_eq_true rfl) (And.intro (allLenO os) ?_)))
  show Ok _ _ _ _ _
  refine Ok.loopN hLT hmix [] [0, 1, 4, 5, 6, 8, 11, 12, 13, 14, 15, 22, 25, 26, 27, 28, 35] [0,1,12,13,14,6,25,26,27,4] [6] (fun n s => ∃ j : Nat, n = i - j ∧ j ≤ i ∧ (∀ x, x ∈ os.take j → x.id ≠ os[i].id) ∧ s = sKn2 m os i j hil) (n := i) ⟨0, rfl, Nat.zero_le _, by simp, by unfold sKn2 encOs; rw [← take_rows os i rfl]; rfl⟩ ?_
  rintro n s ⟨j, rfl, hj, hne, rfl⟩
  have hlen : ((os.take i).map rowO).length = i := by rw [List.length_map, List.length_take]; omega
  refine And.intro (fun h3 => ?_) (fun h3 => ?_)
  · have h3 : ((j : Nat) : Int) < (((os.take i).map rowO).length : Int) := of_decide_eq_true h3
    rw [hlen] at h3
    have hwj := wrap_succ (i := j) (n := i) (by omega) (by omega)
    refine ⟨(os.take i).map rowO, rowO ((os.take i)[j]'(by rw [List.length_take]; omega)), rfl, by omega, row_at' rowO (os.take i) (by omega) (by rw [List.length_take]; omega), rfl, of_decide_eq_true rfl, ?_⟩
    refine And.intro (fun h4 => ?_) (fun h4 => ?_)
    · have h4 := of_decide_eq_true h4
      rw [List.getElem_take] at h4
      rw [decide_eq_false (show ¬ okOs m.n os from fun h => pw_no hil (show j < i by omega) h4 h.2.2)]
      exact And.intro rfl rfl
    have h4 := of_decide_eq_false h4
    rw [List.getElem_take] at h4
    refine ⟨i - (j + 1), by omega, j + 1, rfl, by omega, fun x hx => ?_, ?_⟩
    · rw [List.take_succ_eq_append_getElem (by omega)] at hx
      rcases List.mem_append.1 hx with hx | hx
      · exact hne x hx
      · rw [List.mem_singleton.1 hx]
        exact h4
    · unfold sKn2
      rw [← hwj]
      rfl
  have h3 : ¬ ((j : Nat) : Int) < (((os.take i).map rowO).length : Int) := of_decide_eq_false h3
  rw [hlen] at h3
  have hji : j = i := by omega
  subst hji
  refine ⟨os.length - (j + 1), by omega, j + 1, rfl, by omega, fun x hx => ?_, pw_snoc hil hpw hne, ?_⟩
  · rw [List.take_succ_eq_append_getElem hil] at hx
    rcases List.mem_append.1 hx with hx | hx
    · exact hall x hx
    · rw [List.mem_singleton.1 hx]
      exact h2
  · unfold sKn
    rw [← hw]
    rfl
theorem c_deal_Known (m : Mp) (hm : okMp m) (os : List Ord) {r b : Nat} {sto : List Ob} (hr : r ≤ sto.length) (hb : sto[b]? = some (mbox m)) (hbr : b < r) : Tri Tryz.prog 122 r [.gptr b 0, encOs os] sto (fun d k => d = .bool (decide (okOs m.n os)) ∧ k = sto) :=
  (c_deal_Known_0 m hm os).boxRO (nr_mcs m) rfl (nrBL_O rfl) (fun d h => by subst h; exact ⟨rfl, rfl⟩) hr hb hbr
end Go.Lv

namespace Go.Lv
open Go.Proofs

noncomputable def findDr (id : Int) : List Drv → Option Drv
  | [] => none
  | o :: r => if o.id = id then some o else findDr id r
noncomputable def zeroDr : Drv := ⟨0, 0, 0, ⟨0, 0⟩, false⟩
noncomputable def drOf (id : Int) (ds : List Drv) : Drv := (findDr id ds).getD zeroDr
noncomputable def drOfD (id : Int) (ds : List Drv) : D := .tup [.agg (rowDr (drOf id ds)), .bool (findDr id ds).isSome]
theorem findDr_at {id : Int} {ds : List Drv} {i : Nat} (h : i < ds.length) : findDr id (ds.drop i) = if ds[i].id = id then some ds[i] else findDr id (ds.drop (i + 1)) := by
  rw [List.drop_eq_getElem_cons h]
  rfl
theorem findDr_mem {id : Int} : ∀ {os : List Drv} {o : Drv}, findDr id os = some o → o ∈ os ∧ o.id = id
  | [], o, h => by cases h
  | x :: r, o, h => by
    unfold findDr at h
    split at h
    · rename_i e
      cases h
      exact ⟨by simp, e⟩
    · have := findDr_mem h
      exact ⟨by simp [this.1], this.2⟩
theorem findDr_none {id : Int} : ∀ {os : List Drv}, findDr id os = none ↔ ∀ o, o ∈ os → o.id ≠ id
  | [] => by simp [findDr]
  | x :: r => by
    unfold findDr
    split
    · rename_i e
      simp [e]
    · rename_i e
      rw [findDr_none]
      simp [e]

noncomputable def sDf (os : List Drv) (id : Int) (i : Nat) : DS := ⟨[(1, .int .i64 id), (8, encDs os), (9, .int .i64 (os.length : Int)), (10, .int .i64 (i : Int)), (4, .lptr 4 0 0), (5, .bool false)], [(4, rowDr zeroDr)], [], mR 0⟩
set_option maxHeartbeats 4000000 in
theorem c_cert_Driver_0 (os : List Drv) (hl : os.length ≤ 1000000000000000) (id : Int) : Tri Tryz.prog 60 0 [encDs os, .int .i64 id] [] (fun d k => d = drOfD id os ∧ k = []) := by
  refine Tri.walk2 (L := LT) (c := {n := 21, ko := [5], kb := [4]}) [] [0, 1, 4, 5, 7, 8, 9, 10, 11, 17] hLT hmix Tryz.func60 rfl rfl ⟨rfl, rfl⟩ (by show 2 ≤ 21; decide) (by first | exact Nat.zero_le _ | exact Nat.le_refl _ | exact Nat.le_succ 1 | decide) ?_
  show Ok _ _ _ _ _
  refine Ok.loopN hLT hmix [] [0, 1, 4, 5, 7, 8, 9, 10, 11, 17] [1,8,9,10,4,5] [4] (fun n s => ∃ i : Nat, n = os.length - i ∧ i ≤ os.length ∧ findDr id (os.drop i) = findDr id os ∧ s = sDf os id i) (n := os.length) ⟨0, rfl, Nat.zero_le _, rfl, by unfold sDf; rw [← List.length_map (f := rowDr)]; rfl⟩ ?_
  rintro n s ⟨i, rfl, hi, hix, rfl⟩
  unfold drOfD drOf
  refine And.intro (fun h1 => ?_) (fun h1 => ?_)
  · have h1 : ((i : Nat) : Int) < (os.length : Int) := of_decide_eq_true h1
    have hw := wrap_succ (i := i) (n := os.length) (by omega) hl
    rw [findDr_at (by omega)] at hix
    refine ⟨(os).map rowDr, rowDr ((os)[i]'(by omega)), rfl, by omega, row_at' rowDr (os) (by omega) (by omega), rfl, of_decide_eq_true rfl, ?_⟩
    refine And.intro (fun h2 => ?_) (fun h2 => ?_)
    · have h2 : os[i].id = id := of_decide_eq_true h2
      rw [if_pos h2] at hix
      rw [← hix]
      exact And.intro rfl rfl
    · have h2 : ¬ os[i].id = id := of_decide_eq_false h2
      rw [if_neg h2] at hix
      refine ⟨os.length - (i + 1), by omega, i + 1, rfl, by omega, hix, ?_⟩
      unfold sDf
      rw [← hw]
      rfl
  · have h1 : ¬ ((i : Nat) : Int) < (os.length : Int) := of_decide_eq_false h1
    rw [List.drop_eq_nil_of_le (by omega)] at hix
    rw [← hix]
    exact And.intro rfl rfl
theorem c_cert_Driver (os : List Drv) (hl : os.length ≤ 1000000000000000) {xs : List (List D)} (hx : xs = os.map rowDr) (id : Int) {r : Nat} {sto : List Ob} (hr : r ≤ sto.length) : Tri Tryz.prog 60 r [.list .imm xs, .int .i64 id] sto (fun d k => d = drOfD id os ∧ k = sto) := by
  subst hx
  exact (c_cert_Driver_0 os hl id).pure rfl (nrBL_Dr rfl) rfl rfl hr

noncomputable def togO (m : Mp) (ds : List Drv) (os : List Ord) (p : Pln) : Prop := ds.length ≤ 8 ∧ okOs m.n os ∧ rightP p = true ∧ (∀ d, d ∈ ds → errD m.n d = 0) ∧ ds.Pairwise (fun a b => a.id ≠ b.id)
noncomputable instance (m : Mp) (ds : List Drv) (os : List Ord) (p : Pln) : Decidable (togO m ds os p) := by unfold togO; infer_instance
theorem pwD_snoc {os : List Drv} {i : Nat} (hi : i < os.length) (h : (os.take i).Pairwise (fun a b => a.id ≠ b.id)) (hn : ∀ x, x ∈ os.take i → x.id ≠ os[i].id) : (os.take (i + 1)).Pairwise (fun a b => a.id ≠ b.id) := by
  rw [List.take_succ_eq_append_getElem hi, List.pairwise_append]
  exact ⟨h, by simp, fun a ha b hb => by rw [List.mem_singleton.1 hb]; exact hn a ha⟩
theorem pwD_no {os : List Drv} {i j : Nat} (hi : i < os.length) (hj : j < i) (e : (os[j]'(by omega)).id = os[i].id) : ¬ os.Pairwise (fun a b => a.id ≠ b.id) := fun h => (List.pairwise_iff_getElem.1 h j i (by omega) hi hj) e
theorem pwD_no' {os : List Drv} {i : Nat} (hi : i < os.length) (h : ∃ x, x ∈ os.take i ∧ x.id = os[i].id) : ¬ os.Pairwise (fun a b => a.id ≠ b.id) := by
  obtain ⟨x, hx, e⟩ := h
  obtain ⟨j, hj, rfl⟩ := List.mem_iff_getElem.1 hx
  rw [List.getElem_take] at e
  rw [List.length_take] at hj
  exact pwD_no hi (by omega) e
theorem take_rowsDr (os : List Drv) (i : Nat) {n : Int} (h : n = (i : Int)) : ((os.map rowDr).drop 0).take (n.toNat - 0) = (os.take i).map rowDr := by
  subst h
  simp [List.map_take]
theorem drOf_isSome {id : Int} {os : List Drv} : (findDr id os).isSome = true ↔ ∃ x, x ∈ os ∧ x.id = id := by
  cases hf : findDr id os with
  | none =>
    have := findDr_none.1 hf
    simp only [Option.isSome_none, Bool.false_eq_true, false_iff]
    rintro ⟨x, hx, e⟩
    exact this x hx e
  | some o =>
    simp only [Option.isSome_some, true_iff]
    exact ⟨o, findDr_mem hf⟩
noncomputable def sTg (m : Mp) (ds : List Drv) (i : Nat) : DS := ⟨[(0, .gptr 0 0), (1, encDs ds), (31, encDs ds), (32, .int .i64 (ds.length : Int)), (33, .int .i64 (i : Int)), (8, .bool false)], [], [mbox m], mR 1⟩
set_option maxHeartbeats 8000000 in
theorem c_cert_Together_0 (m : Mp) (hm : okMp m) (ds : List Drv) (os : List Ord) (p : Pln) : Tri Tryz.prog 83 1 [.gptr 0 0, encDs ds, encOs os, encP p] [mbox m] (fun x k => x = .bool (decide (togO m ds os p)) ∧ k = [mbox m]) := by
  refine Tri.walk2 (L := LT) (c := {n := 55, ko := [8]}) [] [0, 1, 2, 3, 8, 9, 10, 12, 30, 31, 32, 33, 34, 53] hLT hmix Tryz.func83 rfl rfl ⟨rfl, rfl⟩ (by show 4 ≤ 55; decide) (by first | exact Nat.zero_le _ | exact Nat.le_refl _ | exact Nat.le_succ 1 | decide) ?_
  repeat (first | refine And.intro (fun _ => ?_) (fun h => Bool.noConfusion h) | refine And.intro (fun h => Bool.noConfusion h) (fun _ => ?_))
  refine And.intro (fun h0 => ?_) (fun h0 => ?_)
  · have h0 : ((ds.map rowDr).length : Int) > 8 := of_decide_eq_true h0
    repeat (first | refine And.intro (fun _ => ?_) (fun h => Bool.noConfusion h) | refine And.intro (fun h => Bool.noConfusion h) (fun _ => ?_))
    rw [List.length_map] at h0
    rw [decide_eq_false (show ¬ togO m ds os p from fun h => by have := h.1; omega)]
    exact And.intro rfl rfl
  have h0 : ¬ ((ds.map rowDr).length : Int) > 8 := of_decide_eq_false h0
  rw [List.length_map] at h0
  repeat (first | refine And.intro (fun _ => ?_) (fun h => Bool.noConfusion h) | refine And.intro (fun h => Bool.noConfusion h) (fun _ => ?_))
  refine ⟨rfl, (by first | exact Nat.zero_le _ | exact Nat.le_refl _ | exact Nat.le_succ 1 | decide), (c_deal_Known m hm os (r := 1) (sto := [mbox m]) (Nat.le_refl 1) rfl (Nat.lt_succ_self 0)).mono ?_⟩
  rintro d l ⟨rfl, rfl⟩
  refine ⟨rfl, fun _ _ => rfl, rfl, ?_⟩
  cases h1 : decide (okOs m.n os) with
  | false =>
    repeat (first | refine And.intro (fun _ => ?_) (fun h => Bool.noConfusion h) | refine And.intro (fun h => Bool.noConfusion h) (fun _ => ?_))
    rw [decide_eq_false (show ¬ togO m ds os p from fun h => of_decide_eq_false h1 h.2.1)]
    exact And.intro rfl rfl
  | true =>
  have h1 := of_decide_eq_true h1
  repeat (first | refine And.intro (fun _ => ?_) (fun h => Bool.noConfusion h) | refine And.intro (fun h => Bool.noConfusion h) (fun _ => ?_))
  refine ⟨rfl, (by first | exact Nat.zero_le _ | exact Nat.le_refl _ | exact Nat.le_succ 1 | decide), (c_plan_Right p (r := 1) (sto := [mbox m]) (Nat.le_refl 1)).mono ?_⟩
  rintro d l ⟨rfl, rfl⟩
  refine ⟨rfl, fun _ _ => rfl, rfl, ?_⟩
  cases h2 : rightP p with
  | false =>
    repeat (first | refine And.intro (fun _ => ?_) (fun h => Bool.noConfusion h) | refine And.intro (fun h => Bool.noConfusion h) (fun _ => ?_))
    rw [decide_eq_false (show ¬ togO m ds os p from fun h => by rw [h.2.2.1] at h2; cases h2)]
    exact And.intro rfl rfl
  | true =>
  repeat (first | refine And.intro (fun _ => ?_) (fun h => Bool.noConfusion h) | refine And.intro (fun h => Bool.noConfusion h) (fun _ => ?_))
  show Ok _ _ _ _ _
  refine Ok.loopN hLT hmix [] [0, 1, 2, 3, 8, 9, 10, 12, 30, 31, 32, 33, 34, 53] [0,1,31,32,33,8] [] (fun n s => ∃ i : Nat, n = ds.length - i ∧ i ≤ ds.length ∧ (∀ o, o ∈ ds.take i → errD m.n o = 0) ∧ (ds.take i).Pairwise (fun a b => a.id ≠ b.id) ∧ s = sTg m ds i) (n := ds.length) ⟨0, rfl, Nat.zero_le _, by simp, by simp, by unfold sTg; rw [← List.length_map (f := rowDr)]; rfl⟩ ?_
  rintro n s ⟨i, rfl, hi, hall, hpw, rfl⟩
  refine And.intro (fun h3 => ?_) (fun h3 => ?_)
  rotate_left
  · have h3 : ¬ ((i : Nat) : Int) < (ds.length : Int) := of_decide_eq_false h3
    rw [List.take_of_length_le (by omega)] at hall hpw
    rw [decide_eq_true (show togO m ds os p from ⟨by omega, h1, h2, hall, hpw⟩)]
    exact And.intro rfl rfl
  have h3 : ((i : Nat) : Int) < (ds.length : Int) := of_decide_eq_true h3
  have hil : i < ds.length := by omega
  have hw := wrap_succ (i := i) (n := ds.length) hil (by omega)
  have hal : allLen 6 (ds.map rowDr) = true := by simp [allLen, rowDr]
  have hcl := c_cert_Driver (ds.take i) (by rw [List.length_take]; omega) (take_rowsDr ds i rfl) ds[i].id (r := 1) (sto := [mbox m]) (Nat.le_refl 1)
  unfold drOfD at hcl
  have hso := drOf_isSome (id := ds[i].id) (os := ds.take i)
  have hno := fun h => pwD_no' hil h
  have hsn := fun h => pwD_snoc hil hpw h
  have hle := fun h => (h : togO m ds os p).2.2.2.1 ds[i] (List.getElem_mem _)
  have htk := List.take_succ_eq_append_getElem hil
  generalize drOf ds[i].id (ds.take i) = dz at hcl
  generalize (findDr ds[i].id (ds.take i)).isSome = q at hcl hso
  refine ⟨(ds).map rowDr, rowDr ((ds)[i]'(by omega)), rfl, by omega, row_at' rowDr (ds) (by omega) (by omega), rfl, of_decide_eq_true rfl, ?_⟩
  generalize ds[i] = d at hcl hso hno hsn hle htk ⊢
  cases q with
  | true =>
    refine ⟨⟨3071, [0, 0, 3, 0, 8, 20, 32, 64, 64, 0, 767, 2047], [1, 2, 7, 8, 24, 63, 127, 255, 383, 512, 1791, 4095]⟩, by kernel_rfl, ?_⟩
    refine And.intro ⟨by omega, by (try rw [List.length_map]); omega⟩ (And.intro (Nat.zero_le _) (And.intro (of_decide_eq_true rfl) (And.intro (by assumption) (And.intro rfl ?_))))
    refine (fun (hrest : _) => And.intro (by
        refine ⟨rfl, (by first | exact Nat.zero_le _ | exact Nat.le_refl _ | exact Nat.le_succ 1 | decide), (hcl).mono ?_⟩
        rintro d l ⟨rfl, rfl⟩
        refine ⟨rfl, fun _ _ => rfl, rfl, ?_⟩
        refine And.intro (by repeat (first | exact trivial | refine And.intro ⟨rfl, rfl⟩ ?_ | refine And.intro (And.intro ⟨by omega, by (try rw [List.length_map]); omega⟩ (And.intro (Nat.zero_le _) (And.intro (of_decide_eq_true rfl) (And.intro (by assumption) (And.intro rfl (And.intro rfl rfl)))))) ?_ | refine And.intro ⟨_, _, rfl, by omega, row_at' _ _ rfl (by omega), rfl, of_decide_eq_true rfl, And.intro rfl (And.intro rfl rfl)⟩ ?_)) ?_
        refine And.intro (fun _ => ?_) (fun h => Bool.noConfusion h)
        refine And.intro ?_ trivial
        refine And.intro (by repeat (first | exact trivial | refine And.intro ⟨rfl, rfl⟩ ?_ | refine And.intro (And.intro ⟨by omega, by (try rw [List.length_map]); omega⟩ (And.intro (Nat.zero_le _) (And.intro (of_decide_eq_true rfl) (And.intro (by assumption) (And.intro rfl (And.intro rfl rfl)))))) ?_ | refine And.intro ⟨_, _, rfl, by omega, row_at' _ _ rfl (by omega), rfl, of_decide_eq_true rfl, And.intro rfl (And.intro rfl rfl)⟩ ?_)) ?_
        refine And.intro ?_ trivial
        refine And.intro (by repeat (first | exact trivial | refine And.intro ⟨rfl, rfl⟩ ?_ | refine And.intro (And.intro ⟨by omega, by (try rw [List.length_map]); omega⟩ (And.intro (Nat.zero_le _) (And.intro (of_decide_eq_true rfl) (And.intro (by assumption) (And.intro rfl (And.intro rfl rfl)))))) ?_ | refine And.intro ⟨_, _, rfl, by omega, row_at' _ _ rfl (by omega), rfl, of_decide_eq_true rfl, And.intro rfl (And.intro rfl rfl)⟩ ?_)) ?_
        refine And.intro ?_ trivial
        refine And.intro (by repeat (first | exact trivial | refine And.intro ⟨rfl, rfl⟩ ?_ | refine And.intro (And.intro ⟨by omega, by (try rw [List.length_map]); omega⟩ (And.intro (Nat.zero_le _) (And.intro (of_decide_eq_true rfl) (And.intro (by assumption) (And.intro rfl (And.intro rfl rfl)))))) ?_ | refine And.intro ⟨_, _, rfl, by omega, row_at' _ _ rfl (by omega), rfl, of_decide_eq_true rfl, And.intro rfl (And.intro rfl rfl)⟩ ?_)) ?_
        exact hrest) (And.intro (by
        refine And.intro (by repeat (first | exact trivial | refine And.intro ⟨rfl, rfl⟩ ?_ | refine And.intro (And.intro ⟨by omega, by (try rw [List.length_map]); omega⟩ (And.intro (Nat.zero_le _) (And.intro (of_decide_eq_true rfl) (And.intro (by assumption) (And.intro rfl (And.intro rfl rfl)))))) ?_ | refine And.intro ⟨_, _, rfl, by omega, row_at' _ _ rfl (by omega), rfl, of_decide_eq_true rfl, And.intro rfl (And.intro rfl rfl)⟩ ?_)) ?_
        refine And.intro ?_ trivial
        refine ⟨rfl, (by first | exact Nat.zero_le _ | exact Nat.le_refl _ | exact Nat.le_succ 1 | decide), (hcl).mono ?_⟩
        rintro d l ⟨rfl, rfl⟩
        refine ⟨rfl, fun _ _ => rfl, rfl, ?_⟩
        refine And.intro (by repeat (first | exact trivial | refine And.intro ⟨rfl, rfl⟩ ?_ | refine And.intro (And.intro ⟨by omega, by (try rw [List.length_map]); omega⟩ (And.intro (Nat.zero_le _) (And.intro (of_decide_eq_true rfl) (And.intro (by assumption) (And.intro rfl (And.intro rfl rfl)))))) ?_ | refine And.intro ⟨_, _, rfl, by omega, row_at' _ _ rfl (by omega), rfl, of_decide_eq_true rfl, And.intro rfl (And.intro rfl rfl)⟩ ?_)) ?_
        refine And.intro (fun _ => ?_) (fun h => Bool.noConfusion h)
        refine And.intro ?_ trivial
        refine And.intro (by repeat (first | exact trivial | refine And.intro ⟨rfl, rfl⟩ ?_ | refine And.intro (And.intro ⟨by omega, by (try rw [List.length_map]); omega⟩ (And.intro (Nat.zero_le _) (And.intro (of_decide_eq_true rfl) (And.intro (by assumption) (And.intro rfl (And.intro rfl rfl)))))) ?_ | refine And.intro ⟨_, _, rfl, by omega, row_at' _ _ rfl (by omega), rfl, of_decide_eq_true rfl, And.intro rfl (And.intro rfl rfl)⟩ ?_)) ?_
        refine And.intro ?_ trivial
        refine And.intro (by repeat (first | exact trivial | refine And.intro ⟨rfl, rfl⟩ ?_ | refine And.intro (And.intro ⟨by omega, by (try rw [List.length_map]); omega⟩ (And.intro (Nat.zero_le _) (And.intro (of_decide_eq_true rfl) (And.intro (by assumption) (And.intro rfl (And.intro rfl rfl)))))) ?_ | refine And.intro ⟨_, _, rfl, by omega, row_at' _ _ rfl (by omega), rfl, of_decide_eq_true rfl, And.intro rfl (And.intro rfl rfl)⟩ ?_)) ?_
        exact hrest) trivial)) ?_
    repeat (first | refine And.intro (fun _ => ?_) (fun h => Bool.noConfusion h) | refine And.intro (fun h => Bool.noConfusion h) (fun _ => ?_))
    rw [decide_eq_false (show ¬ togO m ds os p from fun h => hno (hso.1 rfl) h.2.2.2.2)]
    exact And.intro rfl rfl
  | false =>
  refine ⟨⟨3071, [0, 0, 3, 0, 8, 20, 32, 64, 64, 0, 767, 2047], [1, 2, 7, 8, 24, 63, 127, 255, 383, 512, 1791, 4095]⟩, by kernel_rfl, ?_⟩
  refine And.intro ⟨by omega, by (try rw [List.length_map]); omega⟩ (And.intro (Nat.zero_le _) (And.intro (of_decide_eq_true rfl) (And.intro (by assumption) (And.intro rfl ?_))))
  refine (fun (hrest : _) => And.intro (by
      refine ⟨rfl, (by first | exact Nat.zero_le _ | exact Nat.le_refl _ | exact Nat.le_succ 1 | decide), (hcl).mono ?_⟩
      rintro d l ⟨rfl, rfl⟩
      refine ⟨rfl, fun _ _ => rfl, rfl, ?_⟩
      refine And.intro (by repeat (first | exact trivial | refine And.intro ⟨rfl, rfl⟩ ?_ | refine And.intro (And.intro ⟨by omega, by (try rw [List.length_map]); omega⟩ (And.intro (Nat.zero_le _) (And.intro (of_decide_eq_true rfl) (And.intro (by assumption) (And.intro rfl (And.intro rfl rfl)))))) ?_ | refine And.intro ⟨_, _, rfl, by omega, row_at' _ _ rfl (by omega), rfl, of_decide_eq_true rfl, And.intro rfl (And.intro rfl rfl)⟩ ?_)) ?_
      refine And.intro (fun h => Bool.noConfusion h) (fun _ => ?_)
      refine And.intro ?_ trivial
      refine And.intro (by repeat (first | exact trivial | refine And.intro ⟨rfl, rfl⟩ ?_ | refine And.intro (And.intro ⟨by omega, by (try rw [List.length_map]); omega⟩ (And.intro (Nat.zero_le _) (And.intro (of_decide_eq_true rfl) (And.intro (by assumption) (And.intro rfl (And.intro rfl rfl)))))) ?_ | refine And.intro ⟨_, _, rfl, by omega, row_at' _ _ rfl (by omega), rfl, of_decide_eq_true rfl, And.intro rfl (And.intro rfl rfl)⟩ ?_)) ?_
      refine And.intro ?_ trivial
      refine And.intro (by repeat (first | exact trivial | refine And.intro ⟨rfl, rfl⟩ ?_ | refine And.intro (And.intro ⟨by omega, by (try rw [List.length_map]); omega⟩ (And.intro (Nat.zero_le _) (And.intro (of_decide_eq_true rfl) (And.intro (by assumption) (And.intro rfl (And.intro rfl rfl)))))) ?_ | refine And.intro ⟨_, _, rfl, by omega, row_at' _ _ rfl (by omega), rfl, of_decide_eq_true rfl, And.intro rfl (And.intro rfl rfl)⟩ ?_)) ?_
      refine And.intro ?_ trivial
      refine And.intro (by repeat (first | exact trivial | refine And.intro ⟨rfl, rfl⟩ ?_ | refine And.intro (And.intro ⟨by omega, by (try rw [List.length_map]); omega⟩ (And.intro (Nat.zero_le _) (And.intro (of_decide_eq_true rfl) (And.intro (by assumption) (And.intro rfl (And.intro rfl rfl)))))) ?_ | refine And.intro ⟨_, _, rfl, by omega, row_at' _ _ rfl (by omega), rfl, of_decide_eq_true rfl, And.intro rfl (And.intro rfl rfl)⟩ ?_)) ?_
      exact hrest) (And.intro (by
      refine And.intro (by repeat (first | exact trivial | refine And.intro ⟨rfl, rfl⟩ ?_ | refine And.intro (And.intro ⟨by omega, by (try rw [List.length_map]); omega⟩ (And.intro (Nat.zero_le _) (And.intro (of_decide_eq_true rfl) (And.intro (by assumption) (And.intro rfl (And.intro rfl rfl)))))) ?_ | refine And.intro ⟨_, _, rfl, by omega, row_at' _ _ rfl (by omega), rfl, of_decide_eq_true rfl, And.intro rfl (And.intro rfl rfl)⟩ ?_)) ?_
      refine And.intro ?_ trivial
      refine ⟨rfl, (by first | exact Nat.zero_le _ | exact Nat.le_refl _ | exact Nat.le_succ 1 | decide), (hcl).mono ?_⟩
      rintro d l ⟨rfl, rfl⟩
      refine ⟨rfl, fun _ _ => rfl, rfl, ?_⟩
      refine And.intro (by repeat (first | exact trivial | refine And.intro ⟨rfl, rfl⟩ ?_ | refine And.intro (And.intro ⟨by omega, by (try rw [List.length_map]); omega⟩ (And.intro (Nat.zero_le _) (And.intro (of_decide_eq_true rfl) (And.intro (by assumption) (And.intro rfl (And.intro rfl rfl)))))) ?_ | refine And.intro ⟨_, _, rfl, by omega, row_at' _ _ rfl (by omega), rfl, of_decide_eq_true rfl, And.intro rfl (And.intro rfl rfl)⟩ ?_)) ?_
      refine And.intro (fun h => Bool.noConfusion h) (fun _ => ?_)
      refine And.intro ?_ trivial
      refine And.intro (by repeat (first | exact trivial | refine And.intro ⟨rfl, rfl⟩ ?_ | refine And.intro (And.intro ⟨by omega, by (try rw [List.length_map]); omega⟩ (And.intro (Nat.zero_le _) (And.intro (of_decide_eq_true rfl) (And.intro (by assumption) (And.intro rfl (And.intro rfl rfl)))))) ?_ | refine And.intro ⟨_, _, rfl, by omega, row_at' _ _ rfl (by omega), rfl, of_decide_eq_true rfl, And.intro rfl (And.intro rfl rfl)⟩ ?_)) ?_
      refine And.intro ?_ trivial
      refine And.intro (by repeat (first | exact trivial | refine And.intro ⟨rfl, rfl⟩ ?_ | refine And.intro (And.intro ⟨by omega, by (try rw [List.length_map]); omega⟩ (And.intro (Nat.zero_le _) (And.intro (of_decide_eq_true rfl) (And.intro (by assumption) (And.intro rfl (And.intro rfl rfl)))))) ?_ | refine And.intro ⟨_, _, rfl, by omega, row_at' _ _ rfl (by omega), rfl, of_decide_eq_true rfl, And.intro rfl (And.intro rfl rfl)⟩ ?_)) ?_
      exact hrest) trivial)) ?_
  repeat (first | refine And.intro (fun _ => ?_) (fun h => Bool.noConfusion h) | refine And.intro (fun h => Bool.noConfusion h) (fun _ => ?_))
  refine ⟨rfl, (by first | exact Nat.zero_le _ | exact Nat.le_refl _ | exact Nat.le_succ 1 | decide), (c_deal_Driver m hm d (r := 1) (sto := [mbox m]) (Nat.le_refl 1) rfl (Nat.lt_succ_self 0)).mono ?_⟩
  rintro d l ⟨rfl, rfl⟩
  refine ⟨rfl, fun _ _ => rfl, rfl, ?_⟩
  refine And.intro (fun h4 => ?_) (fun h4 => ?_)
  · have h4 := nd_true h4
    repeat (first | refine And.intro (fun _ => ?_) (fun h => Bool.noConfusion h) | refine And.intro (fun h => Bool.noConfusion h) (fun _ => ?_))
    rw [decide_eq_false (show ¬ togO m ds os p from fun h => h4 (hle h))]
    exact And.intro rfl rfl
  have h4 := nd_false h4
  repeat (first | refine And.intro (fun _ => ?_) (fun h => Bool.noConfusion h) | refine And.intro (fun h => Bool.noConfusion h) (fun _ => ?_))
  refine ⟨ds.length - (i + 1), by omega, i + 1, rfl, by omega, fun x hx => ?_, hsn (fun x hx e => by have := hso.2 ⟨x, hx, e⟩; cases this), ?_⟩
  · rw [htk] at hx
    rcases List.mem_append.1 hx with hx | hx
    · exact hall x hx
    · rw [List.mem_singleton.1 hx]
      exact h4
  · unfold sTg
    rw [← hw]
    rfl
theorem c_cert_Together (m : Mp) (hm : okMp m) (ds : List Drv) (os : List Ord) (p : Pln) {r b : Nat} {sto : List Ob} (hr : r ≤ sto.length) (hb : sto[b]? = some (mbox m)) (hbr : b < r) : Tri Tryz.prog 83 r [.gptr b 0, encDs ds, encOs os, encP p] sto (fun x k => x = .bool (decide (togO m ds os p)) ∧ k = sto) :=
  (c_cert_Together_0 m hm ds os p).boxRO (nr_mcs m) rfl (nrBL_Dr (nrBL_O (nrBL_P rfl))) (fun d h => by subst h; exact ⟨rfl, rfl⟩) hr hb hbr

end Go.Lv

namespace Go.Lv
open Go.Proofs

noncomputable def fcs : List D := [.gptr 0 0, .list .imm [], .list .imm [], .list .imm [], .list .imm []]
noncomputable def fbox : Ob := .box fcs
noncomputable def rbox : Ob := .box [.int .i64 0, .list .imm []]
theorem c_dispatch_New_nil_0 : Tri Tryz.prog 7 0 [.nil] [] (fun x k => x = .nil ∧ k = []) := by
  refine Tri.walk2 (L := LT) (c := {n := 9, gl := [8], ko := [2]}) [] [0, 2, 4] hLT hmix Tryz.func7 rfl rfl ⟨rfl, rfl⟩ (by show 1 ≤ 9; decide) (by first | exact Nat.zero_le _ | exact Nat.le_refl _ | exact Nat.le_succ 1 | decide) ?_
  repeat (first | refine And.intro (fun _ => ?_) (fun h => Bool.noConfusion h) | refine And.intro (fun h => Bool.noConfusion h) (fun _ => ?_))
  exact And.intro rfl rfl
theorem c_dispatch_New (m : Mp) : Tri Tryz.prog 7 2 [.gptr 0 0] [mbox m, mbox m] (fun x k => x = .gptr 2 0 ∧ k = [mbox m, mbox m, fbox]) := by
  refine Tri.walk2 (L := LT) (c := {n := 9, gl := [8], ko := [2]}) [] [0, 2, 4] hLT hmix Tryz.func7 rfl rfl ⟨rfl, rfl⟩ (by show 1 ≤ 9; decide) (by first | exact Nat.zero_le _ | exact Nat.le_refl _ | exact Nat.le_succ 1 | decide) ?_
  repeat (first | refine And.intro (fun _ => ?_) (fun h => Bool.noConfusion h) | refine And.intro (fun h => Bool.noConfusion h) (fun _ => ?_))
  exact And.intro rfl rfl
theorem c_dispatch_Of_nil_0 : Tri Tryz.prog 10 0 [.nil, .agg [.list .imm [], .list .imm [], .list .imm []], .list .imm []] [] (fun x k => x = .tup [.nil, .int .i64 4] ∧ k = []) := by
  refine Tri.walk2 (L := LT) (c := {n := 31, gl := [30], ko := [6, 7]}) [] [0, 1, 2, 4, 6, 7, 22] hLT hmix Tryz.func10 rfl rfl ⟨rfl, rfl⟩ (by show 3 ≤ 31; decide) (by first | exact Nat.zero_le _ | exact Nat.le_refl _ | exact Nat.le_succ 1 | decide) ?_
  repeat (first | refine And.intro (fun _ => ?_) (fun h => Bool.noConfusion h) | refine And.intro (fun h => Bool.noConfusion h) (fun _ => ?_))
  exact And.intro rfl rfl
theorem c_dispatch_Map (m : Mp) : Tri Tryz.prog 13 4 [.gptr 2 0] [mbox m, mbox m, fbox, rbox] (fun x k => x = .gptr 0 0 ∧ k = [mbox m, mbox m, fbox, rbox]) := by
  refine Tri.walk2 (L := LT) (c := {n := 8, ko := [2]}) [] [0, 2] hLT hmix Tryz.func13 rfl rfl ⟨rfl, rfl⟩ (by show 1 ≤ 8; decide) (by first | exact Nat.zero_le _ | exact Nat.le_refl _ | exact Nat.le_succ 1 | decide) ?_
  repeat (first | refine And.intro (fun _ => ?_) (fun h => Bool.noConfusion h) | refine And.intro (fun h => Bool.noConfusion h) (fun _ => ?_))
  exact And.intro rfl rfl
theorem c_geo_Places_4 (m : Mp) : Tri Tryz.prog 14 4 [.gptr 0 0] [mbox m, mbox m, fbox, rbox] (fun x k => x = .int .i64 m.n ∧ k = [mbox m, mbox m, fbox, rbox]) := by
  refine Tri.walk2 (L := LT) (c := {n := 9, ko := [2]}) [] [0, 2, 4] hLT hmix Tryz.func14 rfl rfl ⟨rfl, rfl⟩ (by show 1 ≤ 9; decide) (by first | exact Nat.zero_le _ | exact Nat.le_refl _ | exact Nat.le_succ 1 | decide) ?_
  repeat (first | refine And.intro (fun _ => ?_) (fun h => Bool.noConfusion h) | refine And.intro (fun h => Bool.noConfusion h) (fun _ => ?_))
  exact And.intro rfl rfl
set_option maxHeartbeats 8000000 in
theorem c_cert_Make_e (m : Mp) (hm : okMp m) : Tri Tryz.prog 41 1 [.gptr 0 0, encDs [], encOs [], encP []] [mbox m] (fun x k => (∃ sz a e, (sz = 0 ∨ sz = 1) ∧ x = .tup [.list (.own sz) [], .agg [.int .i64 a, .int .i64 e]]) ∧ k = [mbox m]) := by
  refine Tri.walk2 (L := LT) (c := {n := 65, ko := [8, 10], kb := [9], xf := [42, 58, 63]}) [] [0, 1, 2, 3, 8, 9, 10, 11, 12, 13, 14, 15, 16, 22, 24, 25, 26, 27, 39, 53] hLT hmix Tryz.func41 rfl rfl ⟨rfl, rfl⟩ (by show 4 ≤ 65; decide) (by first | exact Nat.zero_le _ | exact Nat.le_refl _ | exact Nat.le_succ 1 | decide) ?_
  refine ⟨rfl, (by first | exact Nat.zero_le _ | exact Nat.le_refl _ | exact Nat.le_succ 1 | decide), (c_cert_Together m hm [] [] [] (r := 1) (sto := [mbox m]) (Nat.le_refl 1) rfl (Nat.lt_succ_self 0)).mono ?_⟩
  rintro d l ⟨rfl, rfl⟩
  refine ⟨rfl, fun _ _ => rfl, rfl, ?_⟩
  cases h1 : decide (togO m [] [] []) with
  | false =>
    repeat (first | refine And.intro (fun _ => ?_) (fun h => Bool.noConfusion h) | refine And.intro (fun h => Bool.noConfusion h) (fun _ => ?_))
    exact And.intro ⟨0, _, _, .inl rfl, rfl⟩ rfl
  | true =>
  repeat (first | refine And.intro (fun _ => ?_) (fun h => Bool.noConfusion h) | refine And.intro (fun h => Bool.noConfusion h) (fun _ => ?_))
  show Ok _ _ _ _ _
  refine Ok.loopN hLT hmix [] [0, 1, 2, 3, 8, 9, 10, 11, 12, 13, 14, 15, 16, 22, 24, 25, 26, 27, 39, 53] [0,1,2,8,9,10,24,25,26] [9] (fun n s => n = 0 ∧ s = ⟨[(0, .gptr 0 0), (1, encDs []), (2, encOs []), (8, .list (.own 0) []), (9, .lptr 9 0 0), (10, .list (.own 0) []), (24, encP []), (25, .int .i64 0), (26, .int .i64 0)], [(9, [.int .i64 0, .int .i64 0])], [mbox m], mR 1⟩) (n := 0) ⟨rfl, rfl⟩ ?_
  rintro n s ⟨rfl, rfl⟩
  refine And.intro (fun h2 => ?_) (fun h2 => ?_)
  · exact absurd (of_decide_eq_true h2) (by decide)
  · exact And.intro ⟨0, _, _, .inl rfl, rfl⟩ rfl
theorem c_cert_Make_e4 (m : Mp) (hm : okMp m) : Tri Tryz.prog 41 4 [.gptr 0 0, encDs [], encOs [], encP []] [mbox m, mbox m, fbox, rbox] (fun x k => (∃ sz a e, (sz = 0 ∨ sz = 1) ∧ x = .tup [.list (.own sz) [], .agg [.int .i64 a, .int .i64 e]]) ∧ k = [mbox m, mbox m, fbox, rbox]) :=
  (c_cert_Make_e m hm).boxRO (b := 0) (nr_mcs m) rfl rfl (fun d h => by obtain ⟨sz, a, e, _, rfl⟩ := h; exact ⟨rfl, rfl⟩) (show 4 ≤ 4 by decide) rfl (by decide)
set_option maxHeartbeats 8000000 in
theorem c_dispatch_Cert (m : Mp) (hm : okMp m) : Tri Tryz.prog 12 4 [.gptr 2 0] [mbox m, mbox m, fbox, rbox] (fun x k => x = .list .imm [] ∧ k = [mbox m, mbox m, fbox, rbox]) := by
  refine Tri.walk2 (L := LT) (c := {n := 33, ko := [2], xf := [5]}) [] [0, 2, 3] hLT hmix Tryz.func12 rfl rfl ⟨rfl, rfl⟩ (by show 1 ≤ 33; decide) (by first | exact Nat.zero_le _ | exact Nat.le_refl _ | exact Nat.le_succ 1 | decide) ?_
  have hC := c_cert_Make_e4 m hm
  repeat (first | refine And.intro (fun _ => ?_) (fun h => Bool.noConfusion h) | refine And.intro (fun h => Bool.noConfusion h) (fun _ => ?_))
  refine ⟨⟨536870911, [0, 1, 2, 4, 8, 0, 32, 64, 128, 256, 512, 0, 2048, 4096, 8192, 16384, 32768, 0, 131072, 262144, 524288, 1048576, 2097152, 4260880, 8388608, 16777216, 16777216, 0, 201326591, 536870911], [1, 3, 7, 15, 31, 32, 96, 224, 480, 992, 2016, 2048, 6144, 14336, 30720, 63488, 129024, 131072, 393216, 917504, 1966080, 4063232, 8257536, 16777215, 33554431, 67108863, 100663295, 134217728, 469762047, 1073741823]⟩, by kernel_rfl, ?_⟩
  refine (fun (hrest : ∀ (sz : Nat), (sz = 0 ∨ sz = 1) → _) => by
    refine And.intro ?_ (And.intro ?_ trivial)
    · refine ⟨rfl, Nat.le_refl _, hC.mono ?_⟩
      rintro x k ⟨⟨sz, a1, e1, hsz, rfl⟩, rfl⟩
      refine ⟨rfl, fun _ _ => rfl, rfl, ?_⟩
      refine And.intro (by repeat (first | exact trivial | refine And.intro ⟨rfl, rfl⟩ ?_)) ?_
      refine And.intro ?_ (And.intro ?_ trivial)
      · refine And.intro (by repeat (first | exact trivial | refine And.intro ⟨rfl, rfl⟩ ?_)) ?_
        refine And.intro ?_ (And.intro ?_ (And.intro ?_ trivial))
        · refine And.intro (by repeat (first | exact trivial | refine And.intro ⟨rfl, rfl⟩ ?_)) ?_
          refine And.intro ?_ trivial
          refine And.intro (by repeat (first | exact trivial | refine And.intro ⟨rfl, rfl⟩ ?_)) ?_
          refine And.intro ?_ trivial
          refine And.intro (by repeat (first | exact trivial | refine And.intro ⟨rfl, rfl⟩ ?_)) ?_
          refine And.intro ?_ trivial
          refine And.intro (by repeat (first | exact trivial | refine And.intro ⟨rfl, rfl⟩ ?_)) ?_
          exact hrest sz hsz
        · refine And.intro (by repeat (first | exact trivial | refine And.intro ⟨rfl, rfl⟩ ?_)) ?_
          refine And.intro ?_ (And.intro ?_ trivial)
          · refine And.intro (by repeat (first | exact trivial | refine And.intro ⟨rfl, rfl⟩ ?_)) ?_
            refine And.intro ?_ trivial
            refine And.intro (by repeat (first | exact trivial | refine And.intro ⟨rfl, rfl⟩ ?_)) ?_
            refine And.intro ?_ trivial
            refine And.intro (by repeat (first | exact trivial | refine And.intro ⟨rfl, rfl⟩ ?_)) ?_
            refine And.intro ?_ trivial
            refine And.intro (by repeat (first | exact trivial | refine And.intro ⟨rfl, rfl⟩ ?_)) ?_
            exact hrest sz hsz
          · refine And.intro (by repeat (first | exact trivial | refine And.intro ⟨rfl, rfl⟩ ?_)) ?_
            refine And.intro ?_ trivial
            refine And.intro (by repeat (first | exact trivial | refine And.intro ⟨rfl, rfl⟩ ?_)) ?_
            refine And.intro ?_ trivial
            refine And.intro (by repeat (first | exact trivial | refine And.intro ⟨rfl, rfl⟩ ?_)) ?_
            refine And.intro ?_ trivial
            refine And.intro (by repeat (first | exact trivial | refine And.intro ⟨rfl, rfl⟩ ?_)) ?_
            exact hrest sz hsz
        · refine And.intro (by repeat (first | exact trivial | refine And.intro ⟨rfl, rfl⟩ ?_)) ?_
          refine And.intro ?_ (And.intro ?_ trivial)
          · refine And.intro (by repeat (first | exact trivial | refine And.intro ⟨rfl, rfl⟩ ?_)) ?_
            refine And.intro ?_ trivial
            refine And.intro (by repeat (first | exact trivial | refine And.intro ⟨rfl, rfl⟩ ?_)) ?_
            refine And.intro ?_ trivial
            refine And.intro (by repeat (first | exact trivial | refine And.intro ⟨rfl, rfl⟩ ?_)) ?_
            exact hrest sz hsz
          · refine And.intro (by repeat (first | exact trivial | refine And.intro ⟨rfl, rfl⟩ ?_)) ?_
            refine And.intro ?_ trivial
            refine And.intro (by repeat (first | exact trivial | refine And.intro ⟨rfl, rfl⟩ ?_)) ?_
            refine And.intro ?_ trivial
            refine And.intro (by repeat (first | exact trivial | refine And.intro ⟨rfl, rfl⟩ ?_)) ?_
            refine And.intro ?_ trivial
            refine And.intro (by repeat (first | exact trivial | refine And.intro ⟨rfl, rfl⟩ ?_)) ?_
            exact hrest sz hsz
      · refine And.intro (by repeat (first | exact trivial | refine And.intro ⟨rfl, rfl⟩ ?_)) ?_
        refine And.intro ?_ trivial
        refine And.intro (by repeat (first | exact trivial | refine And.intro ⟨rfl, rfl⟩ ?_)) ?_
        refine And.intro ?_ (And.intro ?_ trivial)
        · refine And.intro (by repeat (first | exact trivial | refine And.intro ⟨rfl, rfl⟩ ?_)) ?_
          refine And.intro ?_ trivial
          refine And.intro (by repeat (first | exact trivial | refine And.intro ⟨rfl, rfl⟩ ?_)) ?_
          refine And.intro ?_ trivial
          refine And.intro (by repeat (first | exact trivial | refine And.intro ⟨rfl, rfl⟩ ?_)) ?_
          exact hrest sz hsz
        · refine And.intro (by repeat (first | exact trivial | refine And.intro ⟨rfl, rfl⟩ ?_)) ?_
          refine And.intro ?_ trivial
          refine And.intro (by repeat (first | exact trivial | refine And.intro ⟨rfl, rfl⟩ ?_)) ?_
          refine And.intro ?_ trivial
          refine And.intro (by repeat (first | exact trivial | refine And.intro ⟨rfl, rfl⟩ ?_)) ?_
          refine And.intro ?_ trivial
          refine And.intro (by repeat (first | exact trivial | refine And.intro ⟨rfl, rfl⟩ ?_)) ?_
          exact hrest sz hsz
    · refine And.intro (by repeat (first | exact trivial | refine And.intro ⟨rfl, rfl⟩ ?_)) ?_
      refine And.intro ?_ trivial
      refine ⟨rfl, Nat.le_refl _, hC.mono ?_⟩
      rintro x k ⟨⟨sz, a1, e1, hsz, rfl⟩, rfl⟩
      refine ⟨rfl, fun _ _ => rfl, rfl, ?_⟩
      refine And.intro (by repeat (first | exact trivial | refine And.intro ⟨rfl, rfl⟩ ?_)) ?_
      refine And.intro ?_ trivial
      refine And.intro (by repeat (first | exact trivial | refine And.intro ⟨rfl, rfl⟩ ?_)) ?_
      refine And.intro ?_ (And.intro ?_ trivial)
      · refine And.intro (by repeat (first | exact trivial | refine And.intro ⟨rfl, rfl⟩ ?_)) ?_
        refine And.intro ?_ trivial
        refine And.intro (by repeat (first | exact trivial | refine And.intro ⟨rfl, rfl⟩ ?_)) ?_
        refine And.intro ?_ trivial
        refine And.intro (by repeat (first | exact trivial | refine And.intro ⟨rfl, rfl⟩ ?_)) ?_
        exact hrest sz hsz
      · refine And.intro (by repeat (first | exact trivial | refine And.intro ⟨rfl, rfl⟩ ?_)) ?_
        refine And.intro ?_ trivial
        refine And.intro (by repeat (first | exact trivial | refine And.intro ⟨rfl, rfl⟩ ?_)) ?_
        refine And.intro ?_ trivial
        refine And.intro (by repeat (first | exact trivial | refine And.intro ⟨rfl, rfl⟩ ?_)) ?_
        refine And.intro ?_ trivial
        refine And.intro (by repeat (first | exact trivial | refine And.intro ⟨rfl, rfl⟩ ?_)) ?_
        exact hrest sz hsz) ?_
  intro sz hsz
  exact And.intro rfl rfl
end Go.Lv

namespace Go.Lv
open Go.Proofs

theorem tRunsR {r : Nat} {sto : List Ob} (hr : r ≤ sto.length) : Tri Tryz.prog 3 r [] sto (fun d l => d = .bool true ∧ l = sto) :=
  tRuns.pureR rfl rfl (fun d h => by subst h; exact ⟨rfl, rfl⟩) hr
theorem evT {n r f : Nat} {args : List D} {sto : List Ob} {d : D} {sto' : List Ob} (h : evF Tryz.prog EH n r f args sto = .ok (d, sto')) : Tri Tryz.prog f r args sto (fun d' l => d' = d ∧ l = sto') := (evF_ok EHok n r f args sto d sto' h).1
theorem c_same_4 (m : Mp) : Tri Tryz.prog 11 4 [.gptr 2 0, .agg [.gptr 3 0, .list .imm [], .list .imm [], .list .imm [], .list .imm []]] [mbox m, mbox m, fbox, rbox] (fun x k => x = .bool true ∧ k = [mbox m, mbox m, fbox, rbox]) :=
  evT (n := 30) (by kernel_rfl)
set_option maxHeartbeats 8000000 in
theorem l_Fresh (n : Int) (l : List Int) (hl : l.length ≤ 1000000000000000) (ds : List Drv) (os : List Ord) (p : Pln) : Tri Tryz.prog 4 0 [.agg (encW n l ds os p)] [] (fun d _ => d = .bool true) := by
  refine Tri.walk2 (L := LT) (c := {n := 68, gl := [45], ko := [2]}) [] [0, 1, 2, 3, 4, 5, 6, 7, 8, 16, 20] hLT hmix Tryz.func4 rfl rfl ⟨rfl, rfl⟩ (by show 1 ≤ 68; decide) (by first | exact Nat.zero_le _ | exact Nat.le_refl _ | exact Nat.le_succ 1 | decide) ?_
  refine ⟨rfl, Nat.le_refl _, (c_draykeep_Maps_0 n l hl ds os p).mono ?_⟩
  rintro d k (⟨rfl, rfl⟩ | ⟨hm, rfl, rfl⟩)
  · refine ⟨rfl, fun k hk => absurd hk (Nat.not_lt_zero k), rfl, ?_⟩
    repeat (first | refine And.intro (fun _ => ?_) (fun h => Bool.noConfusion h) | refine And.intro (fun h => Bool.noConfusion h) (fun _ => ?_))
    refine ⟨rfl, (by first | exact Nat.zero_le _ | exact Nat.le_refl _ | exact Nat.le_succ 1 | decide), (c_dispatch_New_nil_0).mono ?_⟩
    rintro d l ⟨rfl, rfl⟩
    refine ⟨rfl, fun _ _ => rfl, rfl, ?_⟩
    repeat (first | refine And.intro (fun _ => ?_) (fun h => Bool.noConfusion h) | refine And.intro (fun h => Bool.noConfusion h) (fun _ => ?_))
    refine ⟨rfl, (by first | exact Nat.zero_le _ | exact Nat.le_refl _ | exact Nat.le_succ 1 | decide), (c_dispatch_Of_nil_0).mono ?_⟩
    rintro d l ⟨rfl, rfl⟩
    refine ⟨rfl, fun _ _ => rfl, rfl, ?_⟩
    repeat (first | refine And.intro (fun _ => ?_) (fun h => Bool.noConfusion h) | refine And.intro (fun h => Bool.noConfusion h) (fun _ => ?_))
    refine ⟨rfl, (by first | exact Nat.zero_le _ | exact Nat.le_refl _ | exact Nat.le_succ 1 | decide), (tRunsR (r := 0) (sto := []) (Nat.le_refl 0)).mono ?_⟩
    rintro d l ⟨rfl, rfl⟩
    refine ⟨rfl, fun _ _ => rfl, rfl, ?_⟩
    repeat (first | refine And.intro (fun _ => ?_) (fun h => Bool.noConfusion h) | refine And.intro (fun h => Bool.noConfusion h) (fun _ => ?_))
    exact rfl
  · refine ⟨rfl, fun k hk => absurd hk (Nat.not_lt_zero k), rfl, ?_⟩
    repeat (first | refine And.intro (fun _ => ?_) (fun h => Bool.noConfusion h) | refine And.intro (fun h => Bool.noConfusion h) (fun _ => ?_))
    refine ⟨rfl, Nat.zero_le _, (c_dispatch_New ⟨n, l⟩).mono ?_⟩
    rintro x k ⟨rfl, rfl⟩
    refine ⟨rfl, (fun k hk => by match k, hk with | 0, _ => rfl | 1, _ => rfl), rfl, ?_⟩
    repeat (first | refine And.intro (fun _ => ?_) (fun h => Bool.noConfusion h) | refine And.intro (fun h => Bool.noConfusion h) (fun _ => ?_))
    refine ⟨⟨536870911, [0, 1, 2, 4, 4, 20, 36, 76, 132, 384, 512, 1536, 2560, 4608, 8704, 18432, 32768, 98304, 163840, 32768, 557056, 1081344, 2129920, 4489216, 8421376, 17039360, 33554432, 100663296, 268435455], [1, 3, 7, 15, 23, 55, 119, 255, 511, 1023, 2047, 4095, 8191, 16383, 32767, 65535, 131071, 262143, 524287, 589823, 1638399, 3735551, 7929855, 16777215, 33554431, 67108863, 134217727, 268435455, 536870911]⟩, by kernel_rfl, ?_⟩
    repeat (first | refine And.intro (fun _ => ?_) (fun h => Bool.noConfusion h) | refine And.intro (fun h => Bool.noConfusion h) (fun _ => ?_))
    refine And.intro ?_ trivial
    refine And.intro (by repeat (first | exact trivial | refine And.intro ⟨rfl, rfl⟩ ?_)) ?_
    refine And.intro ?_ trivial
    refine And.intro (by repeat (first | exact trivial | refine And.intro ⟨rfl, rfl⟩ ?_)) ?_
    refine And.intro ?_ trivial
    refine And.intro (by repeat (first | exact trivial | refine And.intro ⟨rfl, rfl⟩ ?_)) ?_
    refine And.intro ?_ trivial
    refine ⟨rfl, Nat.zero_le _, (c_same_4 ⟨n, l⟩).mono ?_⟩
    rintro x k ⟨rfl, rfl⟩
    refine ⟨rfl, fun _ _ => rfl, rfl, ?_⟩
    refine And.intro (by repeat (first | exact trivial | refine And.intro ⟨rfl, rfl⟩ ?_)) ?_
    repeat (first | refine And.intro (fun _ => ?_) (fun h => Bool.noConfusion h) | refine And.intro (fun h => Bool.noConfusion h) (fun _ => ?_))
    refine And.intro ?_ trivial
    refine ⟨rfl, Nat.zero_le _, (c_dispatch_Cert ⟨n, l⟩ hm).mono ?_⟩
    rintro x k ⟨rfl, rfl⟩
    refine ⟨rfl, fun _ _ => rfl, rfl, ?_⟩
    refine And.intro (by repeat (first | exact trivial | refine And.intro ⟨rfl, rfl⟩ ?_)) ?_
    repeat (first | refine And.intro (fun _ => ?_) (fun h => Bool.noConfusion h) | refine And.intro (fun h => Bool.noConfusion h) (fun _ => ?_))
    refine And.intro ?_ trivial
    refine ⟨rfl, Nat.zero_le _, (c_dispatch_Map ⟨n, l⟩).mono ?_⟩
    rintro x k ⟨rfl, rfl⟩
    refine ⟨rfl, fun _ _ => rfl, rfl, ?_⟩
    refine And.intro (by repeat (first | exact trivial | refine And.intro ⟨rfl, rfl⟩ ?_)) ?_
    refine And.intro ?_ trivial
    refine ⟨rfl, Nat.zero_le _, (c_geo_Places_4 ⟨n, l⟩).mono ?_⟩
    rintro x k ⟨rfl, rfl⟩
    refine ⟨rfl, fun _ _ => rfl, rfl, ?_⟩
    refine And.intro (by repeat (first | exact trivial | refine And.intro ⟨rfl, rfl⟩ ?_)) ?_
    refine And.intro (fun h9 => ?_) (fun h9 => ?_)
    · repeat (first | refine And.intro (fun _ => ?_) (fun h => Bool.noConfusion h) | refine And.intro (fun h => Bool.noConfusion h) (fun _ => ?_))
      refine And.intro ?_ trivial
      refine ⟨rfl, (by first | exact Nat.zero_le _ | exact Nat.le_refl _ | exact Nat.le_succ 1 | decide), (tRunsR (r := 4) (sto := [mbox ⟨n, l⟩, mbox ⟨n, l⟩, fbox, rbox]) (Nat.le_refl 4)).mono ?_⟩
      rintro d l ⟨rfl, rfl⟩
      refine ⟨rfl, fun _ _ => rfl, rfl, ?_⟩
      refine And.intro (by repeat (first | exact trivial | refine And.intro ⟨rfl, rfl⟩ ?_)) ?_
      repeat (first | refine And.intro (fun _ => ?_) (fun h => Bool.noConfusion h) | refine And.intro (fun h => Bool.noConfusion h) (fun _ => ?_))
      refine And.intro ?_ trivial
      refine And.intro (by repeat (first | exact trivial | refine And.intro ⟨rfl, rfl⟩ ?_)) ?_
      exact rfl
    · exact absurd rfl (of_decide_eq_false h9)
end Go.Lv
