/-
  Part 2 of the texts under the proof: an abstract run of loaded code on data, and what the functions do. No condition.
-/
import Derived.Test.YthdllhoihpmkaaaGreatPlannerRightE1
set_option linter.all false
set_option maxRecDepth 100000
namespace Go.Lv
open Go.Proofs

noncomputable def diagO (n : Int) (l : List Int) (k : Nat) : Prop := ∀ a, a < k → l.getD (a * n.toNat + a) 0 = 0
noncomputable instance (n : Int) (l : List Int) (k : Nat) : Decidable (diagO n l k) := by unfold diagO; infer_instance
noncomputable def timesO (l : List Int) : Prop := ∀ t, t ∈ l → 0 ≤ t ∧ t ≤ 1000000
noncomputable instance (l : List Int) : Decidable (timesO l) := by unfold timesO; infer_instance
noncomputable def newE (n : Int) (l : List Int) : Int :=
  if n < 1 ∨ n > 12 then 1 else
  if (l.length : Int) ≠ n * n then 2 else
  if ¬ timesO l then 7 else
  if ¬ diagO n l n.toNat then 4 else 0
noncomputable def isNew (n : Int) (l : List Int) (N : Nat) (sto : List Ob) (d : D) (k : List Ob) : Prop := (newE n l = 0 ∧ okMp ⟨n, l⟩ ∧ d = .tup [.gptr N 0, .int .i64 0] ∧ k = sto ++ [mbox ⟨n, l⟩]) ∨ (newE n l ≠ 0 ∧ d = .tup [.nil, .int .i64 (newE n l)] ∧ k = sto)
theorem isNew_no {n : Int} {l : List Int} {N : Nat} {sto : List Ob} {e : Int} (h : newE n l = e) (he : e ≠ 0) : isNew n l N sto (.tup [.nil, .int .i64 e]) sto := .inr ⟨by rw [h]; exact he, by rw [h], rfl⟩
theorem diag_idx {n : Int} {a : Nat} (h1 : 1 ≤ n) (h2 : n ≤ 12) (ha : (a : Int) < n) {len : Nat} (hl : (len : Int) = n * n) : IntKind.i64.wrap (IntKind.i64.wrap ((a : Int) * n) + (a : Int)) = ((a * n.toNat + a : Nat) : Int) ∧ a * n.toNat + a < len := by
  have h5 := idx_lt (n := n) (a := (a : Int)) (b := (a : Int)) (by omega) (by omega) ha ha
  have h8 : n * n ≤ 12 * 12 := Int.mul_le_mul h2 h2 (by omega) (by decide)
  have h9 : ((a * n.toNat + a : Nat) : Int) = (a : Int) * n + a := by
    rw [Int.natCast_add, Int.natCast_mul, Int.toNat_of_nonneg (by omega)]
  have h10 : 0 ≤ (a : Int) * n := Int.mul_nonneg (by omega) (by omega)
  refine ⟨?_, by omega⟩
  rw [wrap64 (z := (a : Int) * n) (by omega) (by omega), wrap64 (by omega) (by omega), h9]
theorem Tri.newAny {P : Program} {f : Nat} {args : List D} {n : Int} {l : List Int} (h : Tri P f 0 args [] (fun d k => isNew n l 0 [] d k)) (ha : args.all cellsOK = true) (hn : nrBL 0 args = true) {r : Nat} {sto : List Ob} (hr : r ≤ sto.length) : Tri P f r args sto (fun d k => isNew n l sto.length sto d k) := by
  have := Tri.ren (r := r) (sto := sto) (fun k => k) h (fun i j hi => by cases hi) (fun i o hi => by simp at hi) (fun i hi => by cases hi) hr ha (fun x hx => nrBL_nr hn x hx) (fun o ho => by cases ho) rfl (fun d' l' hh => by
    rcases hh with ⟨_, _, rfl, rfl⟩ | ⟨_, rfl, rfl⟩
    · exact ⟨rfl, rfl⟩
    · exact ⟨rfl, rfl⟩)
  rw [renL_id _ hn] at this
  refine this.mono fun d k ⟨d1, l1, hh, h3, h4⟩ => ?_
  subst h3 h4
  rcases hh with ⟨h1, h2, rfl, rfl⟩ | ⟨h1, rfl, rfl⟩
  · refine .inl ⟨h1, h2, ?_, ?_⟩
    · show D.tup [.gptr (extR _ 0 sto.length 0) 0, .int .i64 0] = _
      simp [extR]
    · show _ ++ [Ob.box (renL _ (mcs ⟨n, l⟩))] = _
      rw [renL_id _ (nr_mcs _)]
      rfl
  · refine .inr ⟨h1, rfl, ?_⟩
    simp [backSto]

noncomputable def sgeo_New1 (n : Int) (l : List Int) (i : Nat) : DS := ⟨[(0, .int .i64 n), (1, .list .imm (l.map rowI)), (4, .nil), (5, .int .i64 0), (21, .list .imm (l.map rowI)), (22, .int .i64 (l.length : Int)), (23, .int .i64 (i : Int))], [], [], mR 0⟩
noncomputable def sgeo_New2 (n : Int) (l : List Int) (i : Nat) : DS := ⟨[(0, .int .i64 n), (1, .list .imm (l.map rowI)), (4, .nil), (5, .int .i64 0), (34, .int .i64 n), (35, .int .i64 (i : Int))], [], [], mR 0⟩
set_option maxHeartbeats 8000000 in
theorem c_geo_New_0 (n : Int) (l : List Int) (hl : l.length ≤ 1000000000000000) : Tri Tryz.prog 10 0 [.int .i64 n, .list .imm (l.map rowI)] [] (fun d k => isNew n l 0 [] d k) := by
  refine Tri.walk2 (L := LT) (c := {n := 53, gl := [52], ko := [4, 5]}) [] [0, 1, 4, 5, 7, 8, 14, 20, 21, 22, 23, 24, 32, 34, 35, 36, 46] hLT hmix Tryz.func10 rfl rfl ⟨rfl, rfl⟩ (by show 2 ≤ 53; decide) (by first | exact Nat.zero_le _ | exact Nat.le_refl _ | exact Nat.le_succ 1 | decide) ?_
  refine And.intro (fun h0 => ?_) (fun h0 => ?_)
  · have h0 : n < 1 := of_decide_eq_true h0
    repeat (first | refine And.intro (fun _ => ?_) (fun h => Bool.noConfusion h) | refine And.intro (fun h => Bool.noConfusion h) (fun _ => ?_))
    exact isNew_no (show newE n l = 1 by unfold newE; rw [if_pos (.inl h0)]) (by decide)
  have h0 : ¬ n < 1 := of_decide_eq_false h0
  repeat (first | refine And.intro (fun _ => ?_) (fun h => Bool.noConfusion h) | refine And.intro (fun h => Bool.noConfusion h) (fun _ => ?_))
  refine And.intro (fun h1 => ?_) (fun h1 => ?_)
  · have h1 : n > 12 := of_decide_eq_true h1
    repeat (first | refine And.intro (fun _ => ?_) (fun h => Bool.noConfusion h) | refine And.intro (fun h => Bool.noConfusion h) (fun _ => ?_))
    exact isNew_no (show newE n l = 1 by unfold newE; rw [if_pos (.inr h1)]) (by decide)
  have h1 : ¬ n > 12 := of_decide_eq_false h1
  repeat (first | refine And.intro (fun _ => ?_) (fun h => Bool.noConfusion h) | refine And.intro (fun h => Bool.noConfusion h) (fun _ => ?_))
  have hnn : n * n ≤ 12 * 12 := Int.mul_le_mul (by omega) (by omega) (by omega) (by decide)
  have hn0 : 0 ≤ n * n := Int.mul_nonneg (by omega) (by omega)
  have hwm : IntKind.i64.wrap (n * n) = n * n := wrap64 (by omega) (by omega)
  have hi0 : ¬ (n < 1 ∨ n > 12) := by omega
  refine And.intro (fun h2 => ?_) (fun h2 => ?_)
  · have h2 : ¬ ((l.map rowI).length : Int) = IntKind.i64.wrap (n * n) := nd_true h2
    rw [List.length_map, hwm] at h2
    exact isNew_no (show newE n l = 2 by unfold newE; rw [if_neg hi0, if_pos h2]) (by decide)
  have h2 : ((l.map rowI).length : Int) = IntKind.i64.wrap (n * n) := nd_false h2
  rw [List.length_map, hwm] at h2
  show Ok _ _ _ _ _
  refine Ok.loopN hLT hmix [] [0, 1, 4, 5, 7, 8, 14, 20, 21, 22, 23, 24, 32, 34, 35, 36, 46] [0,1,4,5,21,22,23] [] (fun k s => ∃ i : Nat, k = l.length - i ∧ i ≤ l.length ∧ timesO (l.take i) ∧ s = sgeo_New1 n l i) (n := l.length) ⟨0, rfl, Nat.zero_le _, (fun t ht => by simp at ht), by unfold sgeo_New1; rw [← List.length_map (f := rowI)]; rfl⟩ ?_
  rintro k s ⟨i, rfl, hi, hti, rfl⟩
  refine And.intro (fun h3 => ?_) (fun h3 => ?_)
  · have h3 : ((i : Nat) : Int) < (l.length : Int) := of_decide_eq_true h3

    have hil : i < l.length := by omega
    have hw := wrap_succ (i := i) (n := l.length) hil hl
    refine ⟨(l).map rowI, rowI ((l)[i]'(by omega)), rfl, by omega, row_at' rowI (l) (by omega) (by omega), rfl, of_decide_eq_true rfl, ?_⟩
    refine And.intro (fun h4 => ?_) (fun h4 => ?_)
    · have h4 : l[i] < 0 := of_decide_eq_true h4
      repeat (first | refine And.intro (fun _ => ?_) (fun h => Bool.noConfusion h) | refine And.intro (fun h => Bool.noConfusion h) (fun _ => ?_))
      exact isNew_no (show newE n l = 7 by unfold newE; rw [if_neg hi0, if_neg (fun h => h h2), if_pos (fun h => by have := h l[i] (List.getElem_mem _); omega)]) (by decide)
    have h4 : ¬ l[i] < 0 := of_decide_eq_false h4
    repeat (first | refine And.intro (fun _ => ?_) (fun h => Bool.noConfusion h) | refine And.intro (fun h => Bool.noConfusion h) (fun _ => ?_))
    
    refine And.intro (fun h5 => ?_) (fun h5 => ?_)
    · have h5 : l[i] > 1000000 := of_decide_eq_true h5
      repeat (first | refine And.intro (fun _ => ?_) (fun h => Bool.noConfusion h) | refine And.intro (fun h => Bool.noConfusion h) (fun _ => ?_))
      exact isNew_no (show newE n l = 7 by unfold newE; rw [if_neg hi0, if_neg (fun h => h h2), if_pos (fun h => by have := h l[i] (List.getElem_mem _); omega)]) (by decide)
    have h5 : ¬ l[i] > 1000000 := of_decide_eq_false h5
    repeat (first | refine And.intro (fun _ => ?_) (fun h => Bool.noConfusion h) | refine And.intro (fun h => Bool.noConfusion h) (fun _ => ?_))
    refine ⟨l.length - (i + 1), by omega, i + 1, rfl, by omega, fun t ht => ?_, ?_⟩
    · rw [List.take_succ_eq_append_getElem hil] at ht
      rcases List.mem_append.1 ht with ht | ht
      · exact hti t ht
      · rw [List.mem_singleton.1 ht]
        omega
    · unfold sgeo_New1
      rw [← hw]
      rfl
  have h3 : ¬ ((i : Nat) : Int) < (l.length : Int) := of_decide_eq_false h3

  rw [List.take_of_length_le (by omega)] at hti
  show Ok _ _ _ _ _
  refine Ok.loopN hLT hmix [] [0, 1, 4, 5, 7, 8, 14, 20, 21, 22, 23, 24, 32, 34, 35, 36, 46] [0,1,4,5,34,35] [] (fun k s => ∃ i : Nat, k = n.toNat - i ∧ i ≤ n.toNat ∧ diagO n l i ∧ s = sgeo_New2 n l i) (n := n.toNat) ⟨0, rfl, Nat.zero_le _, (fun a ha => absurd ha (Nat.not_lt_zero _)), rfl⟩ ?_
  rintro k s ⟨i, rfl, hi, hdi, rfl⟩
  refine And.intro (fun h3 => ?_) (fun h3 => ?_)
  · have h3 : ((i : Nat) : Int) < n := of_decide_eq_true h3
    have hw := wrap_succ (i := i) (n := n.toNat) (by omega) (by omega)
    obtain ⟨q1, q2⟩ := diag_idx (a := i) (by omega) (by omega) h3 h2
    refine ⟨(l).map rowI, rowI ((l)[i * n.toNat + i]'q2), rfl, by rw [q1]; exact Int.natCast_nonneg _, row_at' rowI l q1 q2, rfl, of_decide_eq_true rfl, ?_⟩
    have hgd : l.getD (i * n.toNat + i) 0 = l[i * n.toNat + i] := by rw [List.getD_eq_getElem?_getD, List.getElem?_eq_getElem q2]; rfl
    refine And.intro (fun h4 => ?_) (fun h4 => ?_)
    · have h4 := nd_true h4
      exact isNew_no (show newE n l = 4 by unfold newE; rw [if_neg hi0, if_neg (fun h => h h2), if_neg (fun h => h hti), if_pos (fun h => h4 (by rw [← hgd]; exact h i (by omega)))]) (by decide)
    have h4 := nd_false h4
    refine ⟨n.toNat - (i + 1), by omega, i + 1, rfl, by omega, fun a ha => ?_, ?_⟩
    · rcases Nat.lt_or_ge a i with h | h
      · exact hdi a h
      · rw [show a = i by omega, hgd]
        exact h4
    · unfold sgeo_New2
      rw [← hw]
      rfl
  have h3 : ¬ ((i : Nat) : Int) < n := of_decide_eq_false h3
  have hdn : diagO n l n.toNat := by rw [show n.toNat = i by omega]; exact hdi
  have hnew : newE n l = 0 := by unfold newE; rw [if_neg hi0, if_neg (fun h => h h2), if_neg (fun h => h hti), if_neg (fun h => h hdn)]
  have hok : okMp ⟨n, l⟩ := ⟨by show 1 ≤ n; omega, by show n ≤ 12; omega, h2, hti⟩
  have hrm : (0 + (l.map rowI).length) * 8 ≤ 140737488355328 := by rw [List.length_map]; omega
  have hal : allLen 1 (l.map rowI) = true := by simp [allLen, rowI]
  refine And.intro trivial (And.intro rfl (And.intro hrm (And.intro hal ?_)))
  exact .inl ⟨hnew, hok, rfl, rfl⟩
theorem c_geo_New (n : Int) (l : List Int) (hl : l.length ≤ 1000000000000000) {r : Nat} {sto : List Ob} (hr : r ≤ sto.length) : Tri Tryz.prog 10 r [.int .i64 n, .list .imm (l.map rowI)] sto (fun d k => isNew n l sto.length sto d k) :=
  (c_geo_New_0 n l hl).newAny rfl (by show (true && (nrBLL 0 (l.map rowI) && true)) = true; rw [nrBLL_I]; rfl) hr

noncomputable def sdrayref4_New1 (n : Int) (l : List Int) (i : Nat) : DS := ⟨[(0, .int .i64 n), (1, .list .imm (l.map rowI)), (4, .nil), (5, .int .i64 0), (6, .int .i64 (i : Int))], [], [], mR 0⟩
noncomputable def sdrayref4_New2 (n : Int) (l : List Int) (i : Nat) : DS := ⟨[(0, .int .i64 n), (1, .list .imm (l.map rowI)), (4, .nil), (5, .int .i64 0), (7, .int .i64 (i : Int))], [], [], mR 0⟩
set_option maxHeartbeats 8000000 in
theorem c_drayref4_New_0 (n : Int) (l : List Int) (hl : l.length ≤ 1000000000000000) : Tri Tryz.prog 55 0 [.int .i64 n, .list .imm (l.map rowI)] [] (fun d k => isNew n l 0 [] d k) := by
  refine Tri.walk2 (L := LT) (c := {n := 58, gl := [57], ko := [4, 5]}) [] [0, 1, 4, 5, 6, 7, 13, 19, 23, 37, 40, 51] hLT hmix Tryz.func55 rfl rfl ⟨rfl, rfl⟩ (by show 2 ≤ 58; decide) (by first | exact Nat.zero_le _ | exact Nat.le_refl _ | exact Nat.le_succ 1 | decide) ?_
  refine And.intro (fun h0 => ?_) (fun h0 => ?_)
  · have h0 : n < 1 := of_decide_eq_true h0
    repeat (first | refine And.intro (fun _ => ?_) (fun h => Bool.noConfusion h) | refine And.intro (fun h => Bool.noConfusion h) (fun _ => ?_))
    exact isNew_no (show newE n l = 1 by unfold newE; rw [if_pos (.inl h0)]) (by decide)
  have h0 : ¬ n < 1 := of_decide_eq_false h0
  repeat (first | refine And.intro (fun _ => ?_) (fun h => Bool.noConfusion h) | refine And.intro (fun h => Bool.noConfusion h) (fun _ => ?_))
  refine And.intro (fun h1 => ?_) (fun h1 => ?_)
  · have h1 : n > 12 := of_decide_eq_true h1
    repeat (first | refine And.intro (fun _ => ?_) (fun h => Bool.noConfusion h) | refine And.intro (fun h => Bool.noConfusion h) (fun _ => ?_))
    exact isNew_no (show newE n l = 1 by unfold newE; rw [if_pos (.inr h1)]) (by decide)
  have h1 : ¬ n > 12 := of_decide_eq_false h1
  repeat (first | refine And.intro (fun _ => ?_) (fun h => Bool.noConfusion h) | refine And.intro (fun h => Bool.noConfusion h) (fun _ => ?_))
  have hnn : n * n ≤ 12 * 12 := Int.mul_le_mul (by omega) (by omega) (by omega) (by decide)
  have hn0 : 0 ≤ n * n := Int.mul_nonneg (by omega) (by omega)
  have hwm : IntKind.i64.wrap (n * n) = n * n := wrap64 (by omega) (by omega)
  have hi0 : ¬ (n < 1 ∨ n > 12) := by omega
  refine And.intro (fun h2 => ?_) (fun h2 => ?_)
  · have h2 : ¬ ((l.map rowI).length : Int) = IntKind.i64.wrap (n * n) := nd_true h2
    rw [List.length_map, hwm] at h2
    exact isNew_no (show newE n l = 2 by unfold newE; rw [if_neg hi0, if_pos h2]) (by decide)
  have h2 : ((l.map rowI).length : Int) = IntKind.i64.wrap (n * n) := nd_false h2
  rw [List.length_map, hwm] at h2
  show Ok _ _ _ _ _
  refine Ok.loopN hLT hmix [] [0, 1, 4, 5, 6, 7, 13, 19, 23, 37, 40, 51] [0,1,4,5,6] [] (fun k s => ∃ i : Nat, k = l.length - i ∧ i ≤ l.length ∧ timesO (l.take i) ∧ s = sdrayref4_New1 n l i) (n := l.length) ⟨0, rfl, Nat.zero_le _, (fun t ht => by simp at ht), by unfold sdrayref4_New1; rfl⟩ ?_
  rintro k s ⟨i, rfl, hi, hti, rfl⟩
  refine And.intro (fun h3 => ?_) (fun h3 => ?_)
  · have h3 : ((i : Nat) : Int) < ((l.map rowI).length : Int) := of_decide_eq_true h3
    rw [List.length_map] at h3
    have hil : i < l.length := by omega
    have hw := wrap_succ (i := i) (n := l.length) hil hl
    refine ⟨(l).map rowI, rowI ((l)[i]'(by omega)), rfl, by omega, row_at' rowI (l) (by omega) (by omega), rfl, of_decide_eq_true rfl, ?_⟩
    refine And.intro (fun h4 => ?_) (fun h4 => ?_)
    · have h4 : l[i] < 0 := of_decide_eq_true h4
      repeat (first | refine And.intro (fun _ => ?_) (fun h => Bool.noConfusion h) | refine And.intro (fun h => Bool.noConfusion h) (fun _ => ?_))
      exact isNew_no (show newE n l = 7 by unfold newE; rw [if_neg hi0, if_neg (fun h => h h2), if_pos (fun h => by have := h l[i] (List.getElem_mem _); omega)]) (by decide)
    have h4 : ¬ l[i] < 0 := of_decide_eq_false h4
    repeat (first | refine And.intro (fun _ => ?_) (fun h => Bool.noConfusion h) | refine And.intro (fun h => Bool.noConfusion h) (fun _ => ?_))
    refine ⟨(l).map rowI, rowI ((l)[i]'(by omega)), rfl, by omega, row_at' rowI (l) (by omega) (by omega), rfl, of_decide_eq_true rfl, ?_⟩
    refine And.intro (fun h5 => ?_) (fun h5 => ?_)
    · have h5 : l[i] > 1000000 := of_decide_eq_true h5
      repeat (first | refine And.intro (fun _ => ?_) (fun h => Bool.noConfusion h) | refine And.intro (fun h => Bool.noConfusion h) (fun _ => ?_))
      exact isNew_no (show newE n l = 7 by unfold newE; rw [if_neg hi0, if_neg (fun h => h h2), if_pos (fun h => by have := h l[i] (List.getElem_mem _); omega)]) (by decide)
    have h5 : ¬ l[i] > 1000000 := of_decide_eq_false h5
    repeat (first | refine And.intro (fun _ => ?_) (fun h => Bool.noConfusion h) | refine And.intro (fun h => Bool.noConfusion h) (fun _ => ?_))
    refine ⟨l.length - (i + 1), by omega, i + 1, rfl, by omega, fun t ht => ?_, ?_⟩
    · rw [List.take_succ_eq_append_getElem hil] at ht
      rcases List.mem_append.1 ht with ht | ht
      · exact hti t ht
      · rw [List.mem_singleton.1 ht]
        omega
    · unfold sdrayref4_New1
      rw [← hw]
      rfl
  have h3 : ¬ ((i : Nat) : Int) < ((l.map rowI).length : Int) := of_decide_eq_false h3
  rw [List.length_map] at h3
  rw [List.take_of_length_le (by omega)] at hti
  show Ok _ _ _ _ _
  refine Ok.loopN hLT hmix [] [0, 1, 4, 5, 6, 7, 13, 19, 23, 37, 40, 51] [0,1,4,5,7] [] (fun k s => ∃ i : Nat, k = n.toNat - i ∧ i ≤ n.toNat ∧ diagO n l i ∧ s = sdrayref4_New2 n l i) (n := n.toNat) ⟨0, rfl, Nat.zero_le _, (fun a ha => absurd ha (Nat.not_lt_zero _)), rfl⟩ ?_
  rintro k s ⟨i, rfl, hi, hdi, rfl⟩
  refine And.intro (fun h3 => ?_) (fun h3 => ?_)
  · have h3 : ((i : Nat) : Int) < n := of_decide_eq_true h3
    have hw := wrap_succ (i := i) (n := n.toNat) (by omega) (by omega)
    obtain ⟨q1, q2⟩ := diag_idx (a := i) (by omega) (by omega) h3 h2
    refine ⟨(l).map rowI, rowI ((l)[i * n.toNat + i]'q2), rfl, by rw [q1]; exact Int.natCast_nonneg _, row_at' rowI l q1 q2, rfl, of_decide_eq_true rfl, ?_⟩
    have hgd : l.getD (i * n.toNat + i) 0 = l[i * n.toNat + i] := by rw [List.getD_eq_getElem?_getD, List.getElem?_eq_getElem q2]; rfl
    refine And.intro (fun h4 => ?_) (fun h4 => ?_)
    · have h4 := nd_true h4
      exact isNew_no (show newE n l = 4 by unfold newE; rw [if_neg hi0, if_neg (fun h => h h2), if_neg (fun h => h hti), if_pos (fun h => h4 (by rw [← hgd]; exact h i (by omega)))]) (by decide)
    have h4 := nd_false h4
    refine ⟨n.toNat - (i + 1), by omega, i + 1, rfl, by omega, fun a ha => ?_, ?_⟩
    · rcases Nat.lt_or_ge a i with h | h
      · exact hdi a h
      · rw [show a = i by omega, hgd]
        exact h4
    · unfold sdrayref4_New2
      rw [← hw]
      rfl
  have h3 : ¬ ((i : Nat) : Int) < n := of_decide_eq_false h3
  have hdn : diagO n l n.toNat := by rw [show n.toNat = i by omega]; exact hdi
  have hnew : newE n l = 0 := by unfold newE; rw [if_neg hi0, if_neg (fun h => h h2), if_neg (fun h => h hti), if_neg (fun h => h hdn)]
  have hok : okMp ⟨n, l⟩ := ⟨by show 1 ≤ n; omega, by show n ≤ 12; omega, h2, hti⟩
  have hrm : (0 + (l.map rowI).length) * 8 ≤ 140737488355328 := by rw [List.length_map]; omega
  have hal : allLen 1 (l.map rowI) = true := by simp [allLen, rowI]
  refine And.intro trivial (And.intro rfl (And.intro hrm (And.intro hal ?_)))
  exact .inl ⟨hnew, hok, rfl, rfl⟩
theorem c_drayref4_New (n : Int) (l : List Int) (hl : l.length ≤ 1000000000000000) {r : Nat} {sto : List Ob} (hr : r ≤ sto.length) : Tri Tryz.prog 55 r [.int .i64 n, .list .imm (l.map rowI)] sto (fun d k => isNew n l sto.length sto d k) :=
  (c_drayref4_New_0 n l hl).newAny rfl (by show (true && (nrBLL 0 (l.map rowI) && true)) = true; rw [nrBLL_I]; rfl) hr

end Go.Lv

namespace Go.Lv
open Go.Proofs

noncomputable def encW (n : Int) (l : List Int) (ds : List Drv) (os : List Ord) (p : Pln) : List D := [.int .i64 n, .list .imm (l.map rowI), encDs ds, encOs os, encP p]
noncomputable def isMaps (n : Int) (l : List Int) (d : D) (k : List Ob) : Prop := (d = .tup [.nil, .nil, .bool true] ∧ k = []) ∨ (okMp ⟨n, l⟩ ∧ d = .tup [.gptr 0 0, .gptr 1 0, .bool true] ∧ k = [mbox ⟨n, l⟩, mbox ⟨n, l⟩])
set_option maxHeartbeats 4000000 in
theorem c_draykeep_Maps_0 (n : Int) (l : List Int) (hl : l.length ≤ 1000000000000000) (ds : List Drv) (os : List Ord) (p : Pln) : Tri Tryz.prog 18 0 [.agg (encW n l ds os p)] [] (fun d k => isMaps n l d k) := by
  refine Tri.walk2 (L := LT) (c := {n := 37, ko := [2, 3, 4]}) [] [0, 1, 2, 3, 4, 5, 6, 7, 8] hLT hmix Tryz.func18 rfl rfl ⟨rfl, rfl⟩ (by show 1 ≤ 37; decide) (by first | exact Nat.zero_le _ | exact Nat.le_refl _ | exact Nat.le_succ 1 | decide) ?_
  have h1 := c_geo_New n l hl (r := 0) (sto := []) (Nat.le_refl 0)
  refine ⟨rfl, Nat.le_refl _, h1.mono ?_⟩
  rintro d k (⟨he, hm, rfl, rfl⟩ | ⟨he, rfl, rfl⟩)
  · refine ⟨rfl, fun k hk => absurd hk (Nat.not_lt_zero k), rfl, ?_⟩
    have h2 := c_drayref4_New n l hl (r := 1) (sto := [mbox ⟨n, l⟩]) (Nat.le_refl 1)
    refine ⟨rfl, Nat.zero_le _, h2.mono ?_⟩
    rintro d k (⟨_, _, rfl, rfl⟩ | ⟨he2, rfl, rfl⟩)
    · refine ⟨rfl, fun k hk => List.getElem?_append_left hk, rfl, ?_⟩
      repeat (first | refine And.intro (fun _ => ?_) (fun h => Bool.noConfusion h) | refine And.intro (fun h => Bool.noConfusion h) (fun _ => ?_))
      exact .inr ⟨hm, rfl, rfl⟩
    · exact absurd he he2
  · refine ⟨rfl, fun k hk => absurd hk (Nat.not_lt_zero k), rfl, ?_⟩
    have h2 := c_drayref4_New n l hl (r := 0) (sto := []) (Nat.zero_le _)
    refine ⟨rfl, Nat.le_refl _, h2.mono ?_⟩
    rintro d k (⟨he2, _, rfl, rfl⟩ | ⟨_, rfl, rfl⟩)
    · exact absurd he2 he
    · refine ⟨rfl, fun k hk => absurd hk (Nat.not_lt_zero k), rfl, ?_⟩
      refine And.intro (fun h3 => ?_) (fun h3 => ?_)
      · repeat (first | refine And.intro (fun _ => ?_) (fun h => Bool.noConfusion h) | refine And.intro (fun h => Bool.noConfusion h) (fun _ => ?_))
        exact .inl ⟨rfl, rfl⟩
      · exact absurd rfl (of_decide_eq_false h3)
end Go.Lv

namespace Go.Lv
open Go.Proofs

theorem okInts {n : Nat} {x : List D} (h : OkD LT (n + 2) 53 x) : ∃ l : List Int, x = [.list .imm (l.map rowI)] := by
  obtain ⟨xs, rfl, _, h⟩ := h
  have key : ∀ xs : List (List D), (∀ r, r ∈ xs → r.length = LT.size 3 ∧ OkD LT (n + 1) 3 r) → ∃ l : List Int, xs = l.map rowI := by
    intro xs
    induction xs with
    | nil => intro _; exact ⟨[], rfl⟩
    | cons x r ih =>
      intro h
      obtain ⟨s, rfl, _⟩ := (h x (by simp)).2
      obtain ⟨l, rfl⟩ := ih fun y hy => h y (by simp [hy])
      exact ⟨s :: l, rfl⟩
  obtain ⟨l, rfl⟩ := key xs h
  exact ⟨l, rfl⟩
theorem okWin {n : Nat} {x : List D} (h : OkD LT (n + 2) 27 x) : ∃ w : Win, x = rowW w := by
  obtain ⟨x1, y1, rfl, _, h1, x2, y2, rfl, _, h2, rfl⟩ := h
  obtain ⟨i1, rfl, _⟩ := h1
  obtain ⟨i2, rfl, _⟩ := h2
  exact ⟨⟨i1, i2⟩, rfl⟩
theorem okSit {n : Nat} {x : List D} (h : OkD LT (n + 3) 29 x) : ∃ s : Sit, x = rowSi s := by
  obtain ⟨x1, y1, rfl, _, h1, x2, y2, rfl, _, h2, x3, y3, rfl, _, h3, rfl⟩ := h
  obtain ⟨i1, rfl, _⟩ := h1
  obtain ⟨w, rfl⟩ := okWin h2
  obtain ⟨i3, rfl, _⟩ := h3
  exact ⟨⟨i1, w, i3⟩, rfl⟩
theorem okOrd {n : Nat} {x : List D} (h : OkD LT (n + 4) 31 x) : ∃ o : Ord, x = rowO o := by
  obtain ⟨x1, y1, rfl, _, h1, x2, y2, rfl, _, h2, x3, y3, rfl, _, h3, x4, y4, rfl, _, h4, rfl⟩ := h
  obtain ⟨i1, rfl, _⟩ := h1
  obtain ⟨i2, rfl, _⟩ := h2
  obtain ⟨a, rfl⟩ := okSit h3
  obtain ⟨b, rfl⟩ := okSit h4
  exact ⟨⟨i1, i2, a, b⟩, rfl⟩
theorem okDrv {n : Nat} {x : List D} (h : OkD LT (n + 3) 33 x) : ∃ d : Drv, x = rowDr d := by
  obtain ⟨x1, y1, rfl, _, h1, x2, y2, rfl, _, h2, x3, y3, rfl, _, h3, x4, y4, rfl, _, h4, x5, y5, rfl, _, h5, rfl⟩ := h
  obtain ⟨i1, rfl, _⟩ := h1
  obtain ⟨i2, rfl, _⟩ := h2
  obtain ⟨i3, rfl, _⟩ := h3
  obtain ⟨w, rfl⟩ := okWin h4
  obtain ⟨b, rfl⟩ := h5
  exact ⟨⟨i1, i2, i3, w, b⟩, rfl⟩
theorem okOrds {n : Nat} {x : List D} (h : OkD LT (n + 5) 40 x) : ∃ l : List Ord, x = [encOs l] := by
  obtain ⟨xs, rfl, _, h⟩ := h
  have key : ∀ xs : List (List D), (∀ r, r ∈ xs → r.length = LT.size 31 ∧ OkD LT (n + 4) 31 r) → ∃ l : List Ord, xs = l.map rowO := by
    intro xs
    induction xs with
    | nil => intro _; exact ⟨[], rfl⟩
    | cons x r ih =>
      intro h
      obtain ⟨s, rfl⟩ := okOrd (h x (by simp)).2
      obtain ⟨l, rfl⟩ := ih fun y hy => h y (by simp [hy])
      exact ⟨s :: l, rfl⟩
  obtain ⟨l, rfl⟩ := key xs h
  exact ⟨l, rfl⟩
theorem okDrvs {n : Nat} {x : List D} (h : OkD LT (n + 4) 34 x) : ∃ l : List Drv, x = [encDs l] := by
  obtain ⟨xs, rfl, _, h⟩ := h
  have key : ∀ xs : List (List D), (∀ r, r ∈ xs → r.length = LT.size 33 ∧ OkD LT (n + 3) 33 r) → ∃ l : List Drv, xs = l.map rowDr := by
    intro xs
    induction xs with
    | nil => intro _; exact ⟨[], rfl⟩
    | cons x r ih =>
      intro h
      obtain ⟨s, rfl⟩ := okDrv (h x (by simp)).2
      obtain ⟨l, rfl⟩ := ih fun y hy => h y (by simp [hy])
      exact ⟨s :: l, rfl⟩
  obtain ⟨l, rfl⟩ := key xs h
  exact ⟨l, rfl⟩
theorem okStopN {n : Nat} {x : List D} (h : OkD LT (n + 2) 48 x) : ∃ s : Stp, x = rowS s := by
  obtain ⟨x1, y1, rfl, _, h1, x2, y2, rfl, _, h2, rfl⟩ := h
  obtain ⟨i1, rfl, _⟩ := h1
  obtain ⟨b, rfl⟩ := h2
  exact ⟨⟨i1, b⟩, rfl⟩
theorem okStopsN {n : Nat} {x : List D} (h : OkD LT (n + 3) 35 x) : ∃ l : List Stp, x = [.list .imm (l.map rowS)] := by
  obtain ⟨xs, rfl, _, h⟩ := h
  have key : ∀ xs : List (List D), (∀ r, r ∈ xs → r.length = LT.size 48 ∧ OkD LT (n + 2) 48 r) → ∃ l : List Stp, xs = l.map rowS := by
    intro xs
    induction xs with
    | nil => intro _; exact ⟨[], rfl⟩
    | cons x r ih =>
      intro h
      obtain ⟨s, rfl⟩ := okStopN (h x (by simp)).2
      obtain ⟨l, rfl⟩ := ih fun y hy => h y (by simp [hy])
      exact ⟨s :: l, rfl⟩
  obtain ⟨l, rfl⟩ := key xs h
  exact ⟨l, rfl⟩
theorem okRouteN {n : Nat} {x : List D} (h : OkD LT (n + 4) 37 x) : ∃ r : Rte, x = rowR r := by
  obtain ⟨x1, y1, rfl, _, h1, x2, y2, rfl, _, h2, x3, y3, rfl, _, h3, rfl⟩ := h
  obtain ⟨i1, rfl, _⟩ := h1
  obtain ⟨i2, rfl, _⟩ := h2
  obtain ⟨l, rfl⟩ := okStopsN h3
  exact ⟨⟨i1, i2, l⟩, rfl⟩
theorem okPlanN {n : Nat} {x : List D} (h : OkD LT (n + 5) 39 x) : ∃ p : Pln, x = [encP p] := by
  obtain ⟨xs, rfl, _, h⟩ := h
  have key : ∀ xs : List (List D), (∀ r, r ∈ xs → r.length = LT.size 37 ∧ OkD LT (n + 4) 37 r) → ∃ p : Pln, xs = p.map rowR := by
    intro xs
    induction xs with
    | nil => intro _; exact ⟨[], rfl⟩
    | cons x r ih =>
      intro h
      obtain ⟨s, rfl⟩ := okRouteN (h x (by simp)).2
      obtain ⟨l, rfl⟩ := ih fun y hy => h y (by simp [hy])
      exact ⟨s :: l, rfl⟩
  obtain ⟨p, rfl⟩ := key xs h
  exact ⟨p, rfl⟩
theorem okWorld {n m : Nat} {x : List D} (h : OkD LT (n + 6) 55 x) (z : SzD LT (m + 2) 55 x) : ∃ (k : Int) (l : List Int) (ds : List Drv) (os : List Ord) (p : Pln), x = encW k l ds os p ∧ l.length ≤ 1000000000000000 := by
  obtain ⟨x1, y1, rfl, _, h1, x2, y2, rfl, _, h2, x3, y3, rfl, _, h3, x4, y4, rfl, _, h4, x5, y5, rfl, _, h5, rfl⟩ := h
  obtain ⟨k, rfl, _⟩ := h1
  obtain ⟨l, rfl⟩ := okInts h2
  obtain ⟨ds, rfl⟩ := okDrvs h3
  obtain ⟨os, rfl⟩ := okOrds h4
  obtain ⟨p, rfl⟩ := okPlanN h5
  obtain ⟨a1, b1, e1, k1, _, a2, b2, e2, k2, z2, _⟩ := z
  have k1' : a1.length = 1 := k1
  have k2' : a2.length = 1 := k2
  obtain ⟨d1, rfl⟩ : ∃ c, a1 = [c] := List.length_eq_one_iff.1 k1'
  obtain ⟨d2, rfl⟩ : ∃ c, a2 = [c] := List.length_eq_one_iff.1 k2'
  subst e2
  simp only [List.cons_append, List.nil_append, List.cons.injEq] at e1
  obtain ⟨_, e, _⟩ := e1
  subst e
  obtain ⟨xs', e, z2, _⟩ := z2
  cases e
  have z2 : (l.map rowI).length * 8 ≤ 140737488351232 := z2
  rw [List.length_map] at z2
  exact ⟨k, l, ds, os, p, rfl, by omega⟩
end Go.Lv

namespace Go.Lv
open Go.Proofs

theorem okWorldQ {n m : Nat} {x : List D} (h : OkD LT (n + 6) 55 x) (z : SzD LT (m + 4) 55 x) : ∃ (k : Int) (l : List Int) (ds : List Drv) (os : List Ord) (p : Pln), x = encW k l ds os p ∧ l.length ≤ 1000000000000000 ∧ szQ p := by
  have h0 := h
  obtain ⟨k, l, ds, os, p, rfl, hl⟩ := okWorld (m := m + 2) h z
  refine ⟨k, l, ds, os, p, rfl, hl, ?_⟩
  obtain ⟨a1, b1, e1, k1, _, a2, b2, e2, k2, _, a3, b3, e3, k3, _, a4, b4, e4, k4, _, a5, b5, e5, k5, z5, e6⟩ := z
  obtain ⟨x1, y1, f1, l1, _, x2, y2, f2, l2, _, x3, y3, f3, l3, _, x4, y4, f4, l4, _, x5, y5, f5, l5, h5, f6⟩ := h0
  subst e6; subst e5; subst e4; subst e3; subst e2
  subst f6; subst f5; subst f4; subst f3; subst f2
  have one : ∀ {c : List D}, c.length = 1 → ∃ d, c = [d] := fun h => List.length_eq_one_iff.1 h
  obtain ⟨d1, rfl⟩ := one k1
  obtain ⟨d2, rfl⟩ := one k2
  obtain ⟨d3, rfl⟩ := one k3
  obtain ⟨d4, rfl⟩ := one k4
  obtain ⟨d5, rfl⟩ := one k5
  obtain ⟨c1, rfl⟩ := one l1
  obtain ⟨c2, rfl⟩ := one l2
  obtain ⟨c3, rfl⟩ := one l3
  obtain ⟨c4, rfl⟩ := one l4
  obtain ⟨c5, rfl⟩ := one l5
  unfold encW at e1 f1
  simp only [List.cons_append, List.nil_append, List.cons.injEq, and_true] at e1 f1
  obtain ⟨_, _, _, _, e⟩ := e1
  obtain ⟨_, _, _, _, f⟩ := f1
  subst e
  rw [← f] at h5
  obtain ⟨q, hq, hs⟩ := okPlan h5 z5
  have : p.map rowR = q.map rowR := by
    have := (List.cons.inj hq).1
    exact (D.list.inj this).2
  have inj : ∀ {a b : Pln}, a.map rowR = b.map rowR → a = b := by
    intro a
    induction a with
    | nil => intro b h; cases b with | nil => rfl | cons => cases h
    | cons r a ih =>
      intro b h
      cases b with
      | nil => cases h
      | cons r2 b =>
        simp only [List.map_cons, List.cons.injEq] at h
        rw [ih h.2]
        congr 1
        obtain ⟨d, s, st⟩ := r
        obtain ⟨d2, s2, st2⟩ := r2
        have h := h.1
        unfold rowR at h
        simp only [List.cons.injEq, D.int.injEq, D.list.injEq, true_and, and_true] at h
        obtain ⟨h1, h2, h3⟩ := h
        have h4 : st = st2 := by
          have inj2 : ∀ {a b : List Stp}, a.map rowS = b.map rowS → a = b := by
            intro a
            induction a with
            | nil => intro b h; cases b with | nil => rfl | cons => cases h
            | cons s a ih =>
              intro b h
              cases b with
              | nil => cases h
              | cons s2 b =>
                simp only [List.map_cons, List.cons.injEq] at h
                rw [ih h.2]
                congr 1
                obtain ⟨x, y⟩ := s
                obtain ⟨x2, y2⟩ := s2
                have h := h.1
                unfold rowS at h
                simp only [List.cons.injEq, D.int.injEq, D.bool.injEq, true_and, and_true] at h
                rw [h.1, h.2]
          exact inj2 h3
        rw [h1, h2, h4]
  rw [inj this]
  exact hs
end Go.Lv

namespace Go.Lv
open Go.Proofs

structure szW (ds : List Drv) (os : List Ord) (p : Pln) : Prop where
  d : ds.length * 48 ≤ 140737488351232
  o : os.length * 80 ≤ 140737488351232
  p : szQ p
theorem okWorldB {n m : Nat} {x : List D} (h : OkD LT (n + 6) 55 x) (z : SzD LT (m + 4) 55 x) : ∃ (k : Int) (l : List Int) (ds : List Drv) (os : List Ord) (p : Pln), x = encW k l ds os p ∧ l.length ≤ 1000000000000000 ∧ szW ds os p := by
  obtain ⟨k, l, ds, os, p, rfl, hl, hq⟩ := okWorldQ h z
  refine ⟨k, l, ds, os, p, rfl, hl, ?_⟩
  obtain ⟨a1, b1, e1, k1, _, a2, b2, e2, k2, _, a3, b3, e3, k3, z3, a4, b4, e4, k4, z4, a5, b5, e5, k5, _, e6⟩ := z
  subst e6; subst e5; subst e4; subst e3; subst e2
  have one : ∀ {c : List D}, c.length = 1 → ∃ d, c = [d] := fun h => List.length_eq_one_iff.1 h
  obtain ⟨d1, rfl⟩ := one k1
  obtain ⟨d2, rfl⟩ := one k2
  obtain ⟨d3, rfl⟩ := one k3
  obtain ⟨d4, rfl⟩ := one k4
  obtain ⟨d5, rfl⟩ := one k5
  unfold encW at e1
  simp only [List.cons_append, List.nil_append, List.cons.injEq, and_true] at e1
  obtain ⟨_, _, h3, h4, _⟩ := e1
  subst h3; subst h4
  obtain ⟨x3, f3, b3, _⟩ := z3
  obtain ⟨x4, f4, b4, _⟩ := z4
  have f3 : ds.map rowDr = x3 := (D.list.inj (List.cons.inj f3).1).2
  have f4 : os.map rowO = x4 := (D.list.inj (List.cons.inj f4).1).2
  subst f3; subst f4
  rw [List.length_map] at b3 b4
  exact ⟨b3, b4, hq⟩
end Go.Lv

namespace Go.Lv
open Go.Proofs

structure Tb where
  drv : Int
  ord : Int
  why : Int
noncomputable def rowTb (t : Tb) : List D := [.int .i64 t.drv, .int .i64 t.ord, .int .i64 t.why]
structure Wk where
  now : Int
  pos : Int
  load : Int
  out : List Tb
noncomputable def ldK (ahead : List Stp) (s : Stp) (o : Ord) (load : Int) : Int :=
  if s.drop = true then (if (⟨s.ord, false⟩ : Stp) ∈ ahead then IntKind.i64.wrap (load - o.size) else load) else IntKind.i64.wrap (load + o.size)
noncomputable def t1K (d : Drv) (ahead : List Stp) (s : Stp) (o : Ord) (load : Int) : List Tb :=
  if s.drop = true then (if (⟨s.ord, false⟩ : Stp) ∈ ahead then [] else [⟨d.id, s.ord, 17⟩]) else if IntKind.i64.wrap (load + o.size) > d.room then [⟨d.id, s.ord, 14⟩] else []
noncomputable def bgK (m : Mp) (now pos : Int) (si : Sit) : Int := max (IntKind.i64.wrap (now + timeM m pos si.place)) si.w.lo
noncomputable def t2K (d : Drv) (s : Stp) (b : Int) (si : Sit) : List Tb := if b > si.w.hi ∨ IntKind.i64.wrap (b + si.serv) > d.w.hi then [⟨d.id, s.ord, 15⟩] else []
noncomputable def stopK (m : Mp) (d : Drv) (ahead : List Stp) (s : Stp) (o : Ord) (w : Wk) : Wk :=
  ⟨IntKind.i64.wrap (bgK m w.now w.pos (siteO o s.drop) + (siteO o s.drop).serv), (siteO o s.drop).place, ldK ahead s o w.load, (w.out ++ t1K d ahead s o w.load) ++ t2K d s (bgK m w.now w.pos (siteO o s.drop)) (siteO o s.drop)⟩
noncomputable def stepK (m : Mp) (d : Drv) (os : List Ord) (ahead : List Stp) (s : Stp) (w : Wk) : Wk := match findO s.ord os with
  | none => { w with out := w.out ++ [⟨d.id, s.ord, 8⟩] }
  | some o => stopK m d ahead s o w
noncomputable def goK (m : Mp) (d : Drv) (os : List Ord) : List Stp → List Stp → Wk → Wk
  | _, [], w => w
  | ahead, s :: r, w => goK m d os (ahead ++ [s]) r (stepK m d os ahead s w)
noncomputable def lkK (d : Drv) (os : List Ord) (s : Stp) (r : List Stp) : List Tb := if s.drop = false ∧ (findO s.ord os).isSome = true ∧ (⟨s.ord, true⟩ : Stp) ∉ r then [⟨d.id, s.ord, 18⟩] else []
noncomputable def lackK (d : Drv) (os : List Ord) : List Stp → List Tb
  | [] => []
  | s :: r => lkK d os s r ++ lackK d os r
noncomputable def wk0 (d : Drv) : Wk := ⟨d.w.lo, d.home, 0, []⟩
noncomputable def alongK (m : Mp) (d : Drv) (os : List Ord) (l : List Stp) : List Tb := (goK m d os [] l (wk0 d)).out ++ lackK d os l
theorem stepK_len (m : Mp) (d : Drv) (os : List Ord) (ahead : List Stp) (s : Stp) (w : Wk) : (stepK m d os ahead s w).out.length ≤ w.out.length + 2 := by
  unfold stepK
  split
  · simp
  · unfold stopK t1K t2K
    simp only [List.length_append]
    split <;> (try split) <;> split <;> simp
theorem goK_len (m : Mp) (d : Drv) (os : List Ord) : ∀ (l ahead : List Stp) (w : Wk), (goK m d os ahead l w).out.length ≤ w.out.length + 2 * l.length
  | [], _, w => by simp [goK]
  | s :: r, ahead, w => by
    have h1 := goK_len m d os r (ahead ++ [s]) (stepK m d os ahead s w)
    have h2 := stepK_len m d os ahead s w
    simp only [goK, List.length_cons]
    omega
theorem lkK_len (d : Drv) (os : List Ord) (s : Stp) (r : List Stp) : (lkK d os s r).length ≤ 1 := by
  unfold lkK
  split <;> simp
theorem lackK_len (d : Drv) (os : List Ord) : ∀ l : List Stp, (lackK d os l).length ≤ l.length
  | [] => by simp [lackK]
  | s :: r => by
    have h1 := lackK_len d os r
    have h2 := lkK_len d os s r
    simp only [lackK, List.length_append, List.length_cons]
    omega
theorem alongK_len (m : Mp) (d : Drv) (os : List Ord) (l : List Stp) : (alongK m d os l).length ≤ 3 * l.length := by
  have h1 := goK_len m d os l [] (wk0 d)
  have h2 := lackK_len d os l
  have h3 : (wk0 d).out.length = 0 := rfl
  unfold alongK
  rw [List.length_append]
  omega
end Go.Lv

namespace Go.Lv
open Go.Proofs

noncomputable def sAo (l : List Stp) (v : Stp) (i : Nat) : DS := ⟨[(1, .int .i64 v.ord), (2, .bool v.drop), (9, .list .imm (l.map rowS)), (10, .int .i64 (l.length : Int)), (11, .int .i64 (i : Int)), (6, .bool false)], [], [], mR 0⟩
set_option maxHeartbeats 4000000 in
theorem c_audit_ordered_0 (l : List Stp) (hl : l.length ≤ 1000000000000000) (v : Stp) : Tri Tryz.prog 118 0 [.list .imm (l.map rowS), .int .i64 v.ord, .bool v.drop] [] (fun d k => d = .bool (decide (v ∈ l)) ∧ k = []) := by
  refine Tri.walk2 (L := LT) (c := {n := 26, ko := [6]}) [] [0, 1, 2, 6, 8, 9, 10, 11, 12, 24] hLT hmix Tryz.func118 rfl rfl ⟨rfl, rfl⟩ (by show 3 ≤ 26; decide) (by first | exact Nat.zero_le _ | exact Nat.le_refl _ | exact Nat.le_succ 1 | decide) ?_
  show Ok _ _ _ _ _
  refine Ok.loopN hLT hmix [] [0, 1, 2, 6, 8, 9, 10, 11, 12, 24] [1,2,9,10,11,6] [] (fun n s => ∃ i : Nat, n = l.length - i ∧ i ≤ l.length ∧ v ∉ l.take i ∧ s = sAo l v i) (n := l.length) ⟨0, rfl, Nat.zero_le _, by simp, by unfold sAo; rw [← List.length_map (f := rowS)]; rfl⟩ ?_
  rintro n s ⟨i, rfl, hi, hn, rfl⟩
  refine And.intro (fun h1 => ?_) (fun h1 => ?_)
  · have h1 : ((i : Nat) : Int) < (l.length : Int) := of_decide_eq_true h1
    have hw := wrap_succ (i := i) (n := l.length) (by omega) hl
    have hx : l[i] ≠ v → v ∉ l.take (i + 1) := fun h2 => by
      rw [List.take_succ_eq_append_getElem (by omega), List.mem_append]
      rintro (h | h)
      · exact hn h
      · exact h2 (List.mem_singleton.1 h).symm
    have hy : l[i] = v → v ∈ l := fun e => by rw [← e]; exact List.getElem_mem _
    refine ⟨(l).map rowS, rowS ((l)[i]'(by omega)), rfl, by omega, row_at' rowS (l) (by omega) (by omega), rfl, of_decide_eq_true rfl, ?_⟩
    generalize l[i] = x at hx hy ⊢
    obtain ⟨n, b⟩ := v
    obtain ⟨n2, b2⟩ := x
    refine And.intro (fun h2 => ?_) (fun h2 => ?_)
    · have h2 : n2 = n := of_decide_eq_true h2
      refine And.intro (fun h3 => ?_) (fun h3 => ?_)
      · have h3 : b2 = b := by simpa using h3
        rw [decide_eq_true (hy (by rw [h2, h3]))]
        exact And.intro rfl rfl
      · have h3 : ¬ b2 = b := by simpa using h3
        refine ⟨l.length - (i + 1), by omega, i + 1, rfl, by omega, hx (fun e => h3 (congrArg Stp.drop e)), ?_⟩
        unfold sAo
        rw [← hw]
        rfl
    · have h2 : ¬ n2 = n := of_decide_eq_false h2
      repeat (first | refine And.intro (fun _ => ?_) (fun h => Bool.noConfusion h) | refine And.intro (fun h => Bool.noConfusion h) (fun _ => ?_))
      refine ⟨l.length - (i + 1), by omega, i + 1, rfl, by omega, hx (fun e => h2 (congrArg Stp.ord e)), ?_⟩
      unfold sAo
      rw [← hw]
      rfl
  · have h1 : ¬ ((i : Nat) : Int) < (l.length : Int) := of_decide_eq_false h1
    rw [List.take_of_length_le (by omega)] at hn
    rw [decide_eq_false hn]
    exact And.intro rfl rfl
theorem c_audit_ordered (l : List Stp) (hl : l.length ≤ 1000000000000000) {xs : List (List D)} (hx : xs = l.map rowS) (n : Int) (b : Bool) {r : Nat} {sto : List Ob} (hr : r ≤ sto.length) : Tri Tryz.prog 118 r [.list .imm xs, .int .i64 n, .bool b] sto (fun d k => d = .bool (decide ((⟨n, b⟩ : Stp) ∈ l)) ∧ k = sto) := by
  subst hx
  exact (c_audit_ordered_0 l hl ⟨n, b⟩).pure rfl (nrBL_S rfl) rfl rfl hr

theorem get0 {a : Ob} {l l' : List Ob} : ∀ k, k < 1 → (a :: l)[k]? = (a :: l')[k]?
  | 0, _ => rfl
noncomputable def wcs (sz : Nat) (d : Drv) (w : Wk) : List D := [.gptr 0 0, .int .i64 d.id, .int .i64 d.room, .int .i64 d.home, .int .i64 d.w.lo, .int .i64 d.w.hi, .bool d.ret, .int .i64 w.now, .int .i64 w.pos, .int .i64 w.load, .list (.own sz) (w.out.map rowTb)]
noncomputable def wbox (sz : Nat) (d : Drv) (w : Wk) : Ob := .box (wcs sz d w)
set_option maxHeartbeats 4000000 in
theorem c_audit_tell (m : Mp) (d : Drv) (w : Wk) (sz : Nat) (hsz : sz = 0 ∨ sz = 3) (hw : w.out.length ≤ 100000) (o e : Int) : Tri Tryz.prog 116 1 [.gptr 1 0, .int .i64 o, .int .i64 e] [mbox m, wbox sz d w] (fun x k => x = .tup [] ∧ k = [mbox m, wbox 3 d { w with out := w.out ++ [⟨d.id, o, e⟩] }]) := by
  have hrm : (w.out.length + 1) * 24 ≤ 140737488355328 := by omega
  rcases hsz with rfl | rfl
  all_goals
    refine Tri.walk2 (L := LT) (c := {n := 23, xf := [10]}) [] [0, 1, 2] hLT hmix Tryz.func116 rfl rfl ⟨rfl, rfl⟩ (by show 3 ≤ 23; decide) (by first | exact Nat.zero_le _ | exact Nat.le_refl _ | exact Nat.le_succ 1 | decide) ?_
    refine ⟨⟨131071, [0, 0, 2, 4, 8, 0, 32, 64, 128, 256, 0, 0, 3584, 4096, 8208, 32767, 65535, 98303], [1, 2, 6, 14, 30, 32, 96, 224, 480, 992, 1024, 2048, 8160, 16352, 32766, 65535, 131071, 262143]⟩, by kernel_rfl, ?_⟩
    refine (fun (hrest : _) => And.intro (by
        refine And.intro (by repeat (first | exact trivial | refine And.intro ⟨rfl, rfl⟩ ?_)) ?_
        refine And.intro ?_ trivial
        refine And.intro (by repeat (first | exact trivial | refine And.intro ⟨rfl, rfl⟩ ?_)) ?_
        refine And.intro ?_ trivial
        generalize hys : rowsOf _ _ _ = ys
        have hys : ys = [[D.int .i64 d.id, .int .i64 o, .int .i64 e]] := hys.symm.trans rfl
        subst hys
        refine And.intro trivial (And.intro rfl (And.intro (by show (_ + 1) * 24 ≤ 140737488355328; rw [List.length_map]; exact hrm) (And.intro rfl ?_)))
        refine And.intro (by repeat (first | exact trivial | refine And.intro ⟨rfl, rfl⟩ ?_)) ?_
        refine And.intro ?_ trivial
        refine And.intro (by repeat (first | exact trivial | refine And.intro ⟨rfl, rfl⟩ ?_)) ?_
        exact hrest) (And.intro (by
        refine And.intro (by repeat (first | exact trivial | refine And.intro ⟨rfl, rfl⟩ ?_)) ?_
        refine And.intro ?_ trivial
        refine And.intro (by repeat (first | exact trivial | refine And.intro ⟨rfl, rfl⟩ ?_)) ?_
        refine And.intro ?_ trivial
        generalize hys : rowsOf _ _ _ = ys
        have hys : ys = [[D.int .i64 d.id, .int .i64 o, .int .i64 e]] := hys.symm.trans rfl
        subst hys
        refine And.intro trivial (And.intro rfl (And.intro (by show (_ + 1) * 24 ≤ 140737488355328; rw [List.length_map]; exact hrm) (And.intro rfl ?_)))
        refine And.intro (by repeat (first | exact trivial | refine And.intro ⟨rfl, rfl⟩ ?_)) ?_
        refine And.intro ?_ trivial
        refine And.intro (by repeat (first | exact trivial | refine And.intro ⟨rfl, rfl⟩ ?_)) ?_
        exact hrest) trivial)) ?_
    exact And.intro rfl (by unfold wbox wcs; rw [List.map_append]; rfl)
end Go.Lv

namespace Go.Lv
open Go.Proofs

noncomputable def endK (w : Wk) (bg : Int) (si : Sit) (ld : Int) (l1 l2 : List Tb) : Wk := ⟨IntKind.i64.wrap (bg + si.serv), si.place, ld, (w.out ++ l1) ++ l2⟩
set_option maxHeartbeats 16000000 in
theorem c_audit_stop_1 (m : Mp) (hm : okMp m) (d : Drv) (ahead : List Stp) (ha : ahead.length ≤ 1000) (n : Int) (b : Bool) (o : Ord) (w : Wk) (sz : Nat) (hsz : sz = 0 ∨ sz = 3) (hw : w.out.length ≤ 90000) : Tri Tryz.prog 117 1 [.gptr 1 0, .list .imm (ahead.map rowS), .agg (rowS ⟨n, b⟩), .agg (rowO o)] [mbox m, wbox sz d w] (fun x k => x = .tup [] ∧ ∃ sz' ld l1 l2, (sz' = 0 ∨ sz' = 3) ∧ ld = ldK ahead ⟨n, b⟩ o w.load ∧ l1 = t1K d ahead ⟨n, b⟩ o w.load ∧ l2 = t2K d ⟨n, b⟩ (bgK m w.now w.pos (siteO o b)) (siteO o b) ∧ k = [mbox m, wbox sz' d (endK w (bgK m w.now w.pos (siteO o b)) (siteO o b) ld l1 l2)]) := by
  obtain ⟨now, pos, load, out⟩ := w
  have hw : out.length ≤ 90000 := hw
  unfold bgK
  show Tri _ _ _ _ _ (fun x k => x = .tup [] ∧ ∃ sz' ld l1 l2, (sz' = 0 ∨ sz' = 3) ∧ ld = ldK ahead ⟨n, b⟩ o load ∧ l1 = t1K d ahead ⟨n, b⟩ o load ∧ l2 = t2K d ⟨n, b⟩ (max (IntKind.i64.wrap (now + timeM m pos (siteO o b).place)) (siteO o b).w.lo) (siteO o b) ∧ k = [mbox m, wbox sz' d (endK ⟨now, pos, load, out⟩ (max (IntKind.i64.wrap (now + timeM m pos (siteO o b).place)) (siteO o b).w.lo) (siteO o b) ld l1 l2)])
  have hS := fun (sto : List Ob) (h : 1 ≤ sto.length) => c_route_Site o b (r := 1) (sto := sto) h
  generalize siteO o b = si at hS ⊢
  have hT := fun (w1 : Wk) (s1 : Nat) => c_geo_Time m hm pos si.place (r := 1) (b1 := 0) (sto := [mbox m, wbox s1 d w1]) (show 1 ≤ 2 by decide) rfl (by decide)
  unfold timeD at hT
  generalize timeM m pos si.place = tm at hT ⊢
  generalize inM m pos si.place = ib at hT
  refine Tri.walk2 (L := LT) (c := {n := 123}) [(116,1,[]),(118,1,[]),(131,1,[]),(132,1,[])] [0, 1, 2, 3, 6, 7, 8, 9, 11, 30, 35, 49, 106] hLT hmix Tryz.func117 rfl rfl ⟨rfl, rfl⟩ (by show 4 ≤ 123; decide) (by first | exact Nat.zero_le _ | exact Nat.le_refl _ | exact Nat.le_succ 1 | decide) ?_
  cases b with
  | true =>
    repeat (first | refine And.intro (fun _ => ?_) (fun h => Bool.noConfusion h) | refine And.intro (fun h => Bool.noConfusion h) (fun _ => ?_))
    refine ⟨rfl, (by first | exact Nat.zero_le _ | exact Nat.le_refl _ | exact Nat.le_succ 1 | decide), (c_audit_ordered ahead (by omega) rfl n false (r := 1) (sto := [mbox m, wbox sz d ⟨now, pos, load, out⟩]) (show 1 ≤ 2 by decide)).mono ?_⟩
    rintro d l ⟨rfl, rfl⟩
    refine ⟨rfl, fun _ _ => rfl, rfl, ?_⟩
    cases h1 : decide ((⟨n, false⟩ : Stp) ∈ ahead) with
    | false =>
      have h1 := of_decide_eq_false h1
      repeat (first | refine And.intro (fun _ => ?_) (fun h => Bool.noConfusion h) | refine And.intro (fun h => Bool.noConfusion h) (fun _ => ?_))
      refine ⟨rfl, Nat.le_refl _, (c_audit_tell m d ⟨now, pos, load, out⟩ sz (by omega) (by first | omega | (simp only [List.length_append, List.length_cons, List.length_nil]; omega)) n 17).mono ?_⟩
      rintro x k ⟨rfl, rfl⟩
      refine ⟨rfl, get0, rfl, ?_⟩
      repeat (first | refine And.intro (fun _ => ?_) (fun h => Bool.noConfusion h) | refine And.intro (fun h => Bool.noConfusion h) (fun _ => ?_))
      refine ⟨rfl, (by first | exact Nat.zero_le _ | exact Nat.le_refl _ | exact Nat.le_succ 1 | decide), (hS [mbox m, wbox 3 d ⟨now, pos, load, out ++ [Tb.mk d.id n 17]⟩] (show 1 ≤ 2 by decide)).mono ?_⟩
      rintro d l ⟨rfl, rfl⟩
      refine ⟨rfl, fun _ _ => rfl, rfl, ?_⟩
      repeat (first | refine And.intro (fun _ => ?_) (fun h => Bool.noConfusion h) | refine And.intro (fun h => Bool.noConfusion h) (fun _ => ?_))
      refine ⟨⟨65535, [0, 1, 2, 4, 0, 16, 32, 64, 0, 256, 648, 1024, 2048, 2048, 8191, 32767], [1, 3, 7, 15, 16, 48, 112, 240, 256, 768, 2047, 4095, 8191, 12287, 24575, 65535]⟩, by kernel_rfl, ?_⟩
      refine And.intro ?_ trivial
      refine ⟨rfl, (by first | exact Nat.zero_le _ | exact Nat.le_refl _ | exact Nat.le_succ 1 | decide), (hT ⟨now, pos, load, out ++ [Tb.mk d.id n 17]⟩ 3).mono ?_⟩
      rintro d l ⟨rfl, rfl⟩
      refine ⟨rfl, fun _ _ => rfl, rfl, ?_⟩
      refine And.intro (by repeat (first | exact trivial | refine And.intro ⟨rfl, rfl⟩ ?_)) ?_
      refine (fun (hrest : _) => by
        refine And.intro (fun _ => ?_) (fun _ => ?_)
        · refine And.intro ?_ trivial
          refine And.intro (by repeat (first | exact trivial | refine And.intro ⟨rfl, rfl⟩ ?_)) ?_
          refine And.intro ?_ trivial
          refine And.intro (by repeat (first | exact trivial | refine And.intro ⟨rfl, rfl⟩ ?_)) ?_
          exact hrest
        · refine And.intro ?_ trivial
          refine And.intro (by repeat (first | exact trivial | refine And.intro ⟨rfl, rfl⟩ ?_)) ?_
          refine And.intro ?_ trivial
          refine And.intro (by repeat (first | exact trivial | refine And.intro ⟨rfl, rfl⟩ ?_)) ?_
          exact hrest) ?_
      repeat (first | refine And.intro (fun _ => ?_) (fun h => Bool.noConfusion h) | refine And.intro (fun h => Bool.noConfusion h) (fun _ => ?_))
      refine ⟨⟨2047, [0, 1, 2, 4, 0, 24, 0, 64, 128, 288, 1023], [1, 3, 7, 15, 16, 63, 64, 192, 448, 1023, 2047]⟩, by kernel_rfl, ?_⟩
      refine And.intro ?_ trivial
      refine And.intro (by repeat (first | exact trivial | refine And.intro ⟨rfl, rfl⟩ ?_)) ?_
      generalize hbg : max (IntKind.i64.wrap (now + tm)) si.w.lo = bg
      refine ⟨⟨262143, [0, 0, 2, 4, 9, 16, 32, 32, 160, 352, 32, 1056, 2080, 4128, 8224, 16416, 33312, 65568], [1, 2, 6, 14, 31, 63, 127, 191, 447, 1023, 1087, 3135, 7231, 15423, 31807, 64575, 131071, 262143]⟩, by kernel_rfl, ?_⟩
      refine And.intro (fun h2 => ?_) (fun h2 => ?_)
      · have h2 : bg > si.w.hi := of_decide_eq_true h2
        repeat (first | refine And.intro (fun _ => ?_) (fun h => Bool.noConfusion h) | refine And.intro (fun h => Bool.noConfusion h) (fun _ => ?_))
        refine ⟨rfl, Nat.le_refl _, (c_audit_tell m d ⟨now, pos, load, out ++ [Tb.mk d.id n 17]⟩ 3 (by omega) (by first | omega | (simp only [List.length_append, List.length_cons, List.length_nil]; omega)) n 15).mono ?_⟩
        rintro x k ⟨rfl, rfl⟩
        refine ⟨rfl, get0, rfl, ?_⟩
        refine ⟨⟨7167, [0, 0, 0, 0, 8, 20, 0, 64, 61, 317, 573, 2047, 4095, 6143], [1, 2, 4, 8, 24, 60, 64, 192, 317, 829, 1853, 4095, 8191, 16383]⟩, by kernel_rfl, ?_⟩
        refine And.intro ?_ trivial
        refine And.intro (by repeat (first | exact trivial | refine And.intro ⟨rfl, rfl⟩ ?_)) ?_
        refine And.intro ?_ trivial
        refine And.intro (by repeat (first | exact trivial | refine And.intro ⟨rfl, rfl⟩ ?_)) ?_
        exact And.intro rfl ⟨3, load, [Tb.mk d.id n 17], [Tb.mk d.id n 15], by omega, by simp [ldK, h1, h2], by simp [t1K, h1, h2], by simp [t2K, h1, h2], by simp [endK, wbox, wcs, mbox, mcs, rowTb]⟩
      · have h2 : ¬ bg > si.w.hi := of_decide_eq_false h2
        refine And.intro (fun h => Bool.noConfusion h) (fun _ => ?_)
        refine And.intro (fun h3 => ?_) (fun h3 => ?_)
        · have h3 : IntKind.i64.wrap (bg + si.serv) > d.w.hi := of_decide_eq_true h3
          repeat (first | refine And.intro (fun _ => ?_) (fun h => Bool.noConfusion h) | refine And.intro (fun h => Bool.noConfusion h) (fun _ => ?_))
          refine ⟨rfl, Nat.le_refl _, (c_audit_tell m d ⟨now, pos, load, out ++ [Tb.mk d.id n 17]⟩ 3 (by omega) (by first | omega | (simp only [List.length_append, List.length_cons, List.length_nil]; omega)) n 15).mono ?_⟩
          rintro x k ⟨rfl, rfl⟩
          refine ⟨rfl, get0, rfl, ?_⟩
          refine ⟨⟨7167, [0, 0, 0, 0, 8, 20, 0, 64, 61, 317, 573, 2047, 4095, 6143], [1, 2, 4, 8, 24, 60, 64, 192, 317, 829, 1853, 4095, 8191, 16383]⟩, by kernel_rfl, ?_⟩
          refine And.intro ?_ trivial
          refine And.intro (by repeat (first | exact trivial | refine And.intro ⟨rfl, rfl⟩ ?_)) ?_
          refine And.intro ?_ trivial
          refine And.intro (by repeat (first | exact trivial | refine And.intro ⟨rfl, rfl⟩ ?_)) ?_
          exact And.intro rfl ⟨3, load, [Tb.mk d.id n 17], [Tb.mk d.id n 15], by omega, by simp [ldK, h1, h2, h3], by simp [t1K, h1, h2, h3], by simp [t2K, h1, h2, h3], by simp [endK, wbox, wcs, mbox, mcs, rowTb]⟩
        · have h3 : ¬ IntKind.i64.wrap (bg + si.serv) > d.w.hi := of_decide_eq_false h3
          repeat (first | refine And.intro (fun _ => ?_) (fun h => Bool.noConfusion h) | refine And.intro (fun h => Bool.noConfusion h) (fun _ => ?_))
          refine ⟨⟨7167, [0, 0, 0, 0, 8, 20, 0, 64, 61, 317, 573, 2047, 4095, 6143], [1, 2, 4, 8, 24, 60, 64, 192, 317, 829, 1853, 4095, 8191, 16383]⟩, by kernel_rfl, ?_⟩
          refine And.intro ?_ trivial
          refine And.intro (by repeat (first | exact trivial | refine And.intro ⟨rfl, rfl⟩ ?_)) ?_
          refine And.intro ?_ trivial
          refine And.intro (by repeat (first | exact trivial | refine And.intro ⟨rfl, rfl⟩ ?_)) ?_
          exact And.intro rfl ⟨3, load, [Tb.mk d.id n 17], [], by omega, by simp [ldK, h1, h2, h3], by simp [t1K, h1, h2, h3], by simp [t2K, h1, h2, h3], by simp [endK, wbox, wcs, mbox, mcs, rowTb]⟩
    | true =>
      have h1 := of_decide_eq_true h1
      repeat (first | refine And.intro (fun _ => ?_) (fun h => Bool.noConfusion h) | refine And.intro (fun h => Bool.noConfusion h) (fun _ => ?_))
      refine ⟨⟨511, [0, 1, 2, 4, 0, 16, 40, 127, 255, 383], [1, 3, 7, 15, 16, 48, 127, 255, 511, 1023]⟩, by kernel_rfl, ?_⟩
      refine And.intro ?_ trivial
      refine And.intro (by repeat (first | exact trivial | refine And.intro ⟨rfl, rfl⟩ ?_)) ?_
      generalize hld : IntKind.i64.wrap (load - o.size) = ld
      repeat (first | refine And.intro (fun _ => ?_) (fun h => Bool.noConfusion h) | refine And.intro (fun h => Bool.noConfusion h) (fun _ => ?_))
      refine ⟨rfl, (by first | exact Nat.zero_le _ | exact Nat.le_refl _ | exact Nat.le_succ 1 | decide), (hS [mbox m, wbox sz d ⟨now, pos, ld, out⟩] (show 1 ≤ 2 by decide)).mono ?_⟩
      rintro d l ⟨rfl, rfl⟩
      refine ⟨rfl, fun _ _ => rfl, rfl, ?_⟩
      repeat (first | refine And.intro (fun _ => ?_) (fun h => Bool.noConfusion h) | refine And.intro (fun h => Bool.noConfusion h) (fun _ => ?_))
      refine ⟨⟨65535, [0, 1, 2, 4, 0, 16, 32, 64, 0, 256, 648, 1024, 2048, 2048, 8191, 32767], [1, 3, 7, 15, 16, 48, 112, 240, 256, 768, 2047, 4095, 8191, 12287, 24575, 65535]⟩, by kernel_rfl, ?_⟩
      refine And.intro ?_ trivial
      refine ⟨rfl, (by first | exact Nat.zero_le _ | exact Nat.le_refl _ | exact Nat.le_succ 1 | decide), (hT ⟨now, pos, ld, out⟩ sz).mono ?_⟩
      rintro d l ⟨rfl, rfl⟩
      refine ⟨rfl, fun _ _ => rfl, rfl, ?_⟩
      refine And.intro (by repeat (first | exact trivial | refine And.intro ⟨rfl, rfl⟩ ?_)) ?_
      refine (fun (hrest : _) => by
        refine And.intro (fun _ => ?_) (fun _ => ?_)
        · refine And.intro ?_ trivial
          refine And.intro (by repeat (first | exact trivial | refine And.intro ⟨rfl, rfl⟩ ?_)) ?_
          refine And.intro ?_ trivial
          refine And.intro (by repeat (first | exact trivial | refine And.intro ⟨rfl, rfl⟩ ?_)) ?_
          exact hrest
        · refine And.intro ?_ trivial
          refine And.intro (by repeat (first | exact trivial | refine And.intro ⟨rfl, rfl⟩ ?_)) ?_
          refine And.intro ?_ trivial
          refine And.intro (by repeat (first | exact trivial | refine And.intro ⟨rfl, rfl⟩ ?_)) ?_
          exact hrest) ?_
      repeat (first | refine And.intro (fun _ => ?_) (fun h => Bool.noConfusion h) | refine And.intro (fun h => Bool.noConfusion h) (fun _ => ?_))
      refine ⟨⟨2047, [0, 1, 2, 4, 0, 24, 0, 64, 128, 288, 1023], [1, 3, 7, 15, 16, 63, 64, 192, 448, 1023, 2047]⟩, by kernel_rfl, ?_⟩
      refine And.intro ?_ trivial
      refine And.intro (by repeat (first | exact trivial | refine And.intro ⟨rfl, rfl⟩ ?_)) ?_
      generalize hbg : max (IntKind.i64.wrap (now + tm)) si.w.lo = bg
      refine ⟨⟨262143, [0, 0, 2, 4, 9, 16, 32, 32, 160, 352, 32, 1056, 2080, 4128, 8224, 16416, 33312, 65568], [1, 2, 6, 14, 31, 63, 127, 191, 447, 1023, 1087, 3135, 7231, 15423, 31807, 64575, 131071, 262143]⟩, by kernel_rfl, ?_⟩
      refine And.intro (fun h2 => ?_) (fun h2 => ?_)
      · have h2 : bg > si.w.hi := of_decide_eq_true h2
        repeat (first | refine And.intro (fun _ => ?_) (fun h => Bool.noConfusion h) | refine And.intro (fun h => Bool.noConfusion h) (fun _ => ?_))
        refine ⟨rfl, Nat.le_refl _, (c_audit_tell m d ⟨now, pos, ld, out⟩ sz (by omega) (by first | omega | (simp only [List.length_append, List.length_cons, List.length_nil]; omega)) n 15).mono ?_⟩
        rintro x k ⟨rfl, rfl⟩
        refine ⟨rfl, get0, rfl, ?_⟩
        refine ⟨⟨7167, [0, 0, 0, 0, 8, 20, 0, 64, 61, 317, 573, 2047, 4095, 6143], [1, 2, 4, 8, 24, 60, 64, 192, 317, 829, 1853, 4095, 8191, 16383]⟩, by kernel_rfl, ?_⟩
        refine And.intro ?_ trivial
        refine And.intro (by repeat (first | exact trivial | refine And.intro ⟨rfl, rfl⟩ ?_)) ?_
        refine And.intro ?_ trivial
        refine And.intro (by repeat (first | exact trivial | refine And.intro ⟨rfl, rfl⟩ ?_)) ?_
        exact And.intro rfl ⟨3, ld, [], [Tb.mk d.id n 15], by omega, by simp [ldK, h1, hld, h2], by simp [t1K, h1, hld, h2], by simp [t2K, h1, hld, h2], by simp [endK, wbox, wcs, mbox, mcs, rowTb]⟩
      · have h2 : ¬ bg > si.w.hi := of_decide_eq_false h2
        refine And.intro (fun h => Bool.noConfusion h) (fun _ => ?_)
        refine And.intro (fun h3 => ?_) (fun h3 => ?_)
        · have h3 : IntKind.i64.wrap (bg + si.serv) > d.w.hi := of_decide_eq_true h3
          repeat (first | refine And.intro (fun _ => ?_) (fun h => Bool.noConfusion h) | refine And.intro (fun h => Bool.noConfusion h) (fun _ => ?_))
          refine ⟨rfl, Nat.le_refl _, (c_audit_tell m d ⟨now, pos, ld, out⟩ sz (by omega) (by first | omega | (simp only [List.length_append, List.length_cons, List.length_nil]; omega)) n 15).mono ?_⟩
          rintro x k ⟨rfl, rfl⟩
          refine ⟨rfl, get0, rfl, ?_⟩
          refine ⟨⟨7167, [0, 0, 0, 0, 8, 20, 0, 64, 61, 317, 573, 2047, 4095, 6143], [1, 2, 4, 8, 24, 60, 64, 192, 317, 829, 1853, 4095, 8191, 16383]⟩, by kernel_rfl, ?_⟩
          refine And.intro ?_ trivial
          refine And.intro (by repeat (first | exact trivial | refine And.intro ⟨rfl, rfl⟩ ?_)) ?_
          refine And.intro ?_ trivial
          refine And.intro (by repeat (first | exact trivial | refine And.intro ⟨rfl, rfl⟩ ?_)) ?_
          exact And.intro rfl ⟨3, ld, [], [Tb.mk d.id n 15], by omega, by simp [ldK, h1, hld, h2, h3], by simp [t1K, h1, hld, h2, h3], by simp [t2K, h1, hld, h2, h3], by simp [endK, wbox, wcs, mbox, mcs, rowTb]⟩
        · have h3 : ¬ IntKind.i64.wrap (bg + si.serv) > d.w.hi := of_decide_eq_false h3
          repeat (first | refine And.intro (fun _ => ?_) (fun h => Bool.noConfusion h) | refine And.intro (fun h => Bool.noConfusion h) (fun _ => ?_))
          refine ⟨⟨7167, [0, 0, 0, 0, 8, 20, 0, 64, 61, 317, 573, 2047, 4095, 6143], [1, 2, 4, 8, 24, 60, 64, 192, 317, 829, 1853, 4095, 8191, 16383]⟩, by kernel_rfl, ?_⟩
          refine And.intro ?_ trivial
          refine And.intro (by repeat (first | exact trivial | refine And.intro ⟨rfl, rfl⟩ ?_)) ?_
          refine And.intro ?_ trivial
          refine And.intro (by repeat (first | exact trivial | refine And.intro ⟨rfl, rfl⟩ ?_)) ?_
          exact And.intro rfl ⟨sz, ld, [], [], by omega, by simp [ldK, h1, hld, h2, h3], by simp [t1K, h1, hld, h2, h3], by simp [t2K, h1, hld, h2, h3], by simp [endK, wbox, wcs, mbox, mcs, rowTb]⟩
  | false =>
    repeat (first | refine And.intro (fun _ => ?_) (fun h => Bool.noConfusion h) | refine And.intro (fun h => Bool.noConfusion h) (fun _ => ?_))
    refine ⟨⟨511, [0, 1, 2, 4, 0, 16, 40, 127, 255, 383], [1, 3, 7, 15, 16, 48, 127, 255, 511, 1023]⟩, by kernel_rfl, ?_⟩
    refine And.intro ?_ trivial
    refine And.intro (by repeat (first | exact trivial | refine And.intro ⟨rfl, rfl⟩ ?_)) ?_
    generalize hld : IntKind.i64.wrap (load + o.size) = ld
    refine ⟨⟨1023, [0, 1, 2, 4, 0, 16, 32, 64, 128, 264], [1, 3, 7, 15, 16, 48, 112, 240, 496, 1023]⟩, by kernel_rfl, ?_⟩
    refine And.intro (fun h1 => ?_) (fun h1 => ?_)
    · have h1 : ld > d.room := of_decide_eq_true h1
      repeat (first | refine And.intro (fun _ => ?_) (fun h => Bool.noConfusion h) | refine And.intro (fun h => Bool.noConfusion h) (fun _ => ?_))
      refine ⟨rfl, Nat.le_refl _, (c_audit_tell m d ⟨now, pos, ld, out⟩ sz (by omega) (by first | omega | (simp only [List.length_append, List.length_cons, List.length_nil]; omega)) n 14).mono ?_⟩
      rintro x k ⟨rfl, rfl⟩
      refine ⟨rfl, get0, rfl, ?_⟩
      repeat (first | refine And.intro (fun _ => ?_) (fun h => Bool.noConfusion h) | refine And.intro (fun h => Bool.noConfusion h) (fun _ => ?_))
      refine ⟨rfl, (by first | exact Nat.zero_le _ | exact Nat.le_refl _ | exact Nat.le_succ 1 | decide), (hS [mbox m, wbox 3 d ⟨now, pos, ld, out ++ [Tb.mk d.id n 14]⟩] (show 1 ≤ 2 by decide)).mono ?_⟩
      rintro d l ⟨rfl, rfl⟩
      refine ⟨rfl, fun _ _ => rfl, rfl, ?_⟩
      repeat (first | refine And.intro (fun _ => ?_) (fun h => Bool.noConfusion h) | refine And.intro (fun h => Bool.noConfusion h) (fun _ => ?_))
      refine ⟨⟨65535, [0, 1, 2, 4, 0, 16, 32, 64, 0, 256, 648, 1024, 2048, 2048, 8191, 32767], [1, 3, 7, 15, 16, 48, 112, 240, 256, 768, 2047, 4095, 8191, 12287, 24575, 65535]⟩, by kernel_rfl, ?_⟩
      refine And.intro ?_ trivial
      refine ⟨rfl, (by first | exact Nat.zero_le _ | exact Nat.le_refl _ | exact Nat.le_succ 1 | decide), (hT ⟨now, pos, ld, out ++ [Tb.mk d.id n 14]⟩ 3).mono ?_⟩
      rintro d l ⟨rfl, rfl⟩
      refine ⟨rfl, fun _ _ => rfl, rfl, ?_⟩
      refine And.intro (by repeat (first | exact trivial | refine And.intro ⟨rfl, rfl⟩ ?_)) ?_
      refine (fun (hrest : _) => by
        refine And.intro (fun _ => ?_) (fun _ => ?_)
        · refine And.intro ?_ trivial
          refine And.intro (by repeat (first | exact trivial | refine And.intro ⟨rfl, rfl⟩ ?_)) ?_
          refine And.intro ?_ trivial
          refine And.intro (by repeat (first | exact trivial | refine And.intro ⟨rfl, rfl⟩ ?_)) ?_
          exact hrest
        · refine And.intro ?_ trivial
          refine And.intro (by repeat (first | exact trivial | refine And.intro ⟨rfl, rfl⟩ ?_)) ?_
          refine And.intro ?_ trivial
          refine And.intro (by repeat (first | exact trivial | refine And.intro ⟨rfl, rfl⟩ ?_)) ?_
          exact hrest) ?_
      repeat (first | refine And.intro (fun _ => ?_) (fun h => Bool.noConfusion h) | refine And.intro (fun h => Bool.noConfusion h) (fun _ => ?_))
      refine ⟨⟨2047, [0, 1, 2, 4, 0, 24, 0, 64, 128, 288, 1023], [1, 3, 7, 15, 16, 63, 64, 192, 448, 1023, 2047]⟩, by kernel_rfl, ?_⟩
      refine And.intro ?_ trivial
      refine And.intro (by repeat (first | exact trivial | refine And.intro ⟨rfl, rfl⟩ ?_)) ?_
      generalize hbg : max (IntKind.i64.wrap (now + tm)) si.w.lo = bg
      refine ⟨⟨262143, [0, 0, 2, 4, 9, 16, 32, 32, 160, 352, 32, 1056, 2080, 4128, 8224, 16416, 33312, 65568], [1, 2, 6, 14, 31, 63, 127, 191, 447, 1023, 1087, 3135, 7231, 15423, 31807, 64575, 131071, 262143]⟩, by kernel_rfl, ?_⟩
      refine And.intro (fun h2 => ?_) (fun h2 => ?_)
      · have h2 : bg > si.w.hi := of_decide_eq_true h2
        repeat (first | refine And.intro (fun _ => ?_) (fun h => Bool.noConfusion h) | refine And.intro (fun h => Bool.noConfusion h) (fun _ => ?_))
        refine ⟨rfl, Nat.le_refl _, (c_audit_tell m d ⟨now, pos, ld, out ++ [Tb.mk d.id n 14]⟩ 3 (by omega) (by first | omega | (simp only [List.length_append, List.length_cons, List.length_nil]; omega)) n 15).mono ?_⟩
        rintro x k ⟨rfl, rfl⟩
        refine ⟨rfl, get0, rfl, ?_⟩
        refine ⟨⟨7167, [0, 0, 0, 0, 8, 20, 0, 64, 61, 317, 573, 2047, 4095, 6143], [1, 2, 4, 8, 24, 60, 64, 192, 317, 829, 1853, 4095, 8191, 16383]⟩, by kernel_rfl, ?_⟩
        refine And.intro ?_ trivial
        refine And.intro (by repeat (first | exact trivial | refine And.intro ⟨rfl, rfl⟩ ?_)) ?_
        refine And.intro ?_ trivial
        refine And.intro (by repeat (first | exact trivial | refine And.intro ⟨rfl, rfl⟩ ?_)) ?_
        exact And.intro rfl ⟨3, ld, [Tb.mk d.id n 14], [Tb.mk d.id n 15], by omega, by simp [ldK, h1, hld, h2], by simp [t1K, h1, hld, h2], by simp [t2K, h1, hld, h2], by simp [endK, wbox, wcs, mbox, mcs, rowTb]⟩
      · have h2 : ¬ bg > si.w.hi := of_decide_eq_false h2
        refine And.intro (fun h => Bool.noConfusion h) (fun _ => ?_)
        refine And.intro (fun h3 => ?_) (fun h3 => ?_)
        · have h3 : IntKind.i64.wrap (bg + si.serv) > d.w.hi := of_decide_eq_true h3
          repeat (first | refine And.intro (fun _ => ?_) (fun h => Bool.noConfusion h) | refine And.intro (fun h => Bool.noConfusion h) (fun _ => ?_))
          refine ⟨rfl, Nat.le_refl _, (c_audit_tell m d ⟨now, pos, ld, out ++ [Tb.mk d.id n 14]⟩ 3 (by omega) (by first | omega | (simp only [List.length_append, List.length_cons, List.length_nil]; omega)) n 15).mono ?_⟩
          rintro x k ⟨rfl, rfl⟩
          refine ⟨rfl, get0, rfl, ?_⟩
          refine ⟨⟨7167, [0, 0, 0, 0, 8, 20, 0, 64, 61, 317, 573, 2047, 4095, 6143], [1, 2, 4, 8, 24, 60, 64, 192, 317, 829, 1853, 4095, 8191, 16383]⟩, by kernel_rfl, ?_⟩
          refine And.intro ?_ trivial
          refine And.intro (by repeat (first | exact trivial | refine And.intro ⟨rfl, rfl⟩ ?_)) ?_
          refine And.intro ?_ trivial
          refine And.intro (by repeat (first | exact trivial | refine And.intro ⟨rfl, rfl⟩ ?_)) ?_
          exact And.intro rfl ⟨3, ld, [Tb.mk d.id n 14], [Tb.mk d.id n 15], by omega, by simp [ldK, h1, hld, h2, h3], by simp [t1K, h1, hld, h2, h3], by simp [t2K, h1, hld, h2, h3], by simp [endK, wbox, wcs, mbox, mcs, rowTb]⟩
        · have h3 : ¬ IntKind.i64.wrap (bg + si.serv) > d.w.hi := of_decide_eq_false h3
          repeat (first | refine And.intro (fun _ => ?_) (fun h => Bool.noConfusion h) | refine And.intro (fun h => Bool.noConfusion h) (fun _ => ?_))
          refine ⟨⟨7167, [0, 0, 0, 0, 8, 20, 0, 64, 61, 317, 573, 2047, 4095, 6143], [1, 2, 4, 8, 24, 60, 64, 192, 317, 829, 1853, 4095, 8191, 16383]⟩, by kernel_rfl, ?_⟩
          refine And.intro ?_ trivial
          refine And.intro (by repeat (first | exact trivial | refine And.intro ⟨rfl, rfl⟩ ?_)) ?_
          refine And.intro ?_ trivial
          refine And.intro (by repeat (first | exact trivial | refine And.intro ⟨rfl, rfl⟩ ?_)) ?_
          exact And.intro rfl ⟨3, ld, [Tb.mk d.id n 14], [], by omega, by simp [ldK, h1, hld, h2, h3], by simp [t1K, h1, hld, h2, h3], by simp [t2K, h1, hld, h2, h3], by simp [endK, wbox, wcs, mbox, mcs, rowTb]⟩
    · have h1 : ¬ ld > d.room := of_decide_eq_false h1
      repeat (first | refine And.intro (fun _ => ?_) (fun h => Bool.noConfusion h) | refine And.intro (fun h => Bool.noConfusion h) (fun _ => ?_))
      refine ⟨rfl, (by first | exact Nat.zero_le _ | exact Nat.le_refl _ | exact Nat.le_succ 1 | decide), (hS [mbox m, wbox sz d ⟨now, pos, ld, out⟩] (show 1 ≤ 2 by decide)).mono ?_⟩
      rintro d l ⟨rfl, rfl⟩
      refine ⟨rfl, fun _ _ => rfl, rfl, ?_⟩
      repeat (first | refine And.intro (fun _ => ?_) (fun h => Bool.noConfusion h) | refine And.intro (fun h => Bool.noConfusion h) (fun _ => ?_))
      refine ⟨⟨65535, [0, 1, 2, 4, 0, 16, 32, 64, 0, 256, 648, 1024, 2048, 2048, 8191, 32767], [1, 3, 7, 15, 16, 48, 112, 240, 256, 768, 2047, 4095, 8191, 12287, 24575, 65535]⟩, by kernel_rfl, ?_⟩
      refine And.intro ?_ trivial
      refine ⟨rfl, (by first | exact Nat.zero_le _ | exact Nat.le_refl _ | exact Nat.le_succ 1 | decide), (hT ⟨now, pos, ld, out⟩ sz).mono ?_⟩
      rintro d l ⟨rfl, rfl⟩
      refine ⟨rfl, fun _ _ => rfl, rfl, ?_⟩
      refine And.intro (by repeat (first | exact trivial | refine And.intro ⟨rfl, rfl⟩ ?_)) ?_
      refine (fun (hrest : _) => by
        refine And.intro (fun _ => ?_) (fun _ => ?_)
        · refine And.intro ?_ trivial
          refine And.intro (by repeat (first | exact trivial | refine And.intro ⟨rfl, rfl⟩ ?_)) ?_
          refine And.intro ?_ trivial
          refine And.intro (by repeat (first | exact trivial | refine And.intro ⟨rfl, rfl⟩ ?_)) ?_
          exact hrest
        · refine And.intro ?_ trivial
          refine And.intro (by repeat (first | exact trivial | refine And.intro ⟨rfl, rfl⟩ ?_)) ?_
          refine And.intro ?_ trivial
          refine And.intro (by repeat (first | exact trivial | refine And.intro ⟨rfl, rfl⟩ ?_)) ?_
          exact hrest) ?_
      repeat (first | refine And.intro (fun _ => ?_) (fun h => Bool.noConfusion h) | refine And.intro (fun h => Bool.noConfusion h) (fun _ => ?_))
      refine ⟨⟨2047, [0, 1, 2, 4, 0, 24, 0, 64, 128, 288, 1023], [1, 3, 7, 15, 16, 63, 64, 192, 448, 1023, 2047]⟩, by kernel_rfl, ?_⟩
      refine And.intro ?_ trivial
      refine And.intro (by repeat (first | exact trivial | refine And.intro ⟨rfl, rfl⟩ ?_)) ?_
      generalize hbg : max (IntKind.i64.wrap (now + tm)) si.w.lo = bg
      refine ⟨⟨262143, [0, 0, 2, 4, 9, 16, 32, 32, 160, 352, 32, 1056, 2080, 4128, 8224, 16416, 33312, 65568], [1, 2, 6, 14, 31, 63, 127, 191, 447, 1023, 1087, 3135, 7231, 15423, 31807, 64575, 131071, 262143]⟩, by kernel_rfl, ?_⟩
      refine And.intro (fun h2 => ?_) (fun h2 => ?_)
      · have h2 : bg > si.w.hi := of_decide_eq_true h2
        repeat (first | refine And.intro (fun _ => ?_) (fun h => Bool.noConfusion h) | refine And.intro (fun h => Bool.noConfusion h) (fun _ => ?_))
        refine ⟨rfl, Nat.le_refl _, (c_audit_tell m d ⟨now, pos, ld, out⟩ sz (by omega) (by first | omega | (simp only [List.length_append, List.length_cons, List.length_nil]; omega)) n 15).mono ?_⟩
        rintro x k ⟨rfl, rfl⟩
        refine ⟨rfl, get0, rfl, ?_⟩
        refine ⟨⟨7167, [0, 0, 0, 0, 8, 20, 0, 64, 61, 317, 573, 2047, 4095, 6143], [1, 2, 4, 8, 24, 60, 64, 192, 317, 829, 1853, 4095, 8191, 16383]⟩, by kernel_rfl, ?_⟩
        refine And.intro ?_ trivial
        refine And.intro (by repeat (first | exact trivial | refine And.intro ⟨rfl, rfl⟩ ?_)) ?_
        refine And.intro ?_ trivial
        refine And.intro (by repeat (first | exact trivial | refine And.intro ⟨rfl, rfl⟩ ?_)) ?_
        exact And.intro rfl ⟨3, ld, [], [Tb.mk d.id n 15], by omega, by simp [ldK, h1, hld, h2], by simp [t1K, h1, hld, h2], by simp [t2K, h1, hld, h2], by simp [endK, wbox, wcs, mbox, mcs, rowTb]⟩
      · have h2 : ¬ bg > si.w.hi := of_decide_eq_false h2
        refine And.intro (fun h => Bool.noConfusion h) (fun _ => ?_)
        refine And.intro (fun h3 => ?_) (fun h3 => ?_)
        · have h3 : IntKind.i64.wrap (bg + si.serv) > d.w.hi := of_decide_eq_true h3
          repeat (first | refine And.intro (fun _ => ?_) (fun h => Bool.noConfusion h) | refine And.intro (fun h => Bool.noConfusion h) (fun _ => ?_))
          refine ⟨rfl, Nat.le_refl _, (c_audit_tell m d ⟨now, pos, ld, out⟩ sz (by omega) (by first | omega | (simp only [List.length_append, List.length_cons, List.length_nil]; omega)) n 15).mono ?_⟩
          rintro x k ⟨rfl, rfl⟩
          refine ⟨rfl, get0, rfl, ?_⟩
          refine ⟨⟨7167, [0, 0, 0, 0, 8, 20, 0, 64, 61, 317, 573, 2047, 4095, 6143], [1, 2, 4, 8, 24, 60, 64, 192, 317, 829, 1853, 4095, 8191, 16383]⟩, by kernel_rfl, ?_⟩
          refine And.intro ?_ trivial
          refine And.intro (by repeat (first | exact trivial | refine And.intro ⟨rfl, rfl⟩ ?_)) ?_
          refine And.intro ?_ trivial
          refine And.intro (by repeat (first | exact trivial | refine And.intro ⟨rfl, rfl⟩ ?_)) ?_
          exact And.intro rfl ⟨3, ld, [], [Tb.mk d.id n 15], by omega, by simp [ldK, h1, hld, h2, h3], by simp [t1K, h1, hld, h2, h3], by simp [t2K, h1, hld, h2, h3], by simp [endK, wbox, wcs, mbox, mcs, rowTb]⟩
        · have h3 : ¬ IntKind.i64.wrap (bg + si.serv) > d.w.hi := of_decide_eq_false h3
          repeat (first | refine And.intro (fun _ => ?_) (fun h => Bool.noConfusion h) | refine And.intro (fun h => Bool.noConfusion h) (fun _ => ?_))
          refine ⟨⟨7167, [0, 0, 0, 0, 8, 20, 0, 64, 61, 317, 573, 2047, 4095, 6143], [1, 2, 4, 8, 24, 60, 64, 192, 317, 829, 1853, 4095, 8191, 16383]⟩, by kernel_rfl, ?_⟩
          refine And.intro ?_ trivial
          refine And.intro (by repeat (first | exact trivial | refine And.intro ⟨rfl, rfl⟩ ?_)) ?_
          refine And.intro ?_ trivial
          refine And.intro (by repeat (first | exact trivial | refine And.intro ⟨rfl, rfl⟩ ?_)) ?_
          exact And.intro rfl ⟨sz, ld, [], [], by omega, by simp [ldK, h1, hld, h2, h3], by simp [t1K, h1, hld, h2, h3], by simp [t2K, h1, hld, h2, h3], by simp [endK, wbox, wcs, mbox, mcs, rowTb]⟩
theorem c_audit_stop (m : Mp) (hm : okMp m) (d : Drv) (ahead : List Stp) (ha : ahead.length ≤ 1000) (s : Stp) (o : Ord) (w : Wk) (sz : Nat) (hsz : sz = 0 ∨ sz = 3) (hw : w.out.length ≤ 90000) : Tri Tryz.prog 117 1 [.gptr 1 0, .list .imm (ahead.map rowS), .agg (rowS s), .agg (rowO o)] [mbox m, wbox sz d w] (fun x k => x = .tup [] ∧ ∃ sz', (sz' = 0 ∨ sz' = 3) ∧ k = [mbox m, wbox sz' d (stopK m d ahead s o w)]) :=
  (c_audit_stop_1 m hm d ahead ha s.ord s.drop o w sz hsz hw).mono fun x k ⟨h, sz', ld, l1, l2, h1, h2, h3, h4, h5⟩ => ⟨h, sz', h1, by rw [h5, h2, h3, h4]; rfl⟩
end Go.Lv

namespace Go.Lv
open Go.Proofs

theorem goK_at {m : Mp} {d : Drv} {os : List Ord} {l : List Stp} {i : Nat} (h : i < l.length) (w : Wk) : goK m d os (l.take i) (l.drop i) w = goK m d os (l.take (i + 1)) (l.drop (i + 1)) (stepK m d os (l.take i) l[i] w) := by
  rw [List.drop_eq_getElem_cons h, List.take_succ_eq_append_getElem h]
  rfl
theorem lackK_at {d : Drv} {os : List Ord} {l : List Stp} {i : Nat} (h : i < l.length) : lackK d os (l.drop i) = lkK d os l[i] (l.drop (i + 1)) ++ lackK d os (l.drop (i + 1)) := by
  rw [List.drop_eq_getElem_cons h]
  rfl
theorem take_rowsK (l : List Stp) (i : Nat) {n : Int} (h : n = (i : Int)) : ((l.map rowS).drop 0).take (n.toNat - 0) = (l.take i).map rowS := by
  subst h
  simp [List.map_take]
theorem drop_rowsS (l : List Stp) (i : Nat) {n : Int} (h : n = (i : Int)) : ((l.map rowS).drop n.toNat).take ((l.map rowS).length - n.toNat) = (l.drop i).map rowS := by
  subst h
  rw [List.take_of_length_le (by simp)]
  simp [List.map_drop]
noncomputable def sA1 (m : Mp) (os : List Ord) (l : List Stp) (sz : Nat) (d : Drv) (w : Wk) (i : Nat) : DS := ⟨[(2, encOs os), (3, .list .imm (l.map rowS)), (8, .list (.own 0) []), (9, .gptr 1 0), (27, .list .imm (l.map rowS)), (28, .int .i64 (l.length : Int)), (29, .int .i64 (i : Int))], [], [mbox m, wbox sz d w], mR 1⟩
noncomputable def sA2 (m : Mp) (os : List Ord) (l : List Stp) (sz : Nat) (d : Drv) (w : Wk) (i : Nat) : DS := ⟨[(2, encOs os), (3, .list .imm (l.map rowS)), (8, .list (.own 0) []), (9, .gptr 1 0), (55, .list .imm (l.map rowS)), (56, .int .i64 (l.length : Int)), (57, .int .i64 (i : Int))], [], [mbox m, wbox sz d w], mR 1⟩
set_option maxHeartbeats 16000000 in
theorem c_audit_along_0 (m : Mp) (hm : okMp m) (d : Drv) (os : List Ord) (ho : os.length ≤ 1000000) (l : List Stp) (hl : l.length ≤ 1000) : Tri Tryz.prog 71 1 [.gptr 0 0, .agg (rowDr d), encOs os, .list .imm (l.map rowS)] [mbox m] (fun x k => ∃ sz o2, (sz = 0 ∨ sz = 3) ∧ x = .list (.own sz) ((alongK m d os l).map rowTb) ∧ k = [mbox m, o2]) := by
  refine Tri.walk2 (L := LT) (c := {n := 93, gl := [26], ko := [8], kb := [26], xf := [92]}) [(38,1,[]),(116,1,[]),(117,1,[]),(118,1,[])] [0, 1, 2, 3, 5, 8, 9, 10, 11, 12, 13, 14, 15, 17, 27, 28, 29, 30, 42, 55, 56, 57, 58, 83] hLT hmix Tryz.func71 rfl rfl ⟨rfl, rfl⟩ (by show 4 ≤ 93; decide) (by first | exact Nat.zero_le _ | exact Nat.le_refl _ | exact Nat.le_succ 1 | decide) ?_
  unfold alongK
  repeat (first | refine And.intro (fun _ => ?_) (fun h => Bool.noConfusion h) | refine And.intro (fun h => Bool.noConfusion h) (fun _ => ?_))
  show Ok _ _ _ _ _
  refine Ok.loopN hLT hmix [(38,1,[]),(116,1,[]),(117,1,[]),(118,1,[])] [0, 1, 2, 3, 5, 8, 9, 10, 11, 12, 13, 14, 15, 17, 27, 28, 29, 30, 42, 55, 56, 57, 58, 83] [2,3,8,9,27,28,29] [] (fun n s => ∃ (i : Nat) (sz : Nat) (w : Wk), n = l.length - i ∧ i ≤ l.length ∧ (sz = 0 ∨ sz = 3) ∧ w.out.length ≤ 2 * i ∧ goK m d os (l.take i) (l.drop i) w = goK m d os [] l (wk0 d) ∧ s = sA1 m os l sz d w i) (n := l.length) ⟨0, 0, wk0 d, rfl, Nat.zero_le _, .inl rfl, Nat.le_refl _, rfl, by unfold sA1; rw [← List.length_map (f := rowS)]; rfl⟩ ?_
  rintro n s ⟨i, sz, w, rfl, hi, hsz, hwl, hgo, rfl⟩
  refine And.intro (fun h1 => ?_) (fun h1 => ?_)
  rotate_left
  · have h1 : ¬ ((i : Nat) : Int) < (l.length : Int) := of_decide_eq_false h1
    have hil : i = l.length := by omega
    rw [List.drop_eq_nil_of_le (by omega)] at hgo
    have hgo : w = goK m d os [] l (wk0 d) := hgo
    have hlw : w.out.length ≤ 2000 := by omega
    have hsz1 := hsz
    rw [← hgo]
    clear hgo h1 hi
    repeat (first | refine And.intro (fun _ => ?_) (fun h => Bool.noConfusion h) | refine And.intro (fun h => Bool.noConfusion h) (fun _ => ?_))
    show Ok _ _ _ _ _
    refine Ok.loopN hLT hmix [(38,1,[]),(116,1,[]),(117,1,[]),(118,1,[])] [0, 1, 2, 3, 5, 8, 9, 10, 11, 12, 13, 14, 15, 17, 27, 28, 29, 30, 42, 55, 56, 57, 58, 83] [2,3,8,9,55,56,57] [] (fun n s => ∃ (i : Nat) (sz2 : Nat) (out : List Tb), n = l.length - i ∧ i ≤ l.length ∧ (sz2 = 0 ∨ sz2 = 3) ∧ out.length ≤ 2000 + i ∧ out ++ lackK d os (l.drop i) = w.out ++ lackK d os l ∧ s = sA2 m os l sz2 d { w with out := out } i) (n := l.length) ⟨0, sz, w.out, rfl, Nat.zero_le _, hsz1, hlw, rfl, by unfold sA2; rw [← List.length_map (f := rowS)]; rfl⟩ ?_
    rintro n s ⟨i, sz, out, rfl, hi, hsz, hwl, hgo, rfl⟩
    obtain ⟨wn, wp, wl, wo⟩ := w
    refine And.intro (fun h1 => ?_) (fun h1 => ?_)
    rotate_left
    · have h1 : ¬ ((i : Nat) : Int) < (l.length : Int) := of_decide_eq_false h1
      rw [List.drop_eq_nil_of_le (by omega)] at hgo
      rw [← hgo]
      repeat (first | refine And.intro (fun _ => ?_) (fun h => Bool.noConfusion h) | refine And.intro (fun h => Bool.noConfusion h) (fun _ => ?_))
      exact ⟨sz, _, hsz, by show D.list (.own sz) (out.map rowTb) = D.list (.own sz) ((out ++ []).map rowTb); rw [List.append_nil], rfl⟩
    have h1 : ((i : Nat) : Int) < (l.length : Int) := of_decide_eq_true h1
    have hil : i < l.length := by omega
    have hw := wrap_succ (i := i) (n := l.length) hil (by omega)
    have hal : allLen 2 (l.map rowS) = true := by simp [allLen, rowS]
    have hF := c_route_Find os (by omega) l[i].ord (r := 1) (sto := [mbox m, wbox sz d ⟨wn, wp, wl, out⟩]) (show 1 ≤ 2 by decide)
    rw [lackK_at hil, ← List.append_assoc] at hgo
    unfold lkK at hgo
    have hO := c_audit_ordered (l.drop i) (by rw [List.length_drop]; omega) (drop_rowsS l i rfl) l[i].ord true (r := 1) (sto := [mbox m, wbox sz d ⟨wn, wp, wl, out⟩]) (show 1 ≤ 2 by decide)
    have hmem : l[i].drop = false → ((⟨l[i].ord, true⟩ : Stp) ∈ l.drop i ↔ (⟨l[i].ord, true⟩ : Stp) ∈ l.drop (i + 1)) := fun hd => by
      rw [List.drop_eq_getElem_cons hil, List.mem_cons]
      exact ⟨fun h => h.resolve_left (fun e => by rw [← e] at hd; cases hd), .inr⟩
    refine ⟨(l).map rowS, rowS ((l)[i]'(by omega)), rfl, by omega, row_at' rowS (l) (by omega) (by omega), rfl, of_decide_eq_true rfl, ?_⟩
    generalize l[i] = s at hF hgo hO hmem ⊢
    obtain ⟨n, b⟩ := s
    unfold findOD at hF
    cases hf : findO n os with
    | none =>
      rw [hf] at hF hgo
      refine ⟨rfl, (by first | exact Nat.zero_le _ | exact Nat.le_refl _ | exact Nat.le_succ 1 | decide), (hF).mono ?_⟩
      rintro d l ⟨rfl, rfl⟩
      refine ⟨rfl, fun _ _ => rfl, rfl, ?_⟩
      repeat (first | refine And.intro (fun _ => ?_) (fun h => Bool.noConfusion h) | refine And.intro (fun h => Bool.noConfusion h) (fun _ => ?_))
      refine ⟨⟨32767, [0, 1, 2, 6, 10, 18, 34, 64, 64, 448, 64, 1088, 2624, 4160, 8256], [1, 3, 7, 15, 31, 63, 127, 255, 383, 1023, 1151, 3199, 8191, 16383, 32767]⟩, by kernel_rfl, ?_⟩
      repeat (first | refine And.intro (fun _ => ?_) (fun h => Bool.noConfusion h) | refine And.intro (fun h => Bool.noConfusion h) (fun _ => ?_))
      refine ⟨l.length - (i + 1), by omega, i + 1, sz, out, rfl, by omega, hsz, by omega, ?_, ?_⟩
      · rw [← hgo]; simp
      · unfold sA2
        rw [← hw]
        rfl
    | some o =>
    rw [hf] at hF hgo
    refine ⟨rfl, (by first | exact Nat.zero_le _ | exact Nat.le_refl _ | exact Nat.le_succ 1 | decide), (hF).mono ?_⟩
    rintro d l ⟨rfl, rfl⟩
    refine ⟨rfl, fun _ _ => rfl, rfl, ?_⟩
    cases b with
    | true =>
      repeat (first | refine And.intro (fun _ => ?_) (fun h => Bool.noConfusion h) | refine And.intro (fun h => Bool.noConfusion h) (fun _ => ?_))
      refine ⟨⟨32767, [0, 1, 2, 6, 10, 18, 34, 64, 64, 448, 64, 1088, 2624, 4160, 8256], [1, 3, 7, 15, 31, 63, 127, 255, 383, 1023, 1151, 3199, 8191, 16383, 32767]⟩, by kernel_rfl, ?_⟩
      repeat (first | refine And.intro (fun _ => ?_) (fun h => Bool.noConfusion h) | refine And.intro (fun h => Bool.noConfusion h) (fun _ => ?_))
      refine ⟨l.length - (i + 1), by omega, i + 1, sz, out, rfl, by omega, hsz, by omega, ?_, ?_⟩
      · rw [← hgo]; simp
      · unfold sA2
        rw [← hw]
        rfl
    | false =>
      have hmem := hmem rfl
      repeat (first | refine And.intro (fun _ => ?_) (fun h => Bool.noConfusion h) | refine And.intro (fun h => Bool.noConfusion h) (fun _ => ?_))
      refine ⟨⟨32767, [0, 1, 2, 6, 10, 18, 34, 64, 64, 448, 64, 1088, 2624, 4160, 8256], [1, 3, 7, 15, 31, 63, 127, 255, 383, 1023, 1151, 3199, 8191, 16383, 32767]⟩, by kernel_rfl, ?_⟩
      repeat (first | refine And.intro (fun _ => ?_) (fun h => Bool.noConfusion h) | refine And.intro (fun h => Bool.noConfusion h) (fun _ => ?_))
      refine And.intro (Nat.le_refl _) (And.intro ⟨by omega, by (try rw [List.length_map]); omega⟩ (And.intro (of_decide_eq_true rfl) (And.intro (by assumption) (And.intro rfl ?_))))
      refine And.intro ?_ trivial
      refine ⟨rfl, (by first | exact Nat.zero_le _ | exact Nat.le_refl _ | exact Nat.le_succ 1 | decide), (hO).mono ?_⟩
      rintro d l ⟨rfl, rfl⟩
      refine ⟨rfl, fun _ _ => rfl, rfl, ?_⟩
      cases hq : decide ((⟨n, true⟩ : Stp) ∈ l.drop i) with
      | true =>
        have hq := of_decide_eq_true hq
        refine And.intro (by repeat (first | exact trivial | refine And.intro ⟨rfl, rfl⟩ ?_ | refine And.intro (And.intro (Nat.le_refl _) (And.intro ⟨by omega, by (try rw [List.length_map]); omega⟩ (And.intro (of_decide_eq_true rfl) (And.intro (by assumption) (And.intro rfl (And.intro rfl rfl)))))) ?_)) ?_
        repeat (first | refine And.intro (fun _ => ?_) (fun h => Bool.noConfusion h) | refine And.intro (fun h => Bool.noConfusion h) (fun _ => ?_))
        refine ⟨l.length - (i + 1), by omega, i + 1, sz, out, rfl, by omega, hsz, by omega, ?_, ?_⟩
        · rw [← hgo]; simp [hmem.1 hq]
        · unfold sA2
          rw [← hw]
          rfl
      | false =>
        have hq := of_decide_eq_false hq
        refine And.intro (by repeat (first | exact trivial | refine And.intro ⟨rfl, rfl⟩ ?_ | refine And.intro (And.intro (Nat.le_refl _) (And.intro ⟨by omega, by (try rw [List.length_map]); omega⟩ (And.intro (of_decide_eq_true rfl) (And.intro (by assumption) (And.intro rfl (And.intro rfl rfl)))))) ?_)) ?_
        repeat (first | refine And.intro (fun _ => ?_) (fun h => Bool.noConfusion h) | refine And.intro (fun h => Bool.noConfusion h) (fun _ => ?_))
        refine ⟨rfl, Nat.le_refl _, (c_audit_tell m d ⟨wn, wp, wl, out⟩ sz hsz (by show out.length ≤ 100000; omega) n 18).mono ?_⟩
        rintro x k ⟨rfl, rfl⟩
        refine ⟨rfl, get0, rfl, ?_⟩
        repeat (first | refine And.intro (fun _ => ?_) (fun h => Bool.noConfusion h) | refine And.intro (fun h => Bool.noConfusion h) (fun _ => ?_))
        refine ⟨l.length - (i + 1), by omega, i + 1, 3, out ++ [⟨d.id, n, 18⟩], rfl, by omega, .inr rfl, ?_, ?_, ?_⟩
        · simp only [List.length_append, List.length_cons, List.length_nil]
          omega
        · rw [if_pos ⟨rfl, rfl, fun h => hq (hmem.2 h)⟩] at hgo
          exact hgo
        · unfold sA2
          rw [← hw]
          rfl
  have h1 : ((i : Nat) : Int) < (l.length : Int) := of_decide_eq_true h1
  have hil : i < l.length := by omega
  have hw := wrap_succ (i := i) (n := l.length) hil (by omega)
  have hal : allLen 2 (l.map rowS) = true := by simp [allLen, rowS]
  have hF := c_route_Find os (by omega) l[i].ord (r := 1) (sto := [mbox m, wbox sz d w]) (show 1 ≤ 2 by decide)
  have hwl2 := stepK_len m d os (l.take i) l[i] w
  rw [goK_at hil] at hgo
  unfold stepK at hgo hwl2
  have hS := fun (o : Ord) => c_audit_stop m hm d (l.take i) (by rw [List.length_take]; omega) l[i] o w sz hsz (by omega)
  refine ⟨(l).map rowS, rowS ((l)[i]'(by omega)), rfl, by omega, row_at' rowS (l) (by omega) (by omega), rfl, of_decide_eq_true rfl, ?_⟩
  rw [← take_rowsK l i rfl] at hS
  generalize l[i] = s at hF hgo hwl2 hS ⊢
  unfold findOD at hF
  cases hf : findO s.ord os with
  | none =>
    rw [hf] at hF hgo hwl2
    refine ⟨rfl, (by first | exact Nat.zero_le _ | exact Nat.le_refl _ | exact Nat.le_succ 1 | decide), (hF).mono ?_⟩
    rintro d l ⟨rfl, rfl⟩
    refine ⟨rfl, fun _ _ => rfl, rfl, ?_⟩
    repeat (first | refine And.intro (fun _ => ?_) (fun h => Bool.noConfusion h) | refine And.intro (fun h => Bool.noConfusion h) (fun _ => ?_))
    refine ⟨rfl, Nat.le_refl _, (c_audit_tell m d w sz hsz (by omega) s.ord 8).mono ?_⟩
    rintro x k ⟨rfl, rfl⟩
    refine ⟨rfl, get0, rfl, ?_⟩
    repeat (first | refine And.intro (fun _ => ?_) (fun h => Bool.noConfusion h) | refine And.intro (fun h => Bool.noConfusion h) (fun _ => ?_))
    refine ⟨l.length - (i + 1), by omega, i + 1, 3, _, rfl, by omega, .inr rfl, ?_, hgo, ?_⟩
    · simp only [List.length_append, List.length_cons, List.length_nil] at hwl2 ⊢
      omega
    · unfold sA1
      rw [← hw]
      rfl
  | some o =>
    rw [hf] at hF hgo hwl2
    refine ⟨rfl, (by first | exact Nat.zero_le _ | exact Nat.le_refl _ | exact Nat.le_succ 1 | decide), (hF).mono ?_⟩
    rintro d l ⟨rfl, rfl⟩
    refine ⟨rfl, fun _ _ => rfl, rfl, ?_⟩
    repeat (first | refine And.intro (fun _ => ?_) (fun h => Bool.noConfusion h) | refine And.intro (fun h => Bool.noConfusion h) (fun _ => ?_))
    refine ⟨⟨127, [0, 0, 0, 6, 0, 0, 57], [1, 2, 4, 14, 16, 32, 127]⟩, by kernel_rfl, ?_⟩
    refine And.intro ⟨by omega, by (try rw [List.length_map]); omega⟩ (And.intro (Nat.zero_le _) (And.intro (of_decide_eq_true rfl) (And.intro (by assumption) (And.intro rfl ?_))))
    refine And.intro ?_ trivial
    refine ⟨rfl, Nat.le_refl _, (hS o).mono ?_⟩
    rintro x k ⟨rfl, sz', hsz', rfl⟩
    refine ⟨rfl, get0, rfl, ?_⟩
    refine And.intro (by repeat (first | exact trivial | refine And.intro ⟨rfl, rfl⟩ ?_ | refine And.intro (And.intro ⟨by omega, by (try rw [List.length_map]); omega⟩ (And.intro (Nat.zero_le _) (And.intro (of_decide_eq_true rfl) (And.intro (by assumption) (And.intro rfl (And.intro rfl rfl)))))) ?_ | refine And.intro ⟨_, _, rfl, by omega, row_at' _ _ rfl (by omega), rfl, of_decide_eq_true rfl, And.intro rfl (And.intro rfl rfl)⟩ ?_)) ?_
    repeat (first | refine And.intro (fun _ => ?_) (fun h => Bool.noConfusion h) | refine And.intro (fun h => Bool.noConfusion h) (fun _ => ?_))
    refine ⟨l.length - (i + 1), by omega, i + 1, sz', _, rfl, by omega, hsz', ?_, hgo, ?_⟩
    · simp only [] at hwl2 ⊢
      omega
    · unfold sA1
      rw [← hw]
      rfl
end Go.Lv

namespace Go.Lv
open Go.Proofs

noncomputable def rtK (m : Mp) (ds : List Drv) (os : List Ord) (r : Rte) : List Tb := match findDr r.drv ds with
  | none => [⟨r.drv, 0, 8⟩]
  | some d => alongK m d os r.st
noncomputable def rtsK (m : Mp) (ds : List Drv) (os : List Ord) (p : Pln) : List Tb := p.flatMap (rtK m ds os)
noncomputable def misK (p : Pln) (o : Ord) : List Tb := if (findP o.id p).isSome = true then [] else [⟨0, o.id, 19⟩]
noncomputable def audK (m : Mp) (ds : List Drv) (os : List Ord) (p : Pln) : List Tb := if togO m ds os p then rtsK m ds os p ++ os.flatMap (misK p) else [⟨0, 0, 1⟩]
theorem rtK_len (m : Mp) (ds : List Drv) (os : List Ord) (r : Rte) : (rtK m ds os r).length ≤ 3 * r.st.length + 1 := by
  unfold rtK
  split
  · simp
  · rename_i d _
    have := alongK_len m d os r.st
    omega
theorem rtsK_succ (m : Mp) (ds : List Drv) (os : List Ord) {p : Pln} {i : Nat} (h : i < p.length) : rtsK m ds os (p.take (i + 1)) = rtsK m ds os (p.take i) ++ rtK m ds os p[i] := by
  unfold rtsK
  rw [List.take_succ_eq_append_getElem h, List.flatMap_append]
  simp
theorem misK_succ (p : Pln) {os : List Ord} {i : Nat} (h : i < os.length) : (os.take (i + 1)).flatMap (misK p) = (os.take i).flatMap (misK p) ++ misK p os[i] := by
  rw [List.take_succ_eq_append_getElem h, List.flatMap_append]
  simp
theorem nrBLL_Tb : ∀ l : List Tb, nrBLL 0 (l.map rowTb) = true
  | [] => rfl
  | b :: r => by
    show (nrBL 0 (rowTb b) && nrBLL 0 (r.map rowTb)) = true
    rw [nrBLL_Tb r]
    rfl
noncomputable def isTb (l : List Tb) (d : D) : Prop := ∃ sz, (sz = 0 ∨ sz = 3) ∧ d = .list (.own sz) (l.map rowTb)
theorem isTb_ok {l : List Tb} {d : D} (h : isTb l d) : partsOK d = true ∧ nrB 0 d = true := by
  obtain ⟨sz, _, rfl⟩ := h
  exact ⟨rfl, nrBLL_Tb l⟩
theorem c_audit_along_1 (m : Mp) (hm : okMp m) (d : Drv) (os : List Ord) (ho : os.length ≤ 1000000) (l : List Stp) (hl : l.length ≤ 1000) : Tri Tryz.prog 71 1 [.gptr 0 0, .agg (rowDr d), encOs os, .list .imm (l.map rowS)] [mbox m] (fun x k => isTb (alongK m d os l) x ∧ k = [mbox m]) :=
  Tri.forget (c_audit_along_0 m hm d os ho l hl) (fun x k ⟨sz, o2, hsz, h1, h2⟩ _ => ⟨1, Nat.le_refl _, by rw [h2]; show 1 ≤ 2; decide, (nrB_nr (isTb_ok ⟨sz, hsz, h1⟩).2).up (Nat.zero_le _), fun o ho => by
    rw [h2] at ho
    have : o = mbox m := by simpa using ho
    rw [this]
    exact fun x hx => nrBL_up (nr_mcs m) x hx, ⟨sz, hsz, h1⟩, by rw [h2]; rfl⟩)
theorem c_audit_along (m : Mp) (hm : okMp m) (d : Drv) (os : List Ord) (ho : os.length ≤ 1000000) (l : List Stp) (hl : l.length ≤ 1000) {xs : List (List D)} (hx : xs = l.map rowS) {r b : Nat} {sto : List Ob} (hr : r ≤ sto.length) (hb : sto[b]? = some (mbox m)) (hbr : b < r) : Tri Tryz.prog 71 r [.gptr b 0, .agg (rowDr d), encOs os, .list .imm xs] sto (fun x k => isTb (alongK m d os l) x ∧ k = sto) := by
  subst hx
  exact (c_audit_along_1 m hm d os ho l hl).boxRO (nr_mcs m) rfl (by show (nrBL 0 (rowDr d) && nrBL 0 (encOs os :: [.list .imm (l.map rowS)])) = true; rw [nrBL_O (nrBL_S rfl)]; rfl) (fun d h => isTb_ok h) hr hb hbr
noncomputable def sU1 (m : Mp) (ds : List Drv) (os : List Ord) (p : Pln) (sz : Nat) (out : List Tb) (i : Nat) : DS := ⟨[(0, .gptr 0 0), (1, encDs ds), (2, encOs os), (3, encP p), (8, .list (.own 0) []), (9, .list (.own sz) (out.map rowTb)), (26, encP p), (27, .int .i64 (p.length : Int)), (28, .int .i64 (i : Int))], [], [mbox m], mR 1⟩
noncomputable def sU2 (m : Mp) (os : List Ord) (p : Pln) (sz : Nat) (out : List Tb) (i : Nat) : DS := ⟨[(3, encP p), (8, .list (.own 0) []), (9, .list (.own sz) (out.map rowTb)), (56, encOs os), (57, .int .i64 (os.length : Int)), (58, .int .i64 (i : Int))], [], [mbox m], mR 1⟩
set_option maxHeartbeats 16000000 in
theorem c_audit_Audit_0 (m : Mp) (hm : okMp m) (ds : List Drv) (os : List Ord) (p : Pln) : Tri Tryz.prog 30 1 [.gptr 0 0, encDs ds, encOs os, encP p] [mbox m] (fun x k => isTb (audK m ds os p) x ∧ k = [mbox m]) := by
  refine Tri.walk2 (L := LT) (c := {n := 79, ko := [8, 9], xf := [41, 47, 71, 78]}) [] [0, 1, 2, 3, 8, 9, 11, 12, 13, 15, 17, 23, 26, 27, 28, 29, 40, 56, 57, 58, 59, 70] hLT hmix Tryz.func30 rfl rfl ⟨rfl, rfl⟩ (by show 4 ≤ 79; decide) (by first | exact Nat.zero_le _ | exact Nat.le_refl _ | exact Nat.le_succ 1 | decide) ?_
  unfold audK
  repeat (first | refine And.intro (fun _ => ?_) (fun h => Bool.noConfusion h) | refine And.intro (fun h => Bool.noConfusion h) (fun _ => ?_))
  refine ⟨rfl, (by first | exact Nat.zero_le _ | exact Nat.le_refl _ | exact Nat.le_succ 1 | decide), (c_cert_Together m hm ds os p (r := 1) (sto := [mbox m]) (Nat.le_refl 1) rfl (Nat.lt_succ_self 0)).mono ?_⟩
  rintro d l ⟨rfl, rfl⟩
  refine ⟨rfl, fun _ _ => rfl, rfl, ?_⟩
  cases h0 : decide (togO m ds os p) with
  | false =>
    rw [if_neg (of_decide_eq_false h0)]
    repeat (first | refine And.intro (fun _ => ?_) (fun h => Bool.noConfusion h) | refine And.intro (fun h => Bool.noConfusion h) (fun _ => ?_))
    exact And.intro ⟨3, .inr rfl, rfl⟩ rfl
  | true =>
  have h0 := of_decide_eq_true h0
  rw [if_pos h0]
  obtain ⟨hd8, ho, hpr, hde, _⟩ := h0
  obtain ⟨hp8, hst⟩ := rightP_st hpr
  have ho40 := ho.1
  repeat (first | refine And.intro (fun _ => ?_) (fun h => Bool.noConfusion h) | refine And.intro (fun h => Bool.noConfusion h) (fun _ => ?_))
  show Ok _ _ _ _ _
  refine Ok.loopN hLT hmix [] [0, 1, 2, 3, 8, 9, 11, 12, 13, 15, 17, 23, 26, 27, 28, 29, 40, 56, 57, 58, 59, 70] [0,1,2,3,8,9,26,27,28] [] (fun n s => ∃ (i : Nat) (sz : Nat) (out : List Tb), n = p.length - i ∧ i ≤ p.length ∧ (sz = 0 ∨ sz = 3) ∧ out.length ≤ 241 * i ∧ out = rtsK m ds os (p.take i) ∧ s = sU1 m ds os p sz out i) (n := p.length) ⟨0, 0, [], rfl, Nat.zero_le _, .inl rfl, Nat.le_refl _, rfl, by unfold sU1; rw [← List.length_map (f := rowR)]; rfl⟩ ?_
  rintro n s ⟨i, sz, out, rfl, hi, hsz, hol, hout, rfl⟩
  refine And.intro (fun h1 => ?_) (fun h1 => ?_)
  rotate_left
  · have h1 : ¬ ((i : Nat) : Int) < (p.length : Int) := of_decide_eq_false h1
    rw [List.take_of_length_le (by omega)] at hout
    have hol1 : out.length ≤ 2000 := by omega
    have hsz1 := hsz
    rw [← hout]
    repeat (first | refine And.intro (fun _ => ?_) (fun h => Bool.noConfusion h) | refine And.intro (fun h => Bool.noConfusion h) (fun _ => ?_))
    show Ok _ _ _ _ _
    refine Ok.loopN hLT hmix [] [0, 1, 2, 3, 8, 9, 11, 12, 13, 15, 17, 23, 26, 27, 28, 29, 40, 56, 57, 58, 59, 70] [3,8,9,56,57,58] [] (fun n s => ∃ (i : Nat) (sz : Nat) (out2 : List Tb), n = os.length - i ∧ i ≤ os.length ∧ (sz = 0 ∨ sz = 3) ∧ out2.length ≤ 2000 + i ∧ out2 = out ++ (os.take i).flatMap (misK p) ∧ s = sU2 m os p sz out2 i) (n := os.length) ⟨0, sz, out, rfl, Nat.zero_le _, hsz1, hol1, by simp, by unfold sU2; rw [← List.length_map (f := rowO)]; rfl⟩ ?_
    rintro n s ⟨i, sz, out2, rfl, hi, hsz, hol, ho2, rfl⟩
    refine And.intro (fun h1 => ?_) (fun h1 => ?_)
    rotate_left
    · have h1 : ¬ ((i : Nat) : Int) < (os.length : Int) := of_decide_eq_false h1
      rw [List.take_of_length_le (by omega)] at ho2
      repeat (first | refine And.intro (fun _ => ?_) (fun h => Bool.noConfusion h) | refine And.intro (fun h => Bool.noConfusion h) (fun _ => ?_))
      exact And.intro ⟨sz, hsz, by rw [ho2]⟩ rfl
    have h1 : ((i : Nat) : Int) < (os.length : Int) := of_decide_eq_true h1
    have hil : i < os.length := by omega
    have hw := wrap_succ (i := i) (n := os.length) hil (by omega)
    have hF := c_plan_Find p ⟨by omega, fun r hr => by have := hst r hr; omega⟩ os[i].id (r := 1) (sto := [mbox m]) (Nat.le_refl 1)
    have hsu := misK_succ p hil
    have hmi : misK p os[i] = if (findP os[i].id p).isSome = true then [] else [⟨0, os[i].id, 19⟩] := rfl
    generalize misK p os[i] = mi at hsu hmi
    unfold findD at hF
    refine ⟨(os).map rowO, rowO ((os)[i]'(by omega)), rfl, by omega, row_at' rowO (os) (by omega) (by omega), rfl, of_decide_eq_true rfl, ?_⟩
    generalize os[i] = o at hF hmi ⊢
    cases hf : findP o.id p with
    | some sp =>
      rw [hf] at hF hmi
      unfold encSpt at hF
      refine ⟨rfl, (by first | exact Nat.zero_le _ | exact Nat.le_refl _ | exact Nat.le_succ 1 | decide), (hF).mono ?_⟩
      rintro d l ⟨rfl, rfl⟩
      refine ⟨rfl, fun _ _ => rfl, rfl, ?_⟩
      repeat (first | refine And.intro (fun _ => ?_) (fun h => Bool.noConfusion h) | refine And.intro (fun h => Bool.noConfusion h) (fun _ => ?_))
      refine ⟨os.length - (i + 1), by omega, i + 1, sz, out2, rfl, by omega, hsz, by omega, ?_, ?_⟩
      · rw [hsu, ho2, hmi]; simp
      · unfold sU2
        rw [← hw]
        rfl
    | none =>
      rw [hf] at hF hmi
      unfold encSpt at hF
      refine ⟨rfl, (by first | exact Nat.zero_le _ | exact Nat.le_refl _ | exact Nat.le_succ 1 | decide), (hF).mono ?_⟩
      rintro d l ⟨rfl, rfl⟩
      refine ⟨rfl, fun _ _ => rfl, rfl, ?_⟩
      repeat (first | refine And.intro (fun _ => ?_) (fun h => Bool.noConfusion h) | refine And.intro (fun h => Bool.noConfusion h) (fun _ => ?_))
      refine And.intro trivial (And.intro (by rcases hsz with rfl | rfl <;> rfl) (And.intro (by show (_ + 1) * 24 ≤ 140737488355328; rw [List.length_map]; omega) (And.intro rfl ?_)))
      refine ⟨os.length - (i + 1), by omega, i + 1, 3, out2 ++ [⟨0, o.id, 19⟩], rfl, by omega, .inr rfl, by simp; omega, ?_, ?_⟩
      · rw [hsu, ho2, hmi]; simp
      · unfold sU2
        rw [← hw, List.map_append]
        rfl
  have h1 : ((i : Nat) : Int) < (p.length : Int) := of_decide_eq_true h1
  have hil : i < p.length := by omega
  have hw := wrap_succ (i := i) (n := p.length) hil (by omega)
  have hcl := c_cert_Driver ds (by omega) rfl p[i].drv (r := 1) (sto := [mbox m]) (Nat.le_refl 1)
  unfold drOfD at hcl
  have hrl := rtK_len m ds os p[i]
  have hrs := hst p[i] (List.getElem_mem _)
  have hsu := rtsK_succ m ds os hil
  rw [← hout] at hsu
  unfold rtK at hsu hrl
  refine ⟨(p).map rowR, rowR ((p)[i]'(by omega)), rfl, by omega, row_at' rowR (p) (by omega) (by omega), rfl, of_decide_eq_true rfl, ?_⟩
  generalize p[i] = r at hcl hrl hrs hsu ⊢
  cases hfd : findDr r.drv ds with
  | none =>
    rw [hfd] at hsu hrl
    rw [(drOf_none hfd).1, (drOf_none hfd).2] at hcl
    refine ⟨rfl, (by first | exact Nat.zero_le _ | exact Nat.le_refl _ | exact Nat.le_succ 1 | decide), (hcl).mono ?_⟩
    rintro d l ⟨rfl, rfl⟩
    refine ⟨rfl, fun _ _ => rfl, rfl, ?_⟩
    repeat (first | refine And.intro (fun _ => ?_) (fun h => Bool.noConfusion h) | refine And.intro (fun h => Bool.noConfusion h) (fun _ => ?_))
    refine And.intro trivial (And.intro (by rcases hsz with rfl | rfl <;> rfl) (And.intro (by show (_ + 1) * 24 ≤ 140737488355328; rw [List.length_map]; omega) (And.intro rfl ?_)))
    refine ⟨p.length - (i + 1), by omega, i + 1, 3, out ++ [⟨r.drv, 0, 8⟩], rfl, by omega, .inr rfl, by simp; omega, hsu.symm, ?_⟩
    unfold sU1
    rw [← hw, List.map_append]
    rfl
  | some d =>
    rw [hfd] at hsu hrl
    rw [(drOf_some hfd).1, (drOf_some hfd).2] at hcl
    have hA := c_audit_along m hm d os (by omega) r.st (by omega) rfl (r := 1) (sto := [mbox m]) (Nat.le_refl 1) rfl (Nat.lt_succ_self 0)
    replace hrl : (alongK m d os r.st).length ≤ 3 * r.st.length + 1 := hrl
    replace hsu : rtsK m ds os (p.take (i + 1)) = out ++ alongK m d os r.st := hsu
    generalize alongK m d os r.st = al at hA hrl hsu
    have hal : allLen 3 (al.map rowTb) = true := by simp [allLen, rowTb]
    refine ⟨rfl, (by first | exact Nat.zero_le _ | exact Nat.le_refl _ | exact Nat.le_succ 1 | decide), (hcl).mono ?_⟩
    rintro d l ⟨rfl, rfl⟩
    refine ⟨rfl, fun _ _ => rfl, rfl, ?_⟩
    repeat (first | refine And.intro (fun _ => ?_) (fun h => Bool.noConfusion h) | refine And.intro (fun h => Bool.noConfusion h) (fun _ => ?_))
    refine ⟨rfl, Nat.le_refl _, hA.mono ?_⟩
    rintro x k ⟨⟨sz2, hsz2, rfl⟩, rfl⟩
    refine ⟨rfl, fun _ _ => rfl, rfl, ?_⟩
    refine And.intro trivial (And.intro (by rcases hsz with rfl | rfl <;> rfl) (And.intro (by show (_ + _) * 24 ≤ 140737488355328; rw [List.length_map, List.length_map]; omega) (And.intro hal ?_)))
    refine ⟨p.length - (i + 1), by omega, i + 1, 3, out ++ al, rfl, by omega, .inr rfl, by rw [List.length_append]; omega, hsu.symm, ?_⟩
    unfold sU1
    rw [← hw, List.map_append]
    rfl
theorem c_audit_Audit (m : Mp) (hm : okMp m) (ds : List Drv) (os : List Ord) (p : Pln) {r b : Nat} {sto : List Ob} (hr : r ≤ sto.length) (hb : sto[b]? = some (mbox m)) (hbr : b < r) : Tri Tryz.prog 30 r [.gptr b 0, encDs ds, encOs os, encP p] sto (fun x k => isTb (audK m ds os p) x ∧ k = sto) :=
  (c_audit_Audit_0 m hm ds os p).boxRO (nr_mcs m) rfl (nrBL_Dr (nrBL_O (nrBL_P rfl))) (fun d h => isTb_ok h) hr hb hbr
end Go.Lv

namespace Go.Lv
open Go.Proofs

theorem idxA_mem {v : Stp} : ∀ {l : List Stp} {k : Nat}, (idxA v k l = -1 ∧ v ∉ l) ∨ ∃ i : Nat, idxA v k l = (i : Int) ∧ v ∈ l
  | [], k => .inl ⟨rfl, by simp⟩
  | x :: r, k => by
    unfold idxA
    split
    · rename_i e
      exact .inr ⟨k, rfl, by simp [e]⟩
    · rename_i e
      rcases idxA_mem (v := v) (l := r) (k := k + 1) with ⟨h1, h2⟩ | ⟨i, h1, h2⟩
      · exact .inl ⟨h1, by simp only [List.mem_cons, not_or]; exact ⟨fun q => e q.symm, h2⟩⟩
      · exact .inr ⟨i, h1, by simp [h2]⟩
theorem idxS_mem (v : Stp) (l : List Stp) : (idxS l v = -1 ∧ v ∉ l) ∨ ∃ i : Nat, idxS l v = (i : Int) ∧ v ∈ l := idxA_mem
theorem rm1 (out : List Tb) (h : out.length ≤ 90000) : ((out.map rowTb).length + 1) * 24 ≤ 140737488355328 := by rw [List.length_map]; omega
theorem rm2 (out : List Tb) (xs : List (List D)) (hx : xs.length ≤ 1) (h : out.length ≤ 90000) : ((out.map rowTb ++ xs).length + 1) * 24 ≤ 140737488355328 := by rw [List.length_append, List.length_map]; omega
noncomputable def sB1 (m : Mp) (os : List Ord) (l : List Stp) (d : Drv) (sz : Nat) (w : Wk) (i : Nat) : DS := ⟨[(0, .gptr 0 0), (2, encOs os), (3, .list .imm (l.map rowS)), (5, .lptr 5 0 0), (8, .list (.own 0) []), (9, .list (.own sz) (w.out.map rowTb)), (10, .int .i64 w.pos), (11, .int .i64 w.now), (12, .int .i64 w.load), (13, .int .i64 (i : Int))], [(5, rowDr d)], [mbox m], mR 1⟩
noncomputable def sB2 (m : Mp) (os : List Ord) (l : List Stp) (d : Drv) (sz : Nat) (out : List Tb) (i : Nat) : DS := ⟨[(2, encOs os), (3, .list .imm (l.map rowS)), (5, .lptr 5 0 0), (8, .list (.own 0) []), (9, .list (.own sz) (out.map rowTb)), (20, .int .i64 (i : Int))], [(5, rowDr d)], [mbox m], mR 1⟩
set_option maxHeartbeats 32000000 in
theorem c_drayref9_along_0 (m : Mp) (hm : okMp m) (d : Drv) (os : List Ord) (ho : os.length ≤ 1000000) (l : List Stp) (hl : l.length ≤ 1000) : Tri Tryz.prog 96 1 [.gptr 0 0, .agg (rowDr d), encOs os, .list .imm (l.map rowS)] [mbox m] (fun x k => isTb (alongK m d os l) x ∧ k = [mbox m]) := by
  refine Tri.walk2 (L := LT) (c := {n := 193, ko := [8, 9], xf := [43, 63, 91, 139, 184, 192]}) [] [0, 1, 2, 3, 5, 8, 9, 10, 11, 12, 13, 14, 15, 16, 17, 19, 20, 21, 30, 42, 62, 72, 90, 120, 138, 156, 183] hLT hmix Tryz.func96 rfl rfl ⟨rfl, rfl⟩ (by show 4 ≤ 193; decide) (by first | exact Nat.zero_le _ | exact Nat.le_refl _ | exact Nat.le_succ 1 | decide) ?_
  unfold alongK
  refine ⟨⟨255, [0, 1, 0, 4, 8, 3, 63, 127], [1, 3, 4, 12, 28, 35, 127, 255]⟩, by kernel_rfl, ?_⟩
  refine And.intro ?_ trivial
  refine And.intro (by repeat (first | exact trivial | refine And.intro ⟨rfl, rfl⟩ ?_)) ?_
  refine And.intro ?_ trivial
  refine And.intro (by repeat (first | exact trivial | refine And.intro ⟨rfl, rfl⟩ ?_)) ?_
  refine And.intro ?_ trivial
  refine And.intro (by repeat (first | exact trivial | refine And.intro ⟨rfl, rfl⟩ ?_)) ?_
  show Ok _ _ _ _ _
  refine Ok.loopN hLT hmix [] [0, 1, 2, 3, 5, 8, 9, 10, 11, 12, 13, 14, 15, 16, 17, 19, 20, 21, 30, 42, 62, 72, 90, 120, 138, 156, 183] [0,2,3,5,8,9,10,11,12,13] [5] (fun n s => ∃ (i : Nat) (sz : Nat) (w : Wk), n = l.length - i ∧ i ≤ l.length ∧ (sz = 0 ∨ sz = 3) ∧ w.out.length ≤ 2 * i ∧ goK m d os (l.take i) (l.drop i) w = goK m d os [] l (wk0 d) ∧ s = sB1 m os l d sz w i) (n := l.length) ⟨0, 0, wk0 d, rfl, Nat.zero_le _, .inl rfl, Nat.le_refl _, rfl, rfl⟩ ?_
  rintro n s ⟨i, sz, w, rfl, hi, hsz, hwl, hgo, rfl⟩
  generalize hG : goK m d os [] l (wk0 d) = G at hgo ⊢
  clear hG
  obtain ⟨now, pos, load, out⟩ := w
  replace hwl : out.length ≤ 2 * i := hwl
  refine And.intro (fun h1 => ?_) (fun h1 => ?_)
  rotate_left
  · have h1 : ¬ ((i : Nat) : Int) < ((l.map rowS).length : Int) := of_decide_eq_false h1
    rw [List.length_map] at h1
    rw [List.drop_eq_nil_of_le (by omega)] at hgo
    have hgo : (⟨now, pos, load, out⟩ : Wk) = G := hgo
    rw [← hgo]
    have hlw : out.length ≤ 2000 := by omega
    have hsz1 := hsz
    clear hwl
    show Ok _ _ _ _ _
    refine Ok.loopN hLT hmix [] [0, 1, 2, 3, 5, 8, 9, 10, 11, 12, 13, 14, 15, 16, 17, 19, 20, 21, 30, 42, 62, 72, 90, 120, 138, 156, 183] [2,3,5,8,9,20] [5] (fun n s => ∃ (i : Nat) (sz2 : Nat) (out2 : List Tb), n = l.length - i ∧ i ≤ l.length ∧ (sz2 = 0 ∨ sz2 = 3) ∧ out2.length ≤ 2000 + i ∧ out2 ++ lackK d os (l.drop i) = out ++ lackK d os l ∧ s = sB2 m os l d sz2 out2 i) (n := l.length) ⟨0, sz, out, rfl, Nat.zero_le _, hsz1, hlw, rfl, rfl⟩ ?_
    rintro n s ⟨i, sz, out2, rfl, hi, hsz, hwl, hgo, rfl⟩
    generalize hE : out ++ lackK d os l = E at hgo
    refine And.intro (fun h1 => ?_) (fun h1 => ?_)
    rotate_left
    · have h1 : ¬ ((i : Nat) : Int) < ((l.map rowS).length : Int) := of_decide_eq_false h1
      rw [List.length_map] at h1
      rw [List.drop_eq_nil_of_le (by omega)] at hgo
      have hgo : out2 ++ [] = E := hgo
      rw [List.append_nil] at hgo
      repeat (first | refine And.intro (fun _ => ?_) (fun h => Bool.noConfusion h) | refine And.intro (fun h => Bool.noConfusion h) (fun _ => ?_))
      exact And.intro ⟨sz, hsz, by rw [← hgo]⟩ rfl
    have h1 : ((i : Nat) : Int) < ((l.map rowS).length : Int) := of_decide_eq_true h1
    rw [List.length_map] at h1
    have hil : i < l.length := by omega
    have hw := wrap_succ (i := i) (n := l.length) hil (by omega)
    have hal : allLen 2 (l.map rowS) = true := by simp [allLen, rowS]
    have hF := c_drayref6_Find os (by omega) l[i].ord (r := 1) (sto := [mbox m]) (Nat.le_refl 1)
    rw [lackK_at hil, ← List.append_assoc] at hgo
    unfold lkK at hgo
    have hW := c_drayref9_where (l.drop (i + 1)) (by rw [List.length_drop]; omega) ⟨l[i].ord, true⟩ (r := 1) (sto := [mbox m]) (Nat.le_refl 1)
    rw [← drop_rowsS l (i + 1) hw] at hW
    have hmem := idxS_mem ⟨l[i].ord, true⟩ (l.drop (i + 1))
    refine ⟨(l).map rowS, rowS ((l)[i]'(by omega)), rfl, by omega, row_at' rowS (l) (by omega) (by omega), rfl, of_decide_eq_true rfl, ?_⟩
    generalize l[i] = s at hF hgo hW hmem ⊢
    obtain ⟨n, b⟩ := s
    generalize idxS (l.drop (i + 1)) ⟨n, true⟩ = q at hW hmem
    cases b with
    | true =>
      refine ⟨⟨2097151, [0, 1, 2, 4, 8, 8, 40, 88, 136, 264, 640, 1024, 1024, 5120, 11264, 1024, 33792, 66560, 148480, 263168, 525312], [1, 3, 7, 15, 31, 47, 111, 255, 511, 1023, 2047, 4095, 6143, 14335, 32767, 34815, 100351, 231423, 524287, 1048575, 2097151]⟩, by kernel_rfl, ?_⟩
      repeat (first | refine And.intro (fun _ => ?_) (fun h => Bool.noConfusion h) | refine And.intro (fun h => Bool.noConfusion h) (fun _ => ?_))
      refine ⟨l.length - (i + 1), by omega, i + 1, sz, out2, rfl, by omega, hsz, by omega, by rw [← hgo]; simp, ?_⟩
      unfold sB2
      rw [← hw]
      rfl
    | false =>
    rcases idxO_find n os with ⟨hfo, hix⟩ | ⟨j, hj, hix, hfo⟩
    · rw [hix] at hF
      rw [hfo] at hgo
      refine ⟨⟨2097151, [0, 1, 2, 4, 8, 8, 40, 88, 136, 264, 640, 1024, 1024, 5120, 11264, 1024, 33792, 66560, 148480, 263168, 525312], [1, 3, 7, 15, 31, 47, 111, 255, 511, 1023, 2047, 4095, 6143, 14335, 32767, 34815, 100351, 231423, 524287, 1048575, 2097151]⟩, by kernel_rfl, ?_⟩
      repeat (first | refine And.intro (fun _ => ?_) (fun h => Bool.noConfusion h) | refine And.intro (fun h => Bool.noConfusion h) (fun _ => ?_))
      refine And.intro ?_ trivial
      refine ⟨rfl, (by first | exact Nat.zero_le _ | exact Nat.le_refl _ | exact Nat.le_succ 1 | decide), (hF).mono ?_⟩
      rintro d l ⟨rfl, rfl⟩
      refine ⟨rfl, fun _ _ => rfl, rfl, ?_⟩
      refine And.intro (by repeat (first | exact trivial | refine And.intro ⟨rfl, rfl⟩ ?_)) ?_
      repeat (first | refine And.intro (fun _ => ?_) (fun h => Bool.noConfusion h) | refine And.intro (fun h => Bool.noConfusion h) (fun _ => ?_))
      refine ⟨l.length - (i + 1), by omega, i + 1, sz, out2, rfl, by omega, hsz, by omega, by rw [← hgo]; simp, ?_⟩
      unfold sB2
      rw [← hw]
      rfl
    rw [hix] at hF
    rw [hfo] at hgo
    refine ⟨⟨2097151, [0, 1, 2, 4, 8, 8, 40, 88, 136, 264, 640, 1024, 1024, 5120, 11264, 1024, 33792, 66560, 148480, 263168, 525312], [1, 3, 7, 15, 31, 47, 111, 255, 511, 1023, 2047, 4095, 6143, 14335, 32767, 34815, 100351, 231423, 524287, 1048575, 2097151]⟩, by kernel_rfl, ?_⟩
    repeat (first | refine And.intro (fun _ => ?_) (fun h => Bool.noConfusion h) | refine And.intro (fun h => Bool.noConfusion h) (fun _ => ?_))
    refine And.intro ?_ trivial
    refine ⟨rfl, (by first | exact Nat.zero_le _ | exact Nat.le_refl _ | exact Nat.le_succ 1 | decide), (hF).mono ?_⟩
    rintro d l ⟨rfl, rfl⟩
    refine ⟨rfl, fun _ _ => rfl, rfl, ?_⟩
    refine And.intro (by repeat (first | exact trivial | refine And.intro ⟨rfl, rfl⟩ ?_)) ?_
    refine And.intro (fun _ => ?_) (fun h2 => absurd (of_decide_eq_false h2) (by omega))
    repeat (first | refine And.intro (fun _ => ?_) (fun h => Bool.noConfusion h) | refine And.intro (fun h => Bool.noConfusion h) (fun _ => ?_))
    refine And.intro (Nat.le_refl _) (And.intro ⟨by omega, by (try rw [List.length_map]); omega⟩ (And.intro (of_decide_eq_true rfl) (And.intro (by assumption) (And.intro rfl ?_))))
    refine And.intro ?_ trivial
    refine ⟨rfl, (by first | exact Nat.zero_le _ | exact Nat.le_refl _ | exact Nat.le_succ 1 | decide), (hW).mono ?_⟩
    rintro d l ⟨rfl, rfl⟩
    refine ⟨rfl, fun _ _ => rfl, rfl, ?_⟩
    rcases hmem with ⟨rfl, h3⟩ | ⟨k, rfl, h3⟩
    · refine And.intro (by repeat (first | exact trivial | refine And.intro ⟨rfl, rfl⟩ ?_ | refine And.intro (And.intro (Nat.le_refl _) (And.intro ⟨by omega, by (try rw [List.length_map]); omega⟩ (And.intro (of_decide_eq_true rfl) (And.intro (by assumption) (And.intro rfl (And.intro rfl rfl)))))) ?_)) ?_
      repeat (first | refine And.intro (fun _ => ?_) (fun h => Bool.noConfusion h) | refine And.intro (fun h => Bool.noConfusion h) (fun _ => ?_))
      refine And.intro trivial (And.intro (by rcases hsz with rfl | rfl <;> rfl) (And.intro (rm1 out2 (by omega)) (And.intro rfl ?_)))
      refine ⟨l.length - (i + 1), by omega, i + 1, 3, out2 ++ [⟨d.id, n, 18⟩], rfl, by omega, .inr rfl, by simp; omega, ?_, ?_⟩
      · rw [if_pos ⟨rfl, rfl, h3⟩] at hgo
        exact hgo
      · unfold sB2
        rw [← hw, List.map_append]
        rfl
    · refine And.intro (by repeat (first | exact trivial | refine And.intro ⟨rfl, rfl⟩ ?_ | refine And.intro (And.intro (Nat.le_refl _) (And.intro ⟨by omega, by (try rw [List.length_map]); omega⟩ (And.intro (of_decide_eq_true rfl) (And.intro (by assumption) (And.intro rfl (And.intro rfl rfl)))))) ?_)) ?_
      refine And.intro (fun h7 => absurd (of_decide_eq_true h7) (by omega)) (fun _ => ?_)
      repeat (first | refine And.intro (fun _ => ?_) (fun h => Bool.noConfusion h) | refine And.intro (fun h => Bool.noConfusion h) (fun _ => ?_))
      refine ⟨l.length - (i + 1), by omega, i + 1, sz, out2, rfl, by omega, hsz, by omega, by rw [← hgo]; simp [h3], ?_⟩
      unfold sB2
      rw [← hw]
      rfl
  have h1 : ((i : Nat) : Int) < ((l.map rowS).length : Int) := of_decide_eq_true h1
  rw [List.length_map] at h1
  have hil : i < l.length := by omega
  have hw := wrap_succ (i := i) (n := l.length) hil (by omega)
  have hal : allLen 2 (l.map rowS) = true := by simp [allLen, rowS]
  have hF := c_drayref6_Find os (by omega) l[i].ord (r := 1) (sto := [mbox m]) (Nat.le_refl 1)
  rw [goK_at hil] at hgo
  unfold stepK at hgo
  have hW := c_drayref9_where (l.take i) (by rw [List.length_take]; omega) ⟨l[i].ord, false⟩ (r := 1) (sto := [mbox m]) (Nat.le_refl 1)
  rw [← take_rowsK l i rfl] at hW
  have hmem := idxS_mem ⟨l[i].ord, false⟩ (l.take i)
  refine ⟨(l).map rowS, rowS ((l)[i]'(by omega)), rfl, by omega, row_at' rowS (l) (by omega) (by omega), rfl, of_decide_eq_true rfl, ?_⟩
  generalize l[i] = s at hF hgo hW hmem ⊢
  obtain ⟨n, b⟩ := s
  generalize idxS (l.take i) ⟨n, false⟩ = q at hW hmem
  rcases idxO_find n os with ⟨hfo, hix⟩ | ⟨j, hj, hix, hfo⟩
  · rw [hix] at hF
    rw [hfo] at hgo
    refine ⟨rfl, (by first | exact Nat.zero_le _ | exact Nat.le_refl _ | exact Nat.le_succ 1 | decide), (hF).mono ?_⟩
    rintro d l ⟨rfl, rfl⟩
    refine ⟨rfl, fun _ _ => rfl, rfl, ?_⟩
    repeat (first | refine And.intro (fun _ => ?_) (fun h => Bool.noConfusion h) | refine And.intro (fun h => Bool.noConfusion h) (fun _ => ?_))
    refine And.intro trivial (And.intro (by rcases hsz with rfl | rfl <;> rfl) (And.intro (rm1 out (by omega)) (And.intro rfl ?_)))
    refine ⟨l.length - (i + 1), by omega, i + 1, 3, ⟨now, pos, load, out ++ [⟨d.id, n, 8⟩]⟩, rfl, by omega, .inr rfl, by simp; omega, hgo, ?_⟩
    unfold sB1
    rw [← hw, List.map_append]
    rfl
  rw [hix] at hF
  rw [hfo] at hgo
  have hrow : (os.map rowO)[((j : Nat) : Int).toNat]? = some (rowO os[j]) := row_at _ hj
  generalize os[j] = o at hgo hrow
  have hS := c_drayref6_Site o ⟨n, b⟩ (r := 1) (sto := [mbox m]) (Nat.le_refl 1)
  replace hgo : goK m d os (l.take (i + 1)) (l.drop (i + 1)) (stopK m d (l.take i) ⟨n, b⟩ o ⟨now, pos, load, out⟩) = G := hgo
  unfold stopK bgK at hgo
  replace hS : Tri Tryz.prog 154 1 [.agg (rowO o), .agg (rowS ⟨n, b⟩)] [mbox m] (fun d k => d = .agg (rowSi (siteO o b)) ∧ k = [mbox m]) := hS
  replace hgo : goK m d os (l.take (i + 1)) (l.drop (i + 1)) ⟨IntKind.i64.wrap (max (IntKind.i64.wrap (now + timeM m pos (siteO o b).place)) (siteO o b).w.lo + (siteO o b).serv), (siteO o b).place, ldK (l.take i) ⟨n, b⟩ o load, (out ++ t1K d (l.take i) ⟨n, b⟩ o load) ++ t2K d ⟨n, b⟩ (max (IntKind.i64.wrap (now + timeM m pos (siteO o b).place)) (siteO o b).w.lo) (siteO o b)⟩ = G := hgo
  generalize siteO o b = si at hS hgo
  have hT := c_drayref4_Time m hm pos si.place (r := 1) (b1 := 0) (sto := [mbox m]) (Nat.le_refl 1) rfl (Nat.lt_succ_self 0)
  unfold timeD at hT
  generalize timeM m pos si.place = tm at hT hgo
  generalize inM m pos si.place = ib at hT
  have hst : ∀ ld l1 l2 bg, ld = ldK (l.take i) ⟨n, b⟩ o load → l1 = t1K d (l.take i) ⟨n, b⟩ o load → max (IntKind.i64.wrap (now + tm)) si.w.lo = bg → l2 = t2K d ⟨n, b⟩ bg si → goK m d os (l.take (i + 1)) (l.drop (i + 1)) ⟨IntKind.i64.wrap (bg + si.serv), si.place, ld, (out ++ l1) ++ l2⟩ = G := by
    rintro _ _ _ _ rfl rfl rfl rfl
    exact hgo
  clear hgo
  have hnj : ¬ ((j : Nat) : Int) < 0 := by omega
  refine ⟨rfl, (by first | exact Nat.zero_le _ | exact Nat.le_refl _ | exact Nat.le_succ 1 | decide), (hF).mono ?_⟩
  rintro d l ⟨rfl, rfl⟩
  refine ⟨rfl, fun _ _ => rfl, rfl, ?_⟩
  refine And.intro (fun h2 => ?_) (fun h2 => ?_)
  · exact absurd (of_decide_eq_true h2) hnj
  clear h2
  cases b with
  | true =>
    refine ⟨⟨4095, [0, 1, 2, 4, 4, 28, 4, 68, 132, 292, 516, 1028], [1, 3, 7, 15, 23, 63, 71, 199, 455, 1023, 2047, 4095]⟩, by kernel_rfl, ?_⟩
    repeat (first | refine And.intro (fun _ => ?_) (fun h => Bool.noConfusion h) | refine And.intro (fun h => Bool.noConfusion h) (fun _ => ?_))
    refine And.intro ⟨by omega, by (try rw [List.length_map]); omega⟩ (And.intro (Nat.zero_le _) (And.intro (of_decide_eq_true rfl) (And.intro (by assumption) (And.intro rfl ?_))))
    refine And.intro ?_ trivial
    refine ⟨rfl, (by first | exact Nat.zero_le _ | exact Nat.le_refl _ | exact Nat.le_succ 1 | decide), (hW).mono ?_⟩
    rintro d l ⟨rfl, rfl⟩
    refine ⟨rfl, fun _ _ => rfl, rfl, ?_⟩
    rcases hmem with ⟨rfl, h3⟩ | ⟨k, rfl, h3⟩
    · refine And.intro (by repeat (first | exact trivial | refine And.intro ⟨rfl, rfl⟩ ?_ | refine And.intro (And.intro ⟨by omega, by (try rw [List.length_map]); omega⟩ (And.intro (Nat.zero_le _) (And.intro (of_decide_eq_true rfl) (And.intro (by assumption) (And.intro rfl (And.intro rfl rfl)))))) ?_ | refine And.intro ⟨_, _, rfl, by omega, row_at' _ _ rfl (by omega), rfl, of_decide_eq_true rfl, And.intro rfl (And.intro rfl rfl)⟩ ?_)) ?_
      repeat (first | refine And.intro (fun _ => ?_) (fun h => Bool.noConfusion h) | refine And.intro (fun h => Bool.noConfusion h) (fun _ => ?_))
      refine And.intro trivial (And.intro (by rcases hsz with rfl | rfl <;> rfl) (And.intro (rm1 out (by omega)) (And.intro rfl ?_)))
      refine ⟨⟨127, [0, 0, 3, 4, 0, 24, 0, 127], [1, 2, 7, 15, 16, 63, 64, 255]⟩, by kernel_rfl, ?_⟩
      refine ⟨_, _, rfl, by omega, hrow, rfl, of_decide_eq_true rfl, ?_⟩
      refine And.intro rfl ?_
      refine (fun (hrest : _) => And.intro (by
          refine ⟨rfl, (by first | exact Nat.zero_le _ | exact Nat.le_refl _ | exact Nat.le_succ 1 | decide), (hS).mono ?_⟩
          rintro d l ⟨rfl, rfl⟩
          refine ⟨rfl, fun _ _ => rfl, rfl, ?_⟩
          refine And.intro (by repeat (first | exact trivial | refine And.intro ⟨rfl, rfl⟩ ?_ | refine And.intro ⟨_, _, rfl, by omega, (by assumption), rfl, of_decide_eq_true rfl, And.intro rfl (And.intro rfl rfl)⟩ ?_)) ?_
          refine And.intro ?_ trivial
          refine And.intro (by repeat (first | exact trivial | refine And.intro ⟨rfl, rfl⟩ ?_ | refine And.intro ⟨_, _, rfl, by omega, (by assumption), rfl, of_decide_eq_true rfl, And.intro rfl (And.intro rfl rfl)⟩ ?_)) ?_
          refine And.intro ?_ trivial
          refine And.intro (by repeat (first | exact trivial | refine And.intro ⟨rfl, rfl⟩ ?_ | refine And.intro ⟨_, _, rfl, by omega, (by assumption), rfl, of_decide_eq_true rfl, And.intro rfl (And.intro rfl rfl)⟩ ?_)) ?_
          exact hrest) (And.intro (by
          refine And.intro (by repeat (first | exact trivial | refine And.intro ⟨rfl, rfl⟩ ?_ | refine And.intro ⟨_, _, rfl, by omega, (by assumption), rfl, of_decide_eq_true rfl, And.intro rfl (And.intro rfl rfl)⟩ ?_)) ?_
          refine And.intro ?_ trivial
          refine ⟨rfl, (by first | exact Nat.zero_le _ | exact Nat.le_refl _ | exact Nat.le_succ 1 | decide), (hS).mono ?_⟩
          rintro d l ⟨rfl, rfl⟩
          refine ⟨rfl, fun _ _ => rfl, rfl, ?_⟩
          refine And.intro (by repeat (first | exact trivial | refine And.intro ⟨rfl, rfl⟩ ?_ | refine And.intro ⟨_, _, rfl, by omega, (by assumption), rfl, of_decide_eq_true rfl, And.intro rfl (And.intro rfl rfl)⟩ ?_)) ?_
          refine And.intro ?_ trivial
          refine And.intro (by repeat (first | exact trivial | refine And.intro ⟨rfl, rfl⟩ ?_ | refine And.intro ⟨_, _, rfl, by omega, (by assumption), rfl, of_decide_eq_true rfl, And.intro rfl (And.intro rfl rfl)⟩ ?_)) ?_
          exact hrest) trivial)) ?_
      refine ⟨rfl, (by first | exact Nat.zero_le _ | exact Nat.le_refl _ | exact Nat.le_succ 1 | decide), (hT).mono ?_⟩
      rintro d l ⟨rfl, rfl⟩
      refine ⟨rfl, fun _ _ => rfl, rfl, ?_⟩
      generalize hb0 : IntKind.i64.wrap (now + tm) = b0 at hst
      refine And.intro (fun h4 => ?_) (fun h4 => ?_)
      · replace h4 : IntKind.i64.wrap (now + tm) < si.w.lo := of_decide_eq_true h4
        rw [hb0] at h4
        refine And.intro (fun h5 => ?_) (fun h5 => ?_)
        · have h5 : si.w.lo > si.w.hi := of_decide_eq_true h5
          repeat (first | refine And.intro (fun _ => ?_) (fun h => Bool.noConfusion h) | refine And.intro (fun h => Bool.noConfusion h) (fun _ => ?_))
          refine And.intro trivial (And.intro rfl (And.intro (rm2 out _ (Nat.le_refl 1) (by omega)) (And.intro rfl ?_)))
          refine ⟨⟨255, [0, 1, 0, 0, 8, 20, 3, 127], [1, 3, 4, 8, 24, 60, 67, 255]⟩, by kernel_rfl, ?_⟩
          refine And.intro ?_ trivial
          refine And.intro (by repeat (first | exact trivial | refine And.intro ⟨rfl, rfl⟩ ?_)) ?_
          refine And.intro ?_ trivial
          refine And.intro (by repeat (first | exact trivial | refine And.intro ⟨rfl, rfl⟩ ?_)) ?_
          refine ⟨l.length - (i + 1), by omega, i + 1, 3, ⟨IntKind.i64.wrap (si.w.lo + si.serv), si.place, load, out ++ [⟨d.id, n, 17⟩] ++ [⟨d.id, n, 15⟩]⟩, rfl, by omega, .inr rfl, by simp; omega, by simpa using hst load [⟨d.id, n, 17⟩] [⟨d.id, n, 15⟩] si.w.lo (by simp [ldK, h3, h5]) (by simp [t1K, h3, h5]) (by exact Int.max_eq_right (by omega)) (by simp [t2K, h3, h5]), ?_⟩
          unfold sB1
          rw [← hw]
          simp only [List.map_append]
          rfl
        · have h5 : ¬ si.w.lo > si.w.hi := of_decide_eq_false h5
          refine And.intro (fun h6 => ?_) (fun h6 => ?_)
          · have h6 : IntKind.i64.wrap (si.w.lo + si.serv) > d.w.hi := of_decide_eq_true h6
            repeat (first | refine And.intro (fun _ => ?_) (fun h => Bool.noConfusion h) | refine And.intro (fun h => Bool.noConfusion h) (fun _ => ?_))
            refine And.intro trivial (And.intro rfl (And.intro (rm2 out _ (Nat.le_refl 1) (by omega)) (And.intro rfl ?_)))
            refine ⟨⟨255, [0, 1, 0, 0, 8, 20, 3, 127], [1, 3, 4, 8, 24, 60, 67, 255]⟩, by kernel_rfl, ?_⟩
            refine And.intro ?_ trivial
            refine And.intro (by repeat (first | exact trivial | refine And.intro ⟨rfl, rfl⟩ ?_)) ?_
            refine And.intro ?_ trivial
            refine And.intro (by repeat (first | exact trivial | refine And.intro ⟨rfl, rfl⟩ ?_)) ?_
            refine ⟨l.length - (i + 1), by omega, i + 1, 3, ⟨IntKind.i64.wrap (si.w.lo + si.serv), si.place, load, out ++ [⟨d.id, n, 17⟩] ++ [⟨d.id, n, 15⟩]⟩, rfl, by omega, .inr rfl, by simp; omega, by simpa using hst load [⟨d.id, n, 17⟩] [⟨d.id, n, 15⟩] si.w.lo (by simp [ldK, h3, h5, h6]) (by simp [t1K, h3, h5, h6]) (by exact Int.max_eq_right (by omega)) (by simp [t2K, h3, h5, h6]), ?_⟩
            unfold sB1
            rw [← hw]
            simp only [List.map_append]
            rfl
          · have h6 : ¬ IntKind.i64.wrap (si.w.lo + si.serv) > d.w.hi := of_decide_eq_false h6
            repeat (first | refine And.intro (fun _ => ?_) (fun h => Bool.noConfusion h) | refine And.intro (fun h => Bool.noConfusion h) (fun _ => ?_))
            refine ⟨⟨255, [0, 1, 0, 0, 8, 20, 3, 127], [1, 3, 4, 8, 24, 60, 67, 255]⟩, by kernel_rfl, ?_⟩
            refine And.intro ?_ trivial
            refine And.intro (by repeat (first | exact trivial | refine And.intro ⟨rfl, rfl⟩ ?_)) ?_
            refine And.intro ?_ trivial
            refine And.intro (by repeat (first | exact trivial | refine And.intro ⟨rfl, rfl⟩ ?_)) ?_
            refine ⟨l.length - (i + 1), by omega, i + 1, 3, ⟨IntKind.i64.wrap (si.w.lo + si.serv), si.place, load, out ++ [⟨d.id, n, 17⟩]⟩, rfl, by omega, .inr rfl, by simp; omega, by simpa using hst load [⟨d.id, n, 17⟩] [] si.w.lo (by simp [ldK, h3, h5, h6]) (by simp [t1K, h3, h5, h6]) (by exact Int.max_eq_right (by omega)) (by simp [t2K, h3, h5, h6]), ?_⟩
            unfold sB1
            rw [← hw]
            simp only [List.map_append]
            rfl
      · replace h4 : ¬ IntKind.i64.wrap (now + tm) < si.w.lo := of_decide_eq_false h4
        rw [hb0] at h4
        subst hb0
        refine And.intro (fun h5 => ?_) (fun h5 => ?_)
        · have h5 : (IntKind.i64.wrap (now + tm)) > si.w.hi := of_decide_eq_true h5
          repeat (first | refine And.intro (fun _ => ?_) (fun h => Bool.noConfusion h) | refine And.intro (fun h => Bool.noConfusion h) (fun _ => ?_))
          refine And.intro trivial (And.intro rfl (And.intro (rm2 out _ (Nat.le_refl 1) (by omega)) (And.intro rfl ?_)))
          refine ⟨⟨255, [0, 1, 0, 0, 8, 20, 3, 127], [1, 3, 4, 8, 24, 60, 67, 255]⟩, by kernel_rfl, ?_⟩
          refine And.intro ?_ trivial
          refine And.intro (by repeat (first | exact trivial | refine And.intro ⟨rfl, rfl⟩ ?_)) ?_
          refine And.intro ?_ trivial
          refine And.intro (by repeat (first | exact trivial | refine And.intro ⟨rfl, rfl⟩ ?_)) ?_
          refine ⟨l.length - (i + 1), by omega, i + 1, 3, ⟨IntKind.i64.wrap ((IntKind.i64.wrap (now + tm)) + si.serv), si.place, load, out ++ [⟨d.id, n, 17⟩] ++ [⟨d.id, n, 15⟩]⟩, rfl, by omega, .inr rfl, by simp; omega, by simpa using hst load [⟨d.id, n, 17⟩] [⟨d.id, n, 15⟩] (IntKind.i64.wrap (now + tm)) (by simp [ldK, h3, h5]) (by simp [t1K, h3, h5]) (by exact Int.max_eq_left (by omega)) (by simp [t2K, h3, h5]), ?_⟩
          unfold sB1
          rw [← hw]
          simp only [List.map_append]
          rfl
        · have h5 : ¬ (IntKind.i64.wrap (now + tm)) > si.w.hi := of_decide_eq_false h5
          refine And.intro (fun h6 => ?_) (fun h6 => ?_)
          · have h6 : IntKind.i64.wrap ((IntKind.i64.wrap (now + tm)) + si.serv) > d.w.hi := of_decide_eq_true h6
            repeat (first | refine And.intro (fun _ => ?_) (fun h => Bool.noConfusion h) | refine And.intro (fun h => Bool.noConfusion h) (fun _ => ?_))
            refine And.intro trivial (And.intro rfl (And.intro (rm2 out _ (Nat.le_refl 1) (by omega)) (And.intro rfl ?_)))
            refine ⟨⟨255, [0, 1, 0, 0, 8, 20, 3, 127], [1, 3, 4, 8, 24, 60, 67, 255]⟩, by kernel_rfl, ?_⟩
            refine And.intro ?_ trivial
            refine And.intro (by repeat (first | exact trivial | refine And.intro ⟨rfl, rfl⟩ ?_)) ?_
            refine And.intro ?_ trivial
            refine And.intro (by repeat (first | exact trivial | refine And.intro ⟨rfl, rfl⟩ ?_)) ?_
            refine ⟨l.length - (i + 1), by omega, i + 1, 3, ⟨IntKind.i64.wrap ((IntKind.i64.wrap (now + tm)) + si.serv), si.place, load, out ++ [⟨d.id, n, 17⟩] ++ [⟨d.id, n, 15⟩]⟩, rfl, by omega, .inr rfl, by simp; omega, by simpa using hst load [⟨d.id, n, 17⟩] [⟨d.id, n, 15⟩] (IntKind.i64.wrap (now + tm)) (by simp [ldK, h3, h5, h6]) (by simp [t1K, h3, h5, h6]) (by exact Int.max_eq_left (by omega)) (by simp [t2K, h3, h5, h6]), ?_⟩
            unfold sB1
            rw [← hw]
            simp only [List.map_append]
            rfl
          · have h6 : ¬ IntKind.i64.wrap ((IntKind.i64.wrap (now + tm)) + si.serv) > d.w.hi := of_decide_eq_false h6
            repeat (first | refine And.intro (fun _ => ?_) (fun h => Bool.noConfusion h) | refine And.intro (fun h => Bool.noConfusion h) (fun _ => ?_))
            refine ⟨⟨255, [0, 1, 0, 0, 8, 20, 3, 127], [1, 3, 4, 8, 24, 60, 67, 255]⟩, by kernel_rfl, ?_⟩
            refine And.intro ?_ trivial
            refine And.intro (by repeat (first | exact trivial | refine And.intro ⟨rfl, rfl⟩ ?_)) ?_
            refine And.intro ?_ trivial
            refine And.intro (by repeat (first | exact trivial | refine And.intro ⟨rfl, rfl⟩ ?_)) ?_
            refine ⟨l.length - (i + 1), by omega, i + 1, 3, ⟨IntKind.i64.wrap ((IntKind.i64.wrap (now + tm)) + si.serv), si.place, load, out ++ [⟨d.id, n, 17⟩]⟩, rfl, by omega, .inr rfl, by simp; omega, by simpa using hst load [⟨d.id, n, 17⟩] [] (IntKind.i64.wrap (now + tm)) (by simp [ldK, h3, h5, h6]) (by simp [t1K, h3, h5, h6]) (by exact Int.max_eq_left (by omega)) (by simp [t2K, h3, h5, h6]), ?_⟩
            unfold sB1
            rw [← hw]
            simp only [List.map_append]
            rfl
    · refine And.intro (by repeat (first | exact trivial | refine And.intro ⟨rfl, rfl⟩ ?_ | refine And.intro (And.intro ⟨by omega, by (try rw [List.length_map]); omega⟩ (And.intro (Nat.zero_le _) (And.intro (of_decide_eq_true rfl) (And.intro (by assumption) (And.intro rfl (And.intro rfl rfl)))))) ?_ | refine And.intro ⟨_, _, rfl, by omega, row_at' _ _ rfl (by omega), rfl, of_decide_eq_true rfl, And.intro rfl (And.intro rfl rfl)⟩ ?_)) ?_
      refine And.intro (fun h7 => absurd (of_decide_eq_true h7) (by omega)) (fun h7 => ?_)
      clear h7
      repeat (first | refine And.intro (fun _ => ?_) (fun h => Bool.noConfusion h) | refine And.intro (fun h => Bool.noConfusion h) (fun _ => ?_))
      refine ⟨_, _, rfl, by omega, hrow, rfl, of_decide_eq_true rfl, ?_⟩
      refine ⟨⟨127, [0, 0, 3, 4, 0, 24, 0, 127], [1, 2, 7, 15, 16, 63, 64, 255]⟩, by kernel_rfl, ?_⟩
      refine ⟨_, _, rfl, by omega, hrow, rfl, of_decide_eq_true rfl, ?_⟩
      refine And.intro rfl ?_
      refine (fun (hrest : _) => And.intro (by
          refine ⟨rfl, (by first | exact Nat.zero_le _ | exact Nat.le_refl _ | exact Nat.le_succ 1 | decide), (hS).mono ?_⟩
          rintro d l ⟨rfl, rfl⟩
          refine ⟨rfl, fun _ _ => rfl, rfl, ?_⟩
          refine And.intro (by repeat (first | exact trivial | refine And.intro ⟨rfl, rfl⟩ ?_ | refine And.intro ⟨_, _, rfl, by omega, (by assumption), rfl, of_decide_eq_true rfl, And.intro rfl (And.intro rfl rfl)⟩ ?_)) ?_
          refine And.intro ?_ trivial
          refine And.intro (by repeat (first | exact trivial | refine And.intro ⟨rfl, rfl⟩ ?_ | refine And.intro ⟨_, _, rfl, by omega, (by assumption), rfl, of_decide_eq_true rfl, And.intro rfl (And.intro rfl rfl)⟩ ?_)) ?_
          refine And.intro ?_ trivial
          refine And.intro (by repeat (first | exact trivial | refine And.intro ⟨rfl, rfl⟩ ?_ | refine And.intro ⟨_, _, rfl, by omega, (by assumption), rfl, of_decide_eq_true rfl, And.intro rfl (And.intro rfl rfl)⟩ ?_)) ?_
          exact hrest) (And.intro (by
          refine And.intro (by repeat (first | exact trivial | refine And.intro ⟨rfl, rfl⟩ ?_ | refine And.intro ⟨_, _, rfl, by omega, (by assumption), rfl, of_decide_eq_true rfl, And.intro rfl (And.intro rfl rfl)⟩ ?_)) ?_
          refine And.intro ?_ trivial
          refine ⟨rfl, (by first | exact Nat.zero_le _ | exact Nat.le_refl _ | exact Nat.le_succ 1 | decide), (hS).mono ?_⟩
          rintro d l ⟨rfl, rfl⟩
          refine ⟨rfl, fun _ _ => rfl, rfl, ?_⟩
          refine And.intro (by repeat (first | exact trivial | refine And.intro ⟨rfl, rfl⟩ ?_ | refine And.intro ⟨_, _, rfl, by omega, (by assumption), rfl, of_decide_eq_true rfl, And.intro rfl (And.intro rfl rfl)⟩ ?_)) ?_
          refine And.intro ?_ trivial
          refine And.intro (by repeat (first | exact trivial | refine And.intro ⟨rfl, rfl⟩ ?_ | refine And.intro ⟨_, _, rfl, by omega, (by assumption), rfl, of_decide_eq_true rfl, And.intro rfl (And.intro rfl rfl)⟩ ?_)) ?_
          exact hrest) trivial)) ?_
      refine ⟨rfl, (by first | exact Nat.zero_le _ | exact Nat.le_refl _ | exact Nat.le_succ 1 | decide), (hT).mono ?_⟩
      rintro d l ⟨rfl, rfl⟩
      refine ⟨rfl, fun _ _ => rfl, rfl, ?_⟩
      generalize hb0 : IntKind.i64.wrap (now + tm) = b0 at hst
      refine And.intro (fun h4 => ?_) (fun h4 => ?_)
      · replace h4 : IntKind.i64.wrap (now + tm) < si.w.lo := of_decide_eq_true h4
        rw [hb0] at h4
        refine And.intro (fun h5 => ?_) (fun h5 => ?_)
        · have h5 : si.w.lo > si.w.hi := of_decide_eq_true h5
          repeat (first | refine And.intro (fun _ => ?_) (fun h => Bool.noConfusion h) | refine And.intro (fun h => Bool.noConfusion h) (fun _ => ?_))
          refine And.intro trivial (And.intro (by rcases hsz with rfl | rfl <;> rfl) (And.intro (rm1 out (by omega)) (And.intro rfl ?_)))
          refine ⟨⟨255, [0, 1, 0, 0, 8, 20, 3, 127], [1, 3, 4, 8, 24, 60, 67, 255]⟩, by kernel_rfl, ?_⟩
          refine And.intro ?_ trivial
          refine And.intro (by repeat (first | exact trivial | refine And.intro ⟨rfl, rfl⟩ ?_)) ?_
          refine And.intro ?_ trivial
          refine And.intro (by repeat (first | exact trivial | refine And.intro ⟨rfl, rfl⟩ ?_)) ?_
          refine ⟨l.length - (i + 1), by omega, i + 1, 3, ⟨IntKind.i64.wrap (si.w.lo + si.serv), si.place, (IntKind.i64.wrap (load - o.size)), out ++ [⟨d.id, n, 15⟩]⟩, rfl, by omega, .inr rfl, by simp; omega, by simpa using hst (IntKind.i64.wrap (load - o.size)) [] [⟨d.id, n, 15⟩] si.w.lo (by simp [ldK, h3, h5]) (by simp [t1K, h3, h5]) (by exact Int.max_eq_right (by omega)) (by simp [t2K, h3, h5]), ?_⟩
          unfold sB1
          rw [← hw]
          simp only [List.map_append]
          rfl
        · have h5 : ¬ si.w.lo > si.w.hi := of_decide_eq_false h5
          refine And.intro (fun h6 => ?_) (fun h6 => ?_)
          · have h6 : IntKind.i64.wrap (si.w.lo + si.serv) > d.w.hi := of_decide_eq_true h6
            repeat (first | refine And.intro (fun _ => ?_) (fun h => Bool.noConfusion h) | refine And.intro (fun h => Bool.noConfusion h) (fun _ => ?_))
            refine And.intro trivial (And.intro (by rcases hsz with rfl | rfl <;> rfl) (And.intro (rm1 out (by omega)) (And.intro rfl ?_)))
            refine ⟨⟨255, [0, 1, 0, 0, 8, 20, 3, 127], [1, 3, 4, 8, 24, 60, 67, 255]⟩, by kernel_rfl, ?_⟩
            refine And.intro ?_ trivial
            refine And.intro (by repeat (first | exact trivial | refine And.intro ⟨rfl, rfl⟩ ?_)) ?_
            refine And.intro ?_ trivial
            refine And.intro (by repeat (first | exact trivial | refine And.intro ⟨rfl, rfl⟩ ?_)) ?_
            refine ⟨l.length - (i + 1), by omega, i + 1, 3, ⟨IntKind.i64.wrap (si.w.lo + si.serv), si.place, (IntKind.i64.wrap (load - o.size)), out ++ [⟨d.id, n, 15⟩]⟩, rfl, by omega, .inr rfl, by simp; omega, by simpa using hst (IntKind.i64.wrap (load - o.size)) [] [⟨d.id, n, 15⟩] si.w.lo (by simp [ldK, h3, h5, h6]) (by simp [t1K, h3, h5, h6]) (by exact Int.max_eq_right (by omega)) (by simp [t2K, h3, h5, h6]), ?_⟩
            unfold sB1
            rw [← hw]
            simp only [List.map_append]
            rfl
          · have h6 : ¬ IntKind.i64.wrap (si.w.lo + si.serv) > d.w.hi := of_decide_eq_false h6
            repeat (first | refine And.intro (fun _ => ?_) (fun h => Bool.noConfusion h) | refine And.intro (fun h => Bool.noConfusion h) (fun _ => ?_))
            refine ⟨⟨255, [0, 1, 0, 0, 8, 20, 3, 127], [1, 3, 4, 8, 24, 60, 67, 255]⟩, by kernel_rfl, ?_⟩
            refine And.intro ?_ trivial
            refine And.intro (by repeat (first | exact trivial | refine And.intro ⟨rfl, rfl⟩ ?_)) ?_
            refine And.intro ?_ trivial
            refine And.intro (by repeat (first | exact trivial | refine And.intro ⟨rfl, rfl⟩ ?_)) ?_
            refine ⟨l.length - (i + 1), by omega, i + 1, sz, ⟨IntKind.i64.wrap (si.w.lo + si.serv), si.place, (IntKind.i64.wrap (load - o.size)), out⟩, rfl, by omega, hsz, by simp; omega, by simpa using hst (IntKind.i64.wrap (load - o.size)) [] [] si.w.lo (by simp [ldK, h3, h5, h6]) (by simp [t1K, h3, h5, h6]) (by exact Int.max_eq_right (by omega)) (by simp [t2K, h3, h5, h6]), ?_⟩
            unfold sB1
            rw [← hw]
            skip
            rfl
      · replace h4 : ¬ IntKind.i64.wrap (now + tm) < si.w.lo := of_decide_eq_false h4
        rw [hb0] at h4
        subst hb0
        refine And.intro (fun h5 => ?_) (fun h5 => ?_)
        · have h5 : (IntKind.i64.wrap (now + tm)) > si.w.hi := of_decide_eq_true h5
          repeat (first | refine And.intro (fun _ => ?_) (fun h => Bool.noConfusion h) | refine And.intro (fun h => Bool.noConfusion h) (fun _ => ?_))
          refine And.intro trivial (And.intro (by rcases hsz with rfl | rfl <;> rfl) (And.intro (rm1 out (by omega)) (And.intro rfl ?_)))
          refine ⟨⟨255, [0, 1, 0, 0, 8, 20, 3, 127], [1, 3, 4, 8, 24, 60, 67, 255]⟩, by kernel_rfl, ?_⟩
          refine And.intro ?_ trivial
          refine And.intro (by repeat (first | exact trivial | refine And.intro ⟨rfl, rfl⟩ ?_)) ?_
          refine And.intro ?_ trivial
          refine And.intro (by repeat (first | exact trivial | refine And.intro ⟨rfl, rfl⟩ ?_)) ?_
          refine ⟨l.length - (i + 1), by omega, i + 1, 3, ⟨IntKind.i64.wrap ((IntKind.i64.wrap (now + tm)) + si.serv), si.place, (IntKind.i64.wrap (load - o.size)), out ++ [⟨d.id, n, 15⟩]⟩, rfl, by omega, .inr rfl, by simp; omega, by simpa using hst (IntKind.i64.wrap (load - o.size)) [] [⟨d.id, n, 15⟩] (IntKind.i64.wrap (now + tm)) (by simp [ldK, h3, h5]) (by simp [t1K, h3, h5]) (by exact Int.max_eq_left (by omega)) (by simp [t2K, h3, h5]), ?_⟩
          unfold sB1
          rw [← hw]
          simp only [List.map_append]
          rfl
        · have h5 : ¬ (IntKind.i64.wrap (now + tm)) > si.w.hi := of_decide_eq_false h5
          refine And.intro (fun h6 => ?_) (fun h6 => ?_)
          · have h6 : IntKind.i64.wrap ((IntKind.i64.wrap (now + tm)) + si.serv) > d.w.hi := of_decide_eq_true h6
            repeat (first | refine And.intro (fun _ => ?_) (fun h => Bool.noConfusion h) | refine And.intro (fun h => Bool.noConfusion h) (fun _ => ?_))
            refine And.intro trivial (And.intro (by rcases hsz with rfl | rfl <;> rfl) (And.intro (rm1 out (by omega)) (And.intro rfl ?_)))
            refine ⟨⟨255, [0, 1, 0, 0, 8, 20, 3, 127], [1, 3, 4, 8, 24, 60, 67, 255]⟩, by kernel_rfl, ?_⟩
            refine And.intro ?_ trivial
            refine And.intro (by repeat (first | exact trivial | refine And.intro ⟨rfl, rfl⟩ ?_)) ?_
            refine And.intro ?_ trivial
            refine And.intro (by repeat (first | exact trivial | refine And.intro ⟨rfl, rfl⟩ ?_)) ?_
            refine ⟨l.length - (i + 1), by omega, i + 1, 3, ⟨IntKind.i64.wrap ((IntKind.i64.wrap (now + tm)) + si.serv), si.place, (IntKind.i64.wrap (load - o.size)), out ++ [⟨d.id, n, 15⟩]⟩, rfl, by omega, .inr rfl, by simp; omega, by simpa using hst (IntKind.i64.wrap (load - o.size)) [] [⟨d.id, n, 15⟩] (IntKind.i64.wrap (now + tm)) (by simp [ldK, h3, h5, h6]) (by simp [t1K, h3, h5, h6]) (by exact Int.max_eq_left (by omega)) (by simp [t2K, h3, h5, h6]), ?_⟩
            unfold sB1
            rw [← hw]
            simp only [List.map_append]
            rfl
          · have h6 : ¬ IntKind.i64.wrap ((IntKind.i64.wrap (now + tm)) + si.serv) > d.w.hi := of_decide_eq_false h6
            repeat (first | refine And.intro (fun _ => ?_) (fun h => Bool.noConfusion h) | refine And.intro (fun h => Bool.noConfusion h) (fun _ => ?_))
            refine ⟨⟨255, [0, 1, 0, 0, 8, 20, 3, 127], [1, 3, 4, 8, 24, 60, 67, 255]⟩, by kernel_rfl, ?_⟩
            refine And.intro ?_ trivial
            refine And.intro (by repeat (first | exact trivial | refine And.intro ⟨rfl, rfl⟩ ?_)) ?_
            refine And.intro ?_ trivial
            refine And.intro (by repeat (first | exact trivial | refine And.intro ⟨rfl, rfl⟩ ?_)) ?_
            refine ⟨l.length - (i + 1), by omega, i + 1, sz, ⟨IntKind.i64.wrap ((IntKind.i64.wrap (now + tm)) + si.serv), si.place, (IntKind.i64.wrap (load - o.size)), out⟩, rfl, by omega, hsz, by simp; omega, by simpa using hst (IntKind.i64.wrap (load - o.size)) [] [] (IntKind.i64.wrap (now + tm)) (by simp [ldK, h3, h5, h6]) (by simp [t1K, h3, h5, h6]) (by exact Int.max_eq_left (by omega)) (by simp [t2K, h3, h5, h6]), ?_⟩
            unfold sB1
            rw [← hw]
            skip
            rfl
  | false =>
    refine ⟨⟨4095, [0, 1, 2, 4, 4, 28, 4, 68, 132, 292, 516, 1028], [1, 3, 7, 15, 23, 63, 71, 199, 455, 1023, 2047, 4095]⟩, by kernel_rfl, ?_⟩
    repeat (first | refine And.intro (fun _ => ?_) (fun h => Bool.noConfusion h) | refine And.intro (fun h => Bool.noConfusion h) (fun _ => ?_))
    refine ⟨_, _, rfl, by omega, hrow, rfl, of_decide_eq_true rfl, ?_⟩
    refine And.intro (fun h3 => ?_) (fun h3 => ?_)
    · replace h3 : IntKind.i64.wrap (load + o.size) > d.room := of_decide_eq_true h3
      refine And.intro trivial (And.intro (by rcases hsz with rfl | rfl <;> rfl) (And.intro (rm1 out (by omega)) (And.intro rfl ?_)))
      refine ⟨⟨127, [0, 0, 3, 4, 0, 24, 0, 127], [1, 2, 7, 15, 16, 63, 64, 255]⟩, by kernel_rfl, ?_⟩
      refine ⟨_, _, rfl, by omega, hrow, rfl, of_decide_eq_true rfl, ?_⟩
      refine And.intro rfl ?_
      refine (fun (hrest : _) => And.intro (by
          refine ⟨rfl, (by first | exact Nat.zero_le _ | exact Nat.le_refl _ | exact Nat.le_succ 1 | decide), (hS).mono ?_⟩
          rintro d l ⟨rfl, rfl⟩
          refine ⟨rfl, fun _ _ => rfl, rfl, ?_⟩
          refine And.intro (by repeat (first | exact trivial | refine And.intro ⟨rfl, rfl⟩ ?_ | refine And.intro ⟨_, _, rfl, by omega, (by assumption), rfl, of_decide_eq_true rfl, And.intro rfl (And.intro rfl rfl)⟩ ?_)) ?_
          refine And.intro ?_ trivial
          refine And.intro (by repeat (first | exact trivial | refine And.intro ⟨rfl, rfl⟩ ?_ | refine And.intro ⟨_, _, rfl, by omega, (by assumption), rfl, of_decide_eq_true rfl, And.intro rfl (And.intro rfl rfl)⟩ ?_)) ?_
          refine And.intro ?_ trivial
          refine And.intro (by repeat (first | exact trivial | refine And.intro ⟨rfl, rfl⟩ ?_ | refine And.intro ⟨_, _, rfl, by omega, (by assumption), rfl, of_decide_eq_true rfl, And.intro rfl (And.intro rfl rfl)⟩ ?_)) ?_
          exact hrest) (And.intro (by
          refine And.intro (by repeat (first | exact trivial | refine And.intro ⟨rfl, rfl⟩ ?_ | refine And.intro ⟨_, _, rfl, by omega, (by assumption), rfl, of_decide_eq_true rfl, And.intro rfl (And.intro rfl rfl)⟩ ?_)) ?_
          refine And.intro ?_ trivial
          refine ⟨rfl, (by first | exact Nat.zero_le _ | exact Nat.le_refl _ | exact Nat.le_succ 1 | decide), (hS).mono ?_⟩
          rintro d l ⟨rfl, rfl⟩
          refine ⟨rfl, fun _ _ => rfl, rfl, ?_⟩
          refine And.intro (by repeat (first | exact trivial | refine And.intro ⟨rfl, rfl⟩ ?_ | refine And.intro ⟨_, _, rfl, by omega, (by assumption), rfl, of_decide_eq_true rfl, And.intro rfl (And.intro rfl rfl)⟩ ?_)) ?_
          refine And.intro ?_ trivial
          refine And.intro (by repeat (first | exact trivial | refine And.intro ⟨rfl, rfl⟩ ?_ | refine And.intro ⟨_, _, rfl, by omega, (by assumption), rfl, of_decide_eq_true rfl, And.intro rfl (And.intro rfl rfl)⟩ ?_)) ?_
          exact hrest) trivial)) ?_
      refine ⟨rfl, (by first | exact Nat.zero_le _ | exact Nat.le_refl _ | exact Nat.le_succ 1 | decide), (hT).mono ?_⟩
      rintro d l ⟨rfl, rfl⟩
      refine ⟨rfl, fun _ _ => rfl, rfl, ?_⟩
      generalize hb0 : IntKind.i64.wrap (now + tm) = b0 at hst
      refine And.intro (fun h4 => ?_) (fun h4 => ?_)
      · replace h4 : IntKind.i64.wrap (now + tm) < si.w.lo := of_decide_eq_true h4
        rw [hb0] at h4
        refine And.intro (fun h5 => ?_) (fun h5 => ?_)
        · have h5 : si.w.lo > si.w.hi := of_decide_eq_true h5
          repeat (first | refine And.intro (fun _ => ?_) (fun h => Bool.noConfusion h) | refine And.intro (fun h => Bool.noConfusion h) (fun _ => ?_))
          refine And.intro trivial (And.intro rfl (And.intro (rm2 out _ (Nat.le_refl 1) (by omega)) (And.intro rfl ?_)))
          refine ⟨⟨255, [0, 1, 0, 0, 8, 20, 3, 127], [1, 3, 4, 8, 24, 60, 67, 255]⟩, by kernel_rfl, ?_⟩
          refine And.intro ?_ trivial
          refine And.intro (by repeat (first | exact trivial | refine And.intro ⟨rfl, rfl⟩ ?_)) ?_
          refine And.intro ?_ trivial
          refine And.intro (by repeat (first | exact trivial | refine And.intro ⟨rfl, rfl⟩ ?_)) ?_
          refine ⟨l.length - (i + 1), by omega, i + 1, 3, ⟨IntKind.i64.wrap (si.w.lo + si.serv), si.place, (IntKind.i64.wrap (load + o.size)), out ++ [⟨d.id, n, 14⟩] ++ [⟨d.id, n, 15⟩]⟩, rfl, by omega, .inr rfl, by simp; omega, by simpa using hst (IntKind.i64.wrap (load + o.size)) [⟨d.id, n, 14⟩] [⟨d.id, n, 15⟩] si.w.lo (by simp [ldK, h3, h5]) (by simp [t1K, h3, h5]) (by exact Int.max_eq_right (by omega)) (by simp [t2K, h3, h5]), ?_⟩
          unfold sB1
          rw [← hw]
          simp only [List.map_append]
          rfl
        · have h5 : ¬ si.w.lo > si.w.hi := of_decide_eq_false h5
          refine And.intro (fun h6 => ?_) (fun h6 => ?_)
          · have h6 : IntKind.i64.wrap (si.w.lo + si.serv) > d.w.hi := of_decide_eq_true h6
            repeat (first | refine And.intro (fun _ => ?_) (fun h => Bool.noConfusion h) | refine And.intro (fun h => Bool.noConfusion h) (fun _ => ?_))
            refine And.intro trivial (And.intro rfl (And.intro (rm2 out _ (Nat.le_refl 1) (by omega)) (And.intro rfl ?_)))
            refine ⟨⟨255, [0, 1, 0, 0, 8, 20, 3, 127], [1, 3, 4, 8, 24, 60, 67, 255]⟩, by kernel_rfl, ?_⟩
            refine And.intro ?_ trivial
            refine And.intro (by repeat (first | exact trivial | refine And.intro ⟨rfl, rfl⟩ ?_)) ?_
            refine And.intro ?_ trivial
            refine And.intro (by repeat (first | exact trivial | refine And.intro ⟨rfl, rfl⟩ ?_)) ?_
            refine ⟨l.length - (i + 1), by omega, i + 1, 3, ⟨IntKind.i64.wrap (si.w.lo + si.serv), si.place, (IntKind.i64.wrap (load + o.size)), out ++ [⟨d.id, n, 14⟩] ++ [⟨d.id, n, 15⟩]⟩, rfl, by omega, .inr rfl, by simp; omega, by simpa using hst (IntKind.i64.wrap (load + o.size)) [⟨d.id, n, 14⟩] [⟨d.id, n, 15⟩] si.w.lo (by simp [ldK, h3, h5, h6]) (by simp [t1K, h3, h5, h6]) (by exact Int.max_eq_right (by omega)) (by simp [t2K, h3, h5, h6]), ?_⟩
            unfold sB1
            rw [← hw]
            simp only [List.map_append]
            rfl
          · have h6 : ¬ IntKind.i64.wrap (si.w.lo + si.serv) > d.w.hi := of_decide_eq_false h6
            repeat (first | refine And.intro (fun _ => ?_) (fun h => Bool.noConfusion h) | refine And.intro (fun h => Bool.noConfusion h) (fun _ => ?_))
            refine ⟨⟨255, [0, 1, 0, 0, 8, 20, 3, 127], [1, 3, 4, 8, 24, 60, 67, 255]⟩, by kernel_rfl, ?_⟩
            refine And.intro ?_ trivial
            refine And.intro (by repeat (first | exact trivial | refine And.intro ⟨rfl, rfl⟩ ?_)) ?_
            refine And.intro ?_ trivial
            refine And.intro (by repeat (first | exact trivial | refine And.intro ⟨rfl, rfl⟩ ?_)) ?_
            refine ⟨l.length - (i + 1), by omega, i + 1, 3, ⟨IntKind.i64.wrap (si.w.lo + si.serv), si.place, (IntKind.i64.wrap (load + o.size)), out ++ [⟨d.id, n, 14⟩]⟩, rfl, by omega, .inr rfl, by simp; omega, by simpa using hst (IntKind.i64.wrap (load + o.size)) [⟨d.id, n, 14⟩] [] si.w.lo (by simp [ldK, h3, h5, h6]) (by simp [t1K, h3, h5, h6]) (by exact Int.max_eq_right (by omega)) (by simp [t2K, h3, h5, h6]), ?_⟩
            unfold sB1
            rw [← hw]
            simp only [List.map_append]
            rfl
      · replace h4 : ¬ IntKind.i64.wrap (now + tm) < si.w.lo := of_decide_eq_false h4
        rw [hb0] at h4
        subst hb0
        refine And.intro (fun h5 => ?_) (fun h5 => ?_)
        · have h5 : (IntKind.i64.wrap (now + tm)) > si.w.hi := of_decide_eq_true h5
          repeat (first | refine And.intro (fun _ => ?_) (fun h => Bool.noConfusion h) | refine And.intro (fun h => Bool.noConfusion h) (fun _ => ?_))
          refine And.intro trivial (And.intro rfl (And.intro (rm2 out _ (Nat.le_refl 1) (by omega)) (And.intro rfl ?_)))
          refine ⟨⟨255, [0, 1, 0, 0, 8, 20, 3, 127], [1, 3, 4, 8, 24, 60, 67, 255]⟩, by kernel_rfl, ?_⟩
          refine And.intro ?_ trivial
          refine And.intro (by repeat (first | exact trivial | refine And.intro ⟨rfl, rfl⟩ ?_)) ?_
          refine And.intro ?_ trivial
          refine And.intro (by repeat (first | exact trivial | refine And.intro ⟨rfl, rfl⟩ ?_)) ?_
          refine ⟨l.length - (i + 1), by omega, i + 1, 3, ⟨IntKind.i64.wrap ((IntKind.i64.wrap (now + tm)) + si.serv), si.place, (IntKind.i64.wrap (load + o.size)), out ++ [⟨d.id, n, 14⟩] ++ [⟨d.id, n, 15⟩]⟩, rfl, by omega, .inr rfl, by simp; omega, by simpa using hst (IntKind.i64.wrap (load + o.size)) [⟨d.id, n, 14⟩] [⟨d.id, n, 15⟩] (IntKind.i64.wrap (now + tm)) (by simp [ldK, h3, h5]) (by simp [t1K, h3, h5]) (by exact Int.max_eq_left (by omega)) (by simp [t2K, h3, h5]), ?_⟩
          unfold sB1
          rw [← hw]
          simp only [List.map_append]
          rfl
        · have h5 : ¬ (IntKind.i64.wrap (now + tm)) > si.w.hi := of_decide_eq_false h5
          refine And.intro (fun h6 => ?_) (fun h6 => ?_)
          · have h6 : IntKind.i64.wrap ((IntKind.i64.wrap (now + tm)) + si.serv) > d.w.hi := of_decide_eq_true h6
            repeat (first | refine And.intro (fun _ => ?_) (fun h => Bool.noConfusion h) | refine And.intro (fun h => Bool.noConfusion h) (fun _ => ?_))
            refine And.intro trivial (And.intro rfl (And.intro (rm2 out _ (Nat.le_refl 1) (by omega)) (And.intro rfl ?_)))
            refine ⟨⟨255, [0, 1, 0, 0, 8, 20, 3, 127], [1, 3, 4, 8, 24, 60, 67, 255]⟩, by kernel_rfl, ?_⟩
            refine And.intro ?_ trivial
            refine And.intro (by repeat (first | exact trivial | refine And.intro ⟨rfl, rfl⟩ ?_)) ?_
            refine And.intro ?_ trivial
            refine And.intro (by repeat (first | exact trivial | refine And.intro ⟨rfl, rfl⟩ ?_)) ?_
            refine ⟨l.length - (i + 1), by omega, i + 1, 3, ⟨IntKind.i64.wrap ((IntKind.i64.wrap (now + tm)) + si.serv), si.place, (IntKind.i64.wrap (load + o.size)), out ++ [⟨d.id, n, 14⟩] ++ [⟨d.id, n, 15⟩]⟩, rfl, by omega, .inr rfl, by simp; omega, by simpa using hst (IntKind.i64.wrap (load + o.size)) [⟨d.id, n, 14⟩] [⟨d.id, n, 15⟩] (IntKind.i64.wrap (now + tm)) (by simp [ldK, h3, h5, h6]) (by simp [t1K, h3, h5, h6]) (by exact Int.max_eq_left (by omega)) (by simp [t2K, h3, h5, h6]), ?_⟩
            unfold sB1
            rw [← hw]
            simp only [List.map_append]
            rfl
          · have h6 : ¬ IntKind.i64.wrap ((IntKind.i64.wrap (now + tm)) + si.serv) > d.w.hi := of_decide_eq_false h6
            repeat (first | refine And.intro (fun _ => ?_) (fun h => Bool.noConfusion h) | refine And.intro (fun h => Bool.noConfusion h) (fun _ => ?_))
            refine ⟨⟨255, [0, 1, 0, 0, 8, 20, 3, 127], [1, 3, 4, 8, 24, 60, 67, 255]⟩, by kernel_rfl, ?_⟩
            refine And.intro ?_ trivial
            refine And.intro (by repeat (first | exact trivial | refine And.intro ⟨rfl, rfl⟩ ?_)) ?_
            refine And.intro ?_ trivial
            refine And.intro (by repeat (first | exact trivial | refine And.intro ⟨rfl, rfl⟩ ?_)) ?_
            refine ⟨l.length - (i + 1), by omega, i + 1, 3, ⟨IntKind.i64.wrap ((IntKind.i64.wrap (now + tm)) + si.serv), si.place, (IntKind.i64.wrap (load + o.size)), out ++ [⟨d.id, n, 14⟩]⟩, rfl, by omega, .inr rfl, by simp; omega, by simpa using hst (IntKind.i64.wrap (load + o.size)) [⟨d.id, n, 14⟩] [] (IntKind.i64.wrap (now + tm)) (by simp [ldK, h3, h5, h6]) (by simp [t1K, h3, h5, h6]) (by exact Int.max_eq_left (by omega)) (by simp [t2K, h3, h5, h6]), ?_⟩
            unfold sB1
            rw [← hw]
            simp only [List.map_append]
            rfl
    · replace h3 : ¬ IntKind.i64.wrap (load + o.size) > d.room := of_decide_eq_false h3
      refine ⟨⟨127, [0, 0, 3, 4, 0, 24, 0, 127], [1, 2, 7, 15, 16, 63, 64, 255]⟩, by kernel_rfl, ?_⟩
      refine ⟨_, _, rfl, by omega, hrow, rfl, of_decide_eq_true rfl, ?_⟩
      refine And.intro rfl ?_
      refine (fun (hrest : _) => And.intro (by
          refine ⟨rfl, (by first | exact Nat.zero_le _ | exact Nat.le_refl _ | exact Nat.le_succ 1 | decide), (hS).mono ?_⟩
          rintro d l ⟨rfl, rfl⟩
          refine ⟨rfl, fun _ _ => rfl, rfl, ?_⟩
          refine And.intro (by repeat (first | exact trivial | refine And.intro ⟨rfl, rfl⟩ ?_ | refine And.intro ⟨_, _, rfl, by omega, (by assumption), rfl, of_decide_eq_true rfl, And.intro rfl (And.intro rfl rfl)⟩ ?_)) ?_
          refine And.intro ?_ trivial
          refine And.intro (by repeat (first | exact trivial | refine And.intro ⟨rfl, rfl⟩ ?_ | refine And.intro ⟨_, _, rfl, by omega, (by assumption), rfl, of_decide_eq_true rfl, And.intro rfl (And.intro rfl rfl)⟩ ?_)) ?_
          refine And.intro ?_ trivial
          refine And.intro (by repeat (first | exact trivial | refine And.intro ⟨rfl, rfl⟩ ?_ | refine And.intro ⟨_, _, rfl, by omega, (by assumption), rfl, of_decide_eq_true rfl, And.intro rfl (And.intro rfl rfl)⟩ ?_)) ?_
          exact hrest) (And.intro (by
          refine And.intro (by repeat (first | exact trivial | refine And.intro ⟨rfl, rfl⟩ ?_ | refine And.intro ⟨_, _, rfl, by omega, (by assumption), rfl, of_decide_eq_true rfl, And.intro rfl (And.intro rfl rfl)⟩ ?_)) ?_
          refine And.intro ?_ trivial
          refine ⟨rfl, (by first | exact Nat.zero_le _ | exact Nat.le_refl _ | exact Nat.le_succ 1 | decide), (hS).mono ?_⟩
          rintro d l ⟨rfl, rfl⟩
          refine ⟨rfl, fun _ _ => rfl, rfl, ?_⟩
          refine And.intro (by repeat (first | exact trivial | refine And.intro ⟨rfl, rfl⟩ ?_ | refine And.intro ⟨_, _, rfl, by omega, (by assumption), rfl, of_decide_eq_true rfl, And.intro rfl (And.intro rfl rfl)⟩ ?_)) ?_
          refine And.intro ?_ trivial
          refine And.intro (by repeat (first | exact trivial | refine And.intro ⟨rfl, rfl⟩ ?_ | refine And.intro ⟨_, _, rfl, by omega, (by assumption), rfl, of_decide_eq_true rfl, And.intro rfl (And.intro rfl rfl)⟩ ?_)) ?_
          exact hrest) trivial)) ?_
      refine ⟨rfl, (by first | exact Nat.zero_le _ | exact Nat.le_refl _ | exact Nat.le_succ 1 | decide), (hT).mono ?_⟩
      rintro d l ⟨rfl, rfl⟩
      refine ⟨rfl, fun _ _ => rfl, rfl, ?_⟩
      generalize hb0 : IntKind.i64.wrap (now + tm) = b0 at hst
      refine And.intro (fun h4 => ?_) (fun h4 => ?_)
      · replace h4 : IntKind.i64.wrap (now + tm) < si.w.lo := of_decide_eq_true h4
        rw [hb0] at h4
        refine And.intro (fun h5 => ?_) (fun h5 => ?_)
        · have h5 : si.w.lo > si.w.hi := of_decide_eq_true h5
          repeat (first | refine And.intro (fun _ => ?_) (fun h => Bool.noConfusion h) | refine And.intro (fun h => Bool.noConfusion h) (fun _ => ?_))
          refine And.intro trivial (And.intro (by rcases hsz with rfl | rfl <;> rfl) (And.intro (rm1 out (by omega)) (And.intro rfl ?_)))
          refine ⟨⟨255, [0, 1, 0, 0, 8, 20, 3, 127], [1, 3, 4, 8, 24, 60, 67, 255]⟩, by kernel_rfl, ?_⟩
          refine And.intro ?_ trivial
          refine And.intro (by repeat (first | exact trivial | refine And.intro ⟨rfl, rfl⟩ ?_)) ?_
          refine And.intro ?_ trivial
          refine And.intro (by repeat (first | exact trivial | refine And.intro ⟨rfl, rfl⟩ ?_)) ?_
          refine ⟨l.length - (i + 1), by omega, i + 1, 3, ⟨IntKind.i64.wrap (si.w.lo + si.serv), si.place, (IntKind.i64.wrap (load + o.size)), out ++ [⟨d.id, n, 15⟩]⟩, rfl, by omega, .inr rfl, by simp; omega, by simpa using hst (IntKind.i64.wrap (load + o.size)) [] [⟨d.id, n, 15⟩] si.w.lo (by simp [ldK, h3, h5]) (by simp [t1K, h3, h5]) (by exact Int.max_eq_right (by omega)) (by simp [t2K, h3, h5]), ?_⟩
          unfold sB1
          rw [← hw]
          simp only [List.map_append]
          rfl
        · have h5 : ¬ si.w.lo > si.w.hi := of_decide_eq_false h5
          refine And.intro (fun h6 => ?_) (fun h6 => ?_)
          · have h6 : IntKind.i64.wrap (si.w.lo + si.serv) > d.w.hi := of_decide_eq_true h6
            repeat (first | refine And.intro (fun _ => ?_) (fun h => Bool.noConfusion h) | refine And.intro (fun h => Bool.noConfusion h) (fun _ => ?_))
            refine And.intro trivial (And.intro (by rcases hsz with rfl | rfl <;> rfl) (And.intro (rm1 out (by omega)) (And.intro rfl ?_)))
            refine ⟨⟨255, [0, 1, 0, 0, 8, 20, 3, 127], [1, 3, 4, 8, 24, 60, 67, 255]⟩, by kernel_rfl, ?_⟩
            refine And.intro ?_ trivial
            refine And.intro (by repeat (first | exact trivial | refine And.intro ⟨rfl, rfl⟩ ?_)) ?_
            refine And.intro ?_ trivial
            refine And.intro (by repeat (first | exact trivial | refine And.intro ⟨rfl, rfl⟩ ?_)) ?_
            refine ⟨l.length - (i + 1), by omega, i + 1, 3, ⟨IntKind.i64.wrap (si.w.lo + si.serv), si.place, (IntKind.i64.wrap (load + o.size)), out ++ [⟨d.id, n, 15⟩]⟩, rfl, by omega, .inr rfl, by simp; omega, by simpa using hst (IntKind.i64.wrap (load + o.size)) [] [⟨d.id, n, 15⟩] si.w.lo (by simp [ldK, h3, h5, h6]) (by simp [t1K, h3, h5, h6]) (by exact Int.max_eq_right (by omega)) (by simp [t2K, h3, h5, h6]), ?_⟩
            unfold sB1
            rw [← hw]
            simp only [List.map_append]
            rfl
          · have h6 : ¬ IntKind.i64.wrap (si.w.lo + si.serv) > d.w.hi := of_decide_eq_false h6
            repeat (first | refine And.intro (fun _ => ?_) (fun h => Bool.noConfusion h) | refine And.intro (fun h => Bool.noConfusion h) (fun _ => ?_))
            refine ⟨⟨255, [0, 1, 0, 0, 8, 20, 3, 127], [1, 3, 4, 8, 24, 60, 67, 255]⟩, by kernel_rfl, ?_⟩
            refine And.intro ?_ trivial
            refine And.intro (by repeat (first | exact trivial | refine And.intro ⟨rfl, rfl⟩ ?_)) ?_
            refine And.intro ?_ trivial
            refine And.intro (by repeat (first | exact trivial | refine And.intro ⟨rfl, rfl⟩ ?_)) ?_
            refine ⟨l.length - (i + 1), by omega, i + 1, sz, ⟨IntKind.i64.wrap (si.w.lo + si.serv), si.place, (IntKind.i64.wrap (load + o.size)), out⟩, rfl, by omega, hsz, by simp; omega, by simpa using hst (IntKind.i64.wrap (load + o.size)) [] [] si.w.lo (by simp [ldK, h3, h5, h6]) (by simp [t1K, h3, h5, h6]) (by exact Int.max_eq_right (by omega)) (by simp [t2K, h3, h5, h6]), ?_⟩
            unfold sB1
            rw [← hw]
            skip
            rfl
      · replace h4 : ¬ IntKind.i64.wrap (now + tm) < si.w.lo := of_decide_eq_false h4
        rw [hb0] at h4
        subst hb0
        refine And.intro (fun h5 => ?_) (fun h5 => ?_)
        · have h5 : (IntKind.i64.wrap (now + tm)) > si.w.hi := of_decide_eq_true h5
          repeat (first | refine And.intro (fun _ => ?_) (fun h => Bool.noConfusion h) | refine And.intro (fun h => Bool.noConfusion h) (fun _ => ?_))
          refine And.intro trivial (And.intro (by rcases hsz with rfl | rfl <;> rfl) (And.intro (rm1 out (by omega)) (And.intro rfl ?_)))
          refine ⟨⟨255, [0, 1, 0, 0, 8, 20, 3, 127], [1, 3, 4, 8, 24, 60, 67, 255]⟩, by kernel_rfl, ?_⟩
          refine And.intro ?_ trivial
          refine And.intro (by repeat (first | exact trivial | refine And.intro ⟨rfl, rfl⟩ ?_)) ?_
          refine And.intro ?_ trivial
          refine And.intro (by repeat (first | exact trivial | refine And.intro ⟨rfl, rfl⟩ ?_)) ?_
          refine ⟨l.length - (i + 1), by omega, i + 1, 3, ⟨IntKind.i64.wrap ((IntKind.i64.wrap (now + tm)) + si.serv), si.place, (IntKind.i64.wrap (load + o.size)), out ++ [⟨d.id, n, 15⟩]⟩, rfl, by omega, .inr rfl, by simp; omega, by simpa using hst (IntKind.i64.wrap (load + o.size)) [] [⟨d.id, n, 15⟩] (IntKind.i64.wrap (now + tm)) (by simp [ldK, h3, h5]) (by simp [t1K, h3, h5]) (by exact Int.max_eq_left (by omega)) (by simp [t2K, h3, h5]), ?_⟩
          unfold sB1
          rw [← hw]
          simp only [List.map_append]
          rfl
        · have h5 : ¬ (IntKind.i64.wrap (now + tm)) > si.w.hi := of_decide_eq_false h5
          refine And.intro (fun h6 => ?_) (fun h6 => ?_)
          · have h6 : IntKind.i64.wrap ((IntKind.i64.wrap (now + tm)) + si.serv) > d.w.hi := of_decide_eq_true h6
            repeat (first | refine And.intro (fun _ => ?_) (fun h => Bool.noConfusion h) | refine And.intro (fun h => Bool.noConfusion h) (fun _ => ?_))
            refine And.intro trivial (And.intro (by rcases hsz with rfl | rfl <;> rfl) (And.intro (rm1 out (by omega)) (And.intro rfl ?_)))
            refine ⟨⟨255, [0, 1, 0, 0, 8, 20, 3, 127], [1, 3, 4, 8, 24, 60, 67, 255]⟩, by kernel_rfl, ?_⟩
            refine And.intro ?_ trivial
            refine And.intro (by repeat (first | exact trivial | refine And.intro ⟨rfl, rfl⟩ ?_)) ?_
            refine And.intro ?_ trivial
            refine And.intro (by repeat (first | exact trivial | refine And.intro ⟨rfl, rfl⟩ ?_)) ?_
            refine ⟨l.length - (i + 1), by omega, i + 1, 3, ⟨IntKind.i64.wrap ((IntKind.i64.wrap (now + tm)) + si.serv), si.place, (IntKind.i64.wrap (load + o.size)), out ++ [⟨d.id, n, 15⟩]⟩, rfl, by omega, .inr rfl, by simp; omega, by simpa using hst (IntKind.i64.wrap (load + o.size)) [] [⟨d.id, n, 15⟩] (IntKind.i64.wrap (now + tm)) (by simp [ldK, h3, h5, h6]) (by simp [t1K, h3, h5, h6]) (by exact Int.max_eq_left (by omega)) (by simp [t2K, h3, h5, h6]), ?_⟩
            unfold sB1
            rw [← hw]
            simp only [List.map_append]
            rfl
          · have h6 : ¬ IntKind.i64.wrap ((IntKind.i64.wrap (now + tm)) + si.serv) > d.w.hi := of_decide_eq_false h6
            repeat (first | refine And.intro (fun _ => ?_) (fun h => Bool.noConfusion h) | refine And.intro (fun h => Bool.noConfusion h) (fun _ => ?_))
            refine ⟨⟨255, [0, 1, 0, 0, 8, 20, 3, 127], [1, 3, 4, 8, 24, 60, 67, 255]⟩, by kernel_rfl, ?_⟩
            refine And.intro ?_ trivial
            refine And.intro (by repeat (first | exact trivial | refine And.intro ⟨rfl, rfl⟩ ?_)) ?_
            refine And.intro ?_ trivial
            refine And.intro (by repeat (first | exact trivial | refine And.intro ⟨rfl, rfl⟩ ?_)) ?_
            refine ⟨l.length - (i + 1), by omega, i + 1, sz, ⟨IntKind.i64.wrap ((IntKind.i64.wrap (now + tm)) + si.serv), si.place, (IntKind.i64.wrap (load + o.size)), out⟩, rfl, by omega, hsz, by simp; omega, by simpa using hst (IntKind.i64.wrap (load + o.size)) [] [] (IntKind.i64.wrap (now + tm)) (by simp [ldK, h3, h5, h6]) (by simp [t1K, h3, h5, h6]) (by exact Int.max_eq_left (by omega)) (by simp [t2K, h3, h5, h6]), ?_⟩
            unfold sB1
            rw [← hw]
            skip
            rfl
end Go.Lv

namespace Go.Lv
open Go.Proofs

theorem c_drayref9_along (m : Mp) (hm : okMp m) (d : Drv) (os : List Ord) (ho : os.length ≤ 1000000) (l : List Stp) (hl : l.length ≤ 1000) {xs : List (List D)} (hx : xs = l.map rowS) {r b : Nat} {sto : List Ob} (hr : r ≤ sto.length) (hb : sto[b]? = some (mbox m)) (hbr : b < r) : Tri Tryz.prog 96 r [.gptr b 0, .agg (rowDr d), encOs os, .list .imm xs] sto (fun x k => isTb (alongK m d os l) x ∧ k = sto) := by
  subst hx
  exact (c_drayref9_along_0 m hm d os ho l hl).boxRO (nr_mcs m) rfl (by show (nrBL 0 (rowDr d) && nrBL 0 (encOs os :: [.list .imm (l.map rowS)])) = true; rw [nrBL_O (nrBL_S rfl)]; rfl) (fun d h => isTb_ok h) hr hb hbr
theorem szTb {sz : Nat} (hsz : sz = 0 ∨ sz = 3) : ((sz == 0 || sz == LT.size 131) && decide (0 < LT.size 131) && decide (0 < LT.bytes 131) && (LT.zero 131).isSome) = true := by
  rcases hsz with rfl | rfl <;> rfl
noncomputable def sV1 (m : Mp) (ds : List Drv) (os : List Ord) (p : Pln) (sz : Nat) (out : List Tb) (i : Nat) : DS := ⟨[(0, .gptr 0 0), (1, encDs ds), (2, encOs os), (3, encP p), (8, .list (.own 0) []), (9, .list (.own sz) (out.map rowTb)), (10, .int .i64 (i : Int))], [], [mbox m], mR 1⟩
noncomputable def sV2 (m : Mp) (os : List Ord) (p : Pln) (sz : Nat) (out : List Tb) (i : Nat) : DS := ⟨[(2, encOs os), (3, encP p), (8, .list (.own 0) []), (9, .list (.own sz) (out.map rowTb)), (13, .int .i64 (i : Int))], [], [mbox m], mR 1⟩
set_option maxHeartbeats 16000000 in
theorem c_drayref9_Audit_0 (m : Mp) (hm : okMp m) (ds : List Drv) (os : List Ord) (p : Pln) : Tri Tryz.prog 56 1 [.gptr 0 0, encDs ds, encOs os, encP p] [mbox m] (fun x k => isTb (audK m ds os p) x ∧ k = [mbox m]) := by
  refine Tri.walk2 (L := LT) (c := {n := 90, ko := [8, 9], xf := [42, 51, 80, 89]}) [] [0, 1, 2, 3, 8, 9, 10, 11, 12, 13, 15, 21, 27, 41, 65, 79] hLT hmix Tryz.func56 rfl rfl ⟨rfl, rfl⟩ (by show 4 ≤ 90; decide) (by first | exact Nat.zero_le _ | exact Nat.le_refl _ | exact Nat.le_succ 1 | decide) ?_
  unfold audK
  repeat (first | refine And.intro (fun _ => ?_) (fun h => Bool.noConfusion h) | refine And.intro (fun h => Bool.noConfusion h) (fun _ => ?_))
  refine ⟨rfl, (by first | exact Nat.zero_le _ | exact Nat.le_refl _ | exact Nat.le_succ 1 | decide), (c_drayref9_Well m hm ds os p (r := 1) (sto := [mbox m]) (Nat.le_refl 1) rfl (Nat.lt_succ_self 0)).mono ?_⟩
  rintro d l ⟨rfl, rfl⟩
  refine ⟨rfl, fun _ _ => rfl, rfl, ?_⟩
  cases h0 : decide (togO m ds os p) with
  | false =>
    rw [if_neg (of_decide_eq_false h0)]
    repeat (first | refine And.intro (fun _ => ?_) (fun h => Bool.noConfusion h) | refine And.intro (fun h => Bool.noConfusion h) (fun _ => ?_))
    exact And.intro ⟨3, .inr rfl, rfl⟩ rfl
  | true =>
  have h0 := of_decide_eq_true h0
  rw [if_pos h0]
  obtain ⟨hd8, ho, hpr, hde, _⟩ := h0
  obtain ⟨hp8, hst⟩ := rightP_st hpr
  have ho40 := ho.1
  repeat (first | refine And.intro (fun _ => ?_) (fun h => Bool.noConfusion h) | refine And.intro (fun h => Bool.noConfusion h) (fun _ => ?_))
  show Ok _ _ _ _ _
  refine Ok.loopN hLT hmix [] [0, 1, 2, 3, 8, 9, 10, 11, 12, 13, 15, 21, 27, 41, 65, 79] [0,1,2,3,8,9,10] [] (fun n s => ∃ (i : Nat) (sz : Nat) (out : List Tb), n = p.length - i ∧ i ≤ p.length ∧ (sz = 0 ∨ sz = 3) ∧ out.length ≤ 241 * i ∧ out = rtsK m ds os (p.take i) ∧ s = sV1 m ds os p sz out i) (n := p.length) ⟨0, 0, [], rfl, Nat.zero_le _, .inl rfl, Nat.le_refl _, rfl, rfl⟩ ?_
  rintro n s ⟨i, sz, out, rfl, hi, hsz, hol, hout, rfl⟩
  refine And.intro (fun h1 => ?_) (fun h1 => ?_)
  rotate_left
  · have h1 : ¬ ((i : Nat) : Int) < ((p.map rowR).length : Int) := of_decide_eq_false h1
    rw [List.length_map] at h1
    rw [List.take_of_length_le (by omega)] at hout
    have hol1 : out.length ≤ 2000 := by omega
    have hsz1 := hsz
    rw [← hout]
    repeat (first | refine And.intro (fun _ => ?_) (fun h => Bool.noConfusion h) | refine And.intro (fun h => Bool.noConfusion h) (fun _ => ?_))
    show Ok _ _ _ _ _
    refine Ok.loopN hLT hmix [] [0, 1, 2, 3, 8, 9, 10, 11, 12, 13, 15, 21, 27, 41, 65, 79] [2,3,8,9,13] [] (fun n s => ∃ (i : Nat) (sz : Nat) (out2 : List Tb), n = os.length - i ∧ i ≤ os.length ∧ (sz = 0 ∨ sz = 3) ∧ out2.length ≤ 2000 + i ∧ out2 = out ++ (os.take i).flatMap (misK p) ∧ s = sV2 m os p sz out2 i) (n := os.length) ⟨0, sz, out, rfl, Nat.zero_le _, hsz1, hol1, by simp, rfl⟩ ?_
    rintro n s ⟨i, sz, out2, rfl, hi, hsz, hol, ho2, rfl⟩
    refine And.intro (fun h1 => ?_) (fun h1 => ?_)
    rotate_left
    · have h1 : ¬ ((i : Nat) : Int) < ((os.map rowO).length : Int) := of_decide_eq_false h1
      rw [List.length_map] at h1
      rw [List.take_of_length_le (by omega)] at ho2
      repeat (first | refine And.intro (fun _ => ?_) (fun h => Bool.noConfusion h) | refine And.intro (fun h => Bool.noConfusion h) (fun _ => ?_))
      exact And.intro ⟨sz, hsz, by rw [ho2]⟩ rfl
    have h1 : ((i : Nat) : Int) < ((os.map rowO).length : Int) := of_decide_eq_true h1
    rw [List.length_map] at h1
    have hil : i < os.length := by omega
    have hw := wrap_succ (i := i) (n := os.length) hil (by omega)
    have hF := c_drayref9_Find p ⟨by omega, fun r hr => by have := hst r hr; omega⟩ os[i].id (r := 1) (sto := [mbox m]) (Nat.le_refl 1)
    have hsu := misK_succ p hil
    have hmi : misK p os[i] = if (findP os[i].id p).isSome = true then [] else [⟨0, os[i].id, 19⟩] := rfl
    generalize misK p os[i] = mi at hsu hmi
    unfold findD at hF
    have hrow : (os.map rowO)[((i : Nat) : Int).toNat]? = some (rowO os[i]) := row_at _ hil
    generalize os[i] = o at hF hmi hrow
    refine ⟨_, _, rfl, by omega, hrow, rfl, of_decide_eq_true rfl, ?_⟩
    cases hf : findP o.id p with
    | some sp =>
      rw [hf] at hF hmi
      unfold encSpt at hF
      refine ⟨rfl, (by first | exact Nat.zero_le _ | exact Nat.le_refl _ | exact Nat.le_succ 1 | decide), (hF).mono ?_⟩
      rintro d l ⟨rfl, rfl⟩
      refine ⟨rfl, fun _ _ => rfl, rfl, ?_⟩
      repeat (first | refine And.intro (fun _ => ?_) (fun h => Bool.noConfusion h) | refine And.intro (fun h => Bool.noConfusion h) (fun _ => ?_))
      refine ⟨os.length - (i + 1), by omega, i + 1, sz, out2, rfl, by omega, hsz, by omega, ?_, ?_⟩
      · rw [hsu, ho2, hmi]; simp
      · unfold sV2
        rw [← hw]
        rfl
    | none =>
      rw [hf] at hF hmi
      unfold encSpt at hF
      refine ⟨rfl, (by first | exact Nat.zero_le _ | exact Nat.le_refl _ | exact Nat.le_succ 1 | decide), (hF).mono ?_⟩
      rintro d l ⟨rfl, rfl⟩
      refine ⟨rfl, fun _ _ => rfl, rfl, ?_⟩
      repeat (first | refine And.intro (fun _ => ?_) (fun h => Bool.noConfusion h) | refine And.intro (fun h => Bool.noConfusion h) (fun _ => ?_))
      refine ⟨_, _, rfl, by omega, hrow, rfl, of_decide_eq_true rfl, ?_⟩
      refine And.intro trivial (And.intro (by rcases hsz with rfl | rfl <;> rfl) (And.intro (rm1 out2 (by omega)) (And.intro rfl ?_)))
      refine ⟨os.length - (i + 1), by omega, i + 1, 3, out2 ++ [⟨0, o.id, 19⟩], rfl, by omega, .inr rfl, by simp; omega, ?_, ?_⟩
      · rw [hsu, ho2, hmi]; simp
      · unfold sV2
        rw [← hw, List.map_append]
        rfl
  have h1 : ((i : Nat) : Int) < ((p.map rowR).length : Int) := of_decide_eq_true h1
  rw [List.length_map] at h1
  have hil : i < p.length := by omega
  have hw := wrap_succ (i := i) (n := p.length) hil (by omega)
  have hcl := c_drayref9_driver ds (by omega) rfl p[i].drv (r := 1) (sto := [mbox m]) (Nat.le_refl 1)
  unfold drOfD at hcl
  have hrl := rtK_len m ds os p[i]
  have hrs := hst p[i] (List.getElem_mem _)
  have hsu := rtsK_succ m ds os hil
  rw [← hout] at hsu
  unfold rtK at hsu hrl
  have hrow : (p.map rowR)[((i : Nat) : Int).toNat]? = some (rowR p[i]) := row_at _ hil
  generalize p[i] = r at hcl hrl hrs hsu hrow
  refine ⟨_, _, rfl, by omega, hrow, rfl, of_decide_eq_true rfl, ?_⟩
  cases hfd : findDr r.drv ds with
  | none =>
    rw [hfd] at hsu hrl
    rw [(drOf_none hfd).1, (drOf_none hfd).2] at hcl
    refine ⟨rfl, (by first | exact Nat.zero_le _ | exact Nat.le_refl _ | exact Nat.le_succ 1 | decide), (hcl).mono ?_⟩
    rintro d l ⟨rfl, rfl⟩
    refine ⟨rfl, fun _ _ => rfl, rfl, ?_⟩
    repeat (first | refine And.intro (fun _ => ?_) (fun h => Bool.noConfusion h) | refine And.intro (fun h => Bool.noConfusion h) (fun _ => ?_))
    refine ⟨_, _, rfl, by omega, hrow, rfl, of_decide_eq_true rfl, ?_⟩
    refine And.intro trivial (And.intro (by rcases hsz with rfl | rfl <;> rfl) (And.intro (rm1 out (by omega)) (And.intro rfl ?_)))
    refine ⟨p.length - (i + 1), by omega, i + 1, 3, out ++ [⟨r.drv, 0, 8⟩], rfl, by omega, .inr rfl, by simp; omega, hsu.symm, ?_⟩
    unfold sV1
    rw [← hw, List.map_append]
    rfl
  | some d =>
    rw [hfd] at hsu hrl
    rw [(drOf_some hfd).1, (drOf_some hfd).2] at hcl
    have hA := c_drayref9_along m hm d os (by omega) r.st (by omega) rfl (r := 1) (sto := [mbox m]) (Nat.le_refl 1) rfl (Nat.lt_succ_self 0)
    replace hrl : (alongK m d os r.st).length ≤ 3 * r.st.length + 1 := hrl
    replace hsu : rtsK m ds os (p.take (i + 1)) = out ++ alongK m d os r.st := hsu
    generalize alongK m d os r.st = al at hA hrl hsu
    have hal : allLen 3 (al.map rowTb) = true := by simp [allLen, rowTb]
    have hszk := szTb hsz
    have hi0 : (0 : Int) ≤ (i : Int) := by omega
    have hrm : ((out.map rowTb).length + (al.map rowTb).length) * 24 ≤ 140737488355328 := by rw [List.length_map, List.length_map]; omega
    refine ⟨rfl, (by first | exact Nat.zero_le _ | exact Nat.le_refl _ | exact Nat.le_succ 1 | decide), (hcl).mono ?_⟩
    rintro d l ⟨rfl, rfl⟩
    refine ⟨rfl, fun _ _ => rfl, rfl, ?_⟩
    repeat (first | refine And.intro (fun _ => ?_) (fun h => Bool.noConfusion h) | refine And.intro (fun h => Bool.noConfusion h) (fun _ => ?_))
    refine ⟨⟨2047, [0, 0, 0, 0, 0, 0, 48, 64, 128, 270, 513, 2047], [1, 2, 4, 8, 16, 32, 112, 240, 496, 1022, 2047, 4095]⟩, by kernel_rfl, ?_⟩
    refine ⟨_, _, rfl, by omega, hrow, rfl, of_decide_eq_true rfl, ?_⟩
    refine And.intro rfl ?_
    refine (fun (hrest : _) => And.intro (by
        refine And.intro (by repeat (first | exact trivial | refine And.intro ⟨rfl, rfl⟩ ?_ | refine And.intro ⟨_, _, rfl, hi0, hrow, rfl, of_decide_eq_true rfl, And.intro rfl (And.intro rfl rfl)⟩ ?_)) ?_
        refine And.intro ?_ trivial
        refine ⟨rfl, Nat.le_refl _, hA.mono ?_⟩
        rintro x k ⟨⟨sz2, hsz2, rfl⟩, rfl⟩
        refine ⟨rfl, fun _ _ => rfl, rfl, ?_⟩
        refine And.intro (by repeat (first | exact trivial | refine And.intro ⟨rfl, rfl⟩ ?_ | refine And.intro ⟨_, _, rfl, hi0, hrow, rfl, of_decide_eq_true rfl, And.intro rfl (And.intro rfl rfl)⟩ ?_)) ?_
        refine And.intro ?_ trivial
        refine And.intro trivial (And.intro hszk (And.intro hrm (And.intro hal ?_)))
        refine And.intro (by repeat (first | exact trivial | refine And.intro ⟨rfl, rfl⟩ ?_ | refine And.intro ⟨_, _, rfl, hi0, hrow, rfl, of_decide_eq_true rfl, And.intro rfl (And.intro rfl rfl)⟩ ?_)) ?_
        refine And.intro ?_ trivial
        refine And.intro (by repeat (first | exact trivial | refine And.intro ⟨rfl, rfl⟩ ?_ | refine And.intro ⟨_, _, rfl, hi0, hrow, rfl, of_decide_eq_true rfl, And.intro rfl (And.intro rfl rfl)⟩ ?_)) ?_
        exact hrest) (And.intro (by
        refine ⟨rfl, Nat.le_refl _, hA.mono ?_⟩
        rintro x k ⟨⟨sz2, hsz2, rfl⟩, rfl⟩
        refine ⟨rfl, fun _ _ => rfl, rfl, ?_⟩
        refine And.intro (by repeat (first | exact trivial | refine And.intro ⟨rfl, rfl⟩ ?_ | refine And.intro ⟨_, _, rfl, hi0, hrow, rfl, of_decide_eq_true rfl, And.intro rfl (And.intro rfl rfl)⟩ ?_)) ?_
        refine And.intro ?_ trivial
        refine And.intro (by repeat (first | exact trivial | refine And.intro ⟨rfl, rfl⟩ ?_ | refine And.intro ⟨_, _, rfl, hi0, hrow, rfl, of_decide_eq_true rfl, And.intro rfl (And.intro rfl rfl)⟩ ?_)) ?_
        refine And.intro ?_ trivial
        refine And.intro trivial (And.intro hszk (And.intro hrm (And.intro hal ?_)))
        refine And.intro (by repeat (first | exact trivial | refine And.intro ⟨rfl, rfl⟩ ?_ | refine And.intro ⟨_, _, rfl, hi0, hrow, rfl, of_decide_eq_true rfl, And.intro rfl (And.intro rfl rfl)⟩ ?_)) ?_
        refine And.intro ?_ trivial
        refine And.intro (by repeat (first | exact trivial | refine And.intro ⟨rfl, rfl⟩ ?_ | refine And.intro ⟨_, _, rfl, hi0, hrow, rfl, of_decide_eq_true rfl, And.intro rfl (And.intro rfl rfl)⟩ ?_)) ?_
        exact hrest) trivial)) ?_
    refine ⟨p.length - (i + 1), by omega, i + 1, 3, out ++ al, rfl, by omega, .inr rfl, by rw [List.length_append]; omega, hsu.symm, ?_⟩
    unfold sV1
    rw [← hw, List.map_append]
    rfl
theorem c_drayref9_Audit (m : Mp) (hm : okMp m) (ds : List Drv) (os : List Ord) (p : Pln) {r b : Nat} {sto : List Ob} (hr : r ≤ sto.length) (hb : sto[b]? = some (mbox m)) (hbr : b < r) : Tri Tryz.prog 56 r [.gptr b 0, encDs ds, encOs os, encP p] sto (fun x k => isTb (audK m ds os p) x ∧ k = sto) :=
  (c_drayref9_Audit_0 m hm ds os p).boxRO (nr_mcs m) rfl (nrBL_Dr (nrBL_O (nrBL_P rfl))) (fun d h => isTb_ok h) hr hb hbr
end Go.Lv

namespace Go.Lv
open Go.Proofs

noncomputable def riseDr : Int → List Drv → Bool
  | _, [] => true
  | a, d :: r => decide (a < d.id) && riseDr d.id r
noncomputable def riseO : Int → List Ord → Bool
  | _, [] => true
  | a, d :: r => decide (a < d.id) && riseO d.id r
noncomputable def rightB (m : Mp) (ds : List Drv) (os : List Ord) (p : Pln) : Bool := (audK m ds os p).isEmpty && (decide (p.length = ds.length) && (riseDr 0 ds && riseO 0 os))
noncomputable def encB (ds : List Drv) (os : List Ord) (p : Pln) : D := .agg [encDs ds, encOs os, encP p]
theorem riseDr_at {a : Int} {l : List Drv} {i : Nat} (h : i < l.length) : riseDr a (l.drop i) = (decide (a < l[i].id) && riseDr l[i].id (l.drop (i + 1))) := by
  rw [List.drop_eq_getElem_cons h]
  rfl
theorem riseO_at {a : Int} {l : List Ord} {i : Nat} (h : i < l.length) : riseO a (l.drop i) = (decide (a < l[i].id) && riseO l[i].id (l.drop (i + 1))) := by
  rw [List.drop_eq_getElem_cons h]
  rfl
theorem tog_pos {m : Mp} {ds : List Drv} {os : List Ord} {p : Pln} (h : togO m ds os p) : (∀ d, d ∈ ds → 0 < d.id) ∧ ∀ o, o ∈ os → 0 < o.id := by
  refine ⟨fun d hd => ?_, fun o ho => ?_⟩
  · have := h.2.2.2.1 d hd
    unfold errD at this
    split at this
    · cases this
    · omega
  · have := h.2.1.2.1 o ho
    unfold errO at this
    split at this
    · cases this
    · omega
theorem aud_tog {m : Mp} {ds : List Drv} {os : List Ord} {p : Pln} (h : audK m ds os p = []) : togO m ds os p := by
  unfold audK at h
  split at h
  · assumption
  · cases h
noncomputable def sR1 (m : Mp) (ds : List Drv) (os : List Ord) (p : Pln) (a : Int) (i : Nat) : DS := ⟨[(3, .lptr 3 0 0), (4, .bool false), (5, .int .i64 a), (30, encDs ds), (31, .int .i64 (ds.length : Int)), (32, .int .i64 (i : Int))], [(3, [encDs ds, encOs os, encP p])], [mbox m], mR 1⟩
noncomputable def sR2 (m : Mp) (os : List Ord) (a : Int) (i : Nat) : DS := ⟨[(4, .bool false), (5, .int .i64 a), (44, encOs os), (45, .int .i64 (os.length : Int)), (46, .int .i64 (i : Int))], [], [mbox m], mR 1⟩
set_option maxHeartbeats 16000000 in
theorem c_planner_Right_0 (m : Mp) (hm : okMp m) (ds : List Drv) (os : List Ord) (p : Pln) : Tri Tryz.prog 12 1 [.gptr 0 0, encB ds os p] [mbox m] (fun x k => x = .bool (rightB m ds os p) ∧ k = [mbox m]) := by
  refine Tri.walk2 (L := LT) (c := {n := 57, ko := [4]}) [] [0, 1, 3, 4, 5, 7, 9, 28, 30, 31, 32, 33, 39, 44, 45, 46, 47, 53] hLT hmix Tryz.func12 rfl rfl ⟨rfl, rfl⟩ (by show 2 ≤ 57; decide) (by first | exact Nat.zero_le _ | exact Nat.le_refl _ | exact Nat.le_succ 1 | decide) ?_
  unfold rightB
  repeat (first | refine And.intro (fun _ => ?_) (fun h => Bool.noConfusion h) | refine And.intro (fun h => Bool.noConfusion h) (fun _ => ?_))
  refine ⟨rfl, Nat.le_refl _, (c_audit_Audit m hm ds os p (r := 1) (b := 0) (sto := [mbox m]) (Nat.le_refl 1) rfl (Nat.lt_succ_self 0)).mono ?_⟩
  rintro x k ⟨⟨sz, hsz, rfl⟩, rfl⟩
  refine ⟨rfl, fun _ _ => rfl, rfl, ?_⟩
  have htog := fun h => aud_tog (m := m) (ds := ds) (os := os) (p := p) h
  generalize audK m ds os p = al at htog ⊢
  cases al with
  | cons t al =>
    refine And.intro (fun h0 => ?_) (fun h0 => ?_)
    · repeat (first | refine And.intro (fun _ => ?_) (fun h => Bool.noConfusion h) | refine And.intro (fun h => Bool.noConfusion h) (fun _ => ?_))
      exact And.intro rfl rfl
    · have h0 := of_decide_eq_false h0
      rw [List.length_map, List.length_cons] at h0
      exact absurd (show ((al.length + 1 : Nat) : Int) > 0 by omega) h0
  | nil =>
  have htog := htog rfl
  refine And.intro (fun h0 => ?_) (fun h0 => ?_)
  · exact absurd (of_decide_eq_true h0) (by show ¬ (0 : Int) > 0; omega)
  clear h0
  refine And.intro (fun h1 => ?_) (fun h1 => ?_)
  · have h1 : ¬ ((p.map rowR).length : Int) = ((ds.map rowDr).length : Int) := by simpa using h1
    rw [List.length_map, List.length_map] at h1
    repeat (first | refine And.intro (fun _ => ?_) (fun h => Bool.noConfusion h) | refine And.intro (fun h => Bool.noConfusion h) (fun _ => ?_))
    rw [decide_eq_false (show ¬ p.length = ds.length by omega)]
    exact And.intro rfl rfl
  have h1 : ((p.map rowR).length : Int) = ((ds.map rowDr).length : Int) := by simpa using h1
  rw [List.length_map, List.length_map] at h1
  rw [decide_eq_true (show p.length = ds.length by omega)]
  have hd8 := htog.1
  have ho40 := htog.2.1.1
  repeat (first | refine And.intro (fun _ => ?_) (fun h => Bool.noConfusion h) | refine And.intro (fun h => Bool.noConfusion h) (fun _ => ?_))
  show Ok _ _ _ _ _
  refine Ok.loopN hLT hmix [] [0, 1, 3, 4, 5, 7, 9, 28, 30, 31, 32, 33, 39, 44, 45, 46, 47, 53] [3,4,5,30,31,32] [3] (fun n s => ∃ (i : Nat) (a : Int), n = ds.length - i ∧ i ≤ ds.length ∧ riseDr a (ds.drop i) = riseDr 0 ds ∧ s = sR1 m ds os p a i) (n := ds.length) ⟨0, 0, rfl, Nat.zero_le _, rfl, by unfold sR1; rw [← List.length_map (f := rowDr)]; rfl⟩ ?_
  rintro n s ⟨i, a, rfl, hi, hgo, rfl⟩
  refine And.intro (fun h2 => ?_) (fun h2 => ?_)
  rotate_left
  · have h2 : ¬ ((i : Nat) : Int) < (ds.length : Int) := of_decide_eq_false h2
    rw [List.drop_eq_nil_of_le (by omega)] at hgo
    have hDr : riseDr 0 ds = true := by rw [← hgo]; rfl
    rw [hDr]
    repeat (first | refine And.intro (fun _ => ?_) (fun h => Bool.noConfusion h) | refine And.intro (fun h => Bool.noConfusion h) (fun _ => ?_))
    show Ok _ _ _ _ _
    refine Ok.loopN hLT hmix [] [0, 1, 3, 4, 5, 7, 9, 28, 30, 31, 32, 33, 39, 44, 45, 46, 47, 53] [4,5,44,45,46] [] (fun n s => ∃ (i : Nat) (a : Int), n = os.length - i ∧ i ≤ os.length ∧ riseO a (os.drop i) = riseO 0 os ∧ s = sR2 m os a i) (n := os.length) ⟨0, 0, rfl, Nat.zero_le _, rfl, by unfold sR2; rw [← List.length_map (f := rowO)]; rfl⟩ ?_
    rintro n s ⟨i, a, rfl, hi, hgo, rfl⟩
    refine And.intro (fun h2 => ?_) (fun h2 => ?_)
    rotate_left
    · have h2 : ¬ ((i : Nat) : Int) < (os.length : Int) := of_decide_eq_false h2
      rw [List.drop_eq_nil_of_le (by omega)] at hgo
      rw [← hgo]
      repeat (first | refine And.intro (fun _ => ?_) (fun h => Bool.noConfusion h) | refine And.intro (fun h => Bool.noConfusion h) (fun _ => ?_))
      exact And.intro rfl rfl
    have h2 : ((i : Nat) : Int) < (os.length : Int) := of_decide_eq_true h2
    have hil : i < os.length := by omega
    have hw := wrap_succ (i := i) (n := os.length) hil (by omega)
    rw [riseO_at hil] at hgo
    refine ⟨(os).map rowO, rowO ((os)[i]'(by omega)), rfl, by omega, row_at' rowO (os) (by omega) (by omega), rfl, of_decide_eq_true rfl, ?_⟩
    generalize os[i] = o at hgo ⊢
    refine And.intro (fun h3 => ?_) (fun h3 => ?_)
    · have h3 : o.id ≤ a := of_decide_eq_true h3
      rw [← hgo, decide_eq_false (show ¬ a < o.id by omega)]
      repeat (first | refine And.intro (fun _ => ?_) (fun h => Bool.noConfusion h) | refine And.intro (fun h => Bool.noConfusion h) (fun _ => ?_))
      exact And.intro rfl rfl
    · have h3 : ¬ o.id ≤ a := of_decide_eq_false h3
      rw [decide_eq_true (show a < o.id by omega)] at hgo
      repeat (first | refine And.intro (fun _ => ?_) (fun h => Bool.noConfusion h) | refine And.intro (fun h => Bool.noConfusion h) (fun _ => ?_))
      refine ⟨os.length - (i + 1), by omega, i + 1, o.id, rfl, by omega, hgo, ?_⟩
      unfold sR2
      rw [← hw]
      rfl
  have h2 : ((i : Nat) : Int) < (ds.length : Int) := of_decide_eq_true h2
  have hil : i < ds.length := by omega
  have hw := wrap_succ (i := i) (n := ds.length) hil (by omega)
  rw [riseDr_at hil] at hgo
  refine ⟨(ds).map rowDr, rowDr ((ds)[i]'(by omega)), rfl, by omega, row_at' rowDr (ds) (by omega) (by omega), rfl, of_decide_eq_true rfl, ?_⟩
  generalize ds[i] = d at hgo ⊢
  refine And.intro (fun h3 => ?_) (fun h3 => ?_)
  · have h3 : d.id ≤ a := of_decide_eq_true h3
    rw [← hgo, decide_eq_false (show ¬ a < d.id by omega)]
    repeat (first | refine And.intro (fun _ => ?_) (fun h => Bool.noConfusion h) | refine And.intro (fun h => Bool.noConfusion h) (fun _ => ?_))
    exact And.intro rfl rfl
  · have h3 : ¬ d.id ≤ a := of_decide_eq_false h3
    rw [decide_eq_true (show a < d.id by omega)] at hgo
    repeat (first | refine And.intro (fun _ => ?_) (fun h => Bool.noConfusion h) | refine And.intro (fun h => Bool.noConfusion h) (fun _ => ?_))
    refine ⟨ds.length - (i + 1), by omega, i + 1, d.id, rfl, by omega, hgo, ?_⟩
    unfold sR1
    rw [← hw]
    rfl
theorem nrBL_Bk {ds : List Drv} {os : List Ord} {p : Pln} : nrBL 0 [encB ds os p] = true := by
  show (nrBL 0 [encDs ds, encOs os, encP p] && true) = true
  rw [nrBL_Dr (nrBL_O (nrBL_P rfl))]
  rfl
theorem c_planner_Right (m : Mp) (hm : okMp m) (ds : List Drv) (os : List Ord) (p : Pln) {r b : Nat} {sto : List Ob} (hr : r ≤ sto.length) (hb : sto[b]? = some (mbox m)) (hbr : b < r) : Tri Tryz.prog 12 r [.gptr b 0, encB ds os p] sto (fun x k => x = .bool (rightB m ds os p) ∧ k = sto) :=
  (c_planner_Right_0 m hm ds os p).boxRO (nr_mcs m) rfl nrBL_Bk (fun d h => by subst h; exact ⟨rfl, rfl⟩) hr hb hbr

noncomputable def prevDr (l : List Drv) (i : Nat) : Int := match l[i - 1]? with
  | some d => d.id
  | none => 0
noncomputable def prevO (l : List Ord) (i : Nat) : Int := match l[i - 1]? with
  | some d => d.id
  | none => 0
theorem prevDr_is {l : List Drv} {i : Nat} (h : i - 1 < l.length) : prevDr l i = l[i - 1].id := by
  unfold prevDr
  rw [List.getElem?_eq_getElem h]
theorem prevO_is {l : List Ord} {i : Nat} (h : i - 1 < l.length) : prevO l i = l[i - 1].id := by
  unfold prevO
  rw [List.getElem?_eq_getElem h]
theorem prevDr_1 {l : List Drv} (h : ∀ d, d ∈ l → 0 < d.id) : riseDr (prevDr l 1) (l.drop 1) = riseDr 0 l := by
  cases l with
  | nil => rfl
  | cons d r =>
    show riseDr d.id r = (decide (0 < d.id) && riseDr d.id r)
    rw [decide_eq_true (h d (by simp))]
    rfl
theorem prevO_1 {l : List Ord} (h : ∀ d, d ∈ l → 0 < d.id) : riseO (prevO l 1) (l.drop 1) = riseO 0 l := by
  cases l with
  | nil => rfl
  | cons d r =>
    show riseO d.id r = (decide (0 < d.id) && riseO d.id r)
    rw [decide_eq_true (h d (by simp))]
    rfl
noncomputable def sE1 (m : Mp) (ds : List Drv) (os : List Ord) (p : Pln) (i : Nat) : DS := ⟨[(3, .lptr 3 0 0), (4, .bool false), (5, .int .i64 (i : Int))], [(3, [encDs ds, encOs os, encP p])], [mbox m], mR 1⟩
noncomputable def sE2 (m : Mp) (ds : List Drv) (os : List Ord) (p : Pln) (i : Nat) : DS := ⟨[(3, .lptr 3 0 0), (4, .bool false), (6, .int .i64 (i : Int))], [(3, [encDs ds, encOs os, encP p])], [mbox m], mR 1⟩
theorem wrap_pred {i : Nat} (h : 1 ≤ i) (h2 : i ≤ 1000000) : IntKind.i64.wrap ((i : Int) - 1) = ((i - 1 : Nat) : Int) := by
  rw [wrap64 (by omega) (by omega)]
  omega
set_option maxHeartbeats 16000000 in
theorem c_drayref14_Right_0 (m : Mp) (hm : okMp m) (ds : List Drv) (os : List Ord) (p : Pln) : Tri Tryz.prog 20 1 [.gptr 0 0, encB ds os p] [mbox m] (fun x k => x = .bool (rightB m ds os p) ∧ k = [mbox m]) := by
  refine Tri.walk2 (L := LT) (c := {n := 68, ko := [4]}) [] [0, 1, 3, 4, 5, 6, 25, 30, 46, 51, 67] hLT hmix Tryz.func20 rfl rfl ⟨rfl, rfl⟩ (by show 2 ≤ 68; decide) (by first | exact Nat.zero_le _ | exact Nat.le_refl _ | exact Nat.le_succ 1 | decide) ?_
  unfold rightB
  repeat (first | refine And.intro (fun _ => ?_) (fun h => Bool.noConfusion h) | refine And.intro (fun h => Bool.noConfusion h) (fun _ => ?_))
  refine ⟨rfl, Nat.le_refl _, (c_drayref9_Audit m hm ds os p (r := 1) (b := 0) (sto := [mbox m]) (Nat.le_refl 1) rfl (Nat.lt_succ_self 0)).mono ?_⟩
  rintro x k ⟨⟨sz, hsz, rfl⟩, rfl⟩
  refine ⟨rfl, fun _ _ => rfl, rfl, ?_⟩
  have htog := fun h => aud_tog (m := m) (ds := ds) (os := os) (p := p) h
  generalize audK m ds os p = al at htog ⊢
  cases al with
  | cons t al =>
    refine And.intro (fun h0 => ?_) (fun h0 => ?_)
    · repeat (first | refine And.intro (fun _ => ?_) (fun h => Bool.noConfusion h) | refine And.intro (fun h => Bool.noConfusion h) (fun _ => ?_))
      exact And.intro rfl rfl
    · have h0 := of_decide_eq_false h0
      rw [List.length_map, List.length_cons] at h0
      exact absurd (show ((al.length + 1 : Nat) : Int) > 0 by omega) h0
  | nil =>
  have htog := htog rfl
  obtain ⟨hpd, hpo⟩ := tog_pos htog
  refine And.intro (fun h0 => ?_) (fun h0 => ?_)
  · exact absurd (of_decide_eq_true h0) (by show ¬ (0 : Int) > 0; omega)
  clear h0
  refine And.intro (fun h1 => ?_) (fun h1 => ?_)
  · have h1 : ¬ ((p.map rowR).length : Int) = ((ds.map rowDr).length : Int) := by simpa using h1
    rw [List.length_map, List.length_map] at h1
    repeat (first | refine And.intro (fun _ => ?_) (fun h => Bool.noConfusion h) | refine And.intro (fun h => Bool.noConfusion h) (fun _ => ?_))
    rw [decide_eq_false (show ¬ p.length = ds.length by omega)]
    exact And.intro rfl rfl
  have h1 : ((p.map rowR).length : Int) = ((ds.map rowDr).length : Int) := by simpa using h1
  rw [List.length_map, List.length_map] at h1
  rw [decide_eq_true (show p.length = ds.length by omega)]
  have hd8 := htog.1
  have ho40 := htog.2.1.1
  repeat (first | refine And.intro (fun _ => ?_) (fun h => Bool.noConfusion h) | refine And.intro (fun h => Bool.noConfusion h) (fun _ => ?_))
  show Ok _ _ _ _ _
  refine Ok.loopN hLT hmix [] [0, 1, 3, 4, 5, 6, 25, 30, 46, 51, 67] [3,4,5] [3] (fun n s => ∃ (i : Nat), n = ds.length - i ∧ 1 ≤ i ∧ (i ≤ ds.length ∨ i = 1) ∧ riseDr (prevDr ds i) (ds.drop i) = riseDr 0 ds ∧ s = sE1 m ds os p i) (n := (ds.length - 1)) ⟨1, rfl, Nat.le_refl _, .inr rfl, prevDr_1 hpd, rfl⟩ ?_
  rintro n s ⟨i, rfl, hi1, hi, hgo, rfl⟩
  refine And.intro (fun h2 => ?_) (fun h2 => ?_)
  rotate_left
  · have h2 : ¬ ((i : Nat) : Int) < ((ds.map rowDr).length : Int) := of_decide_eq_false h2
    rw [List.length_map] at h2
    rw [List.drop_eq_nil_of_le (by omega)] at hgo
    have hDr : riseDr 0 ds = true := by rw [← hgo]; rfl
    rw [hDr]
    repeat (first | refine And.intro (fun _ => ?_) (fun h => Bool.noConfusion h) | refine And.intro (fun h => Bool.noConfusion h) (fun _ => ?_))
    show Ok _ _ _ _ _
    refine Ok.loopN hLT hmix [] [0, 1, 3, 4, 5, 6, 25, 30, 46, 51, 67] [3,4,6] [3] (fun n s => ∃ (i : Nat), n = os.length - i ∧ 1 ≤ i ∧ (i ≤ os.length ∨ i = 1) ∧ riseO (prevO os i) (os.drop i) = riseO 0 os ∧ s = sE2 m ds os p i) (n := (os.length - 1)) ⟨1, rfl, Nat.le_refl _, .inr rfl, prevO_1 hpo, rfl⟩ ?_
    rintro n s ⟨i, rfl, hi1, hi, hgo, rfl⟩
    refine And.intro (fun h2 => ?_) (fun h2 => ?_)
    rotate_left
    · have h2 : ¬ ((i : Nat) : Int) < ((os.map rowO).length : Int) := of_decide_eq_false h2
      rw [List.length_map] at h2
      rw [List.drop_eq_nil_of_le (by omega)] at hgo
      rw [← hgo]
      repeat (first | refine And.intro (fun _ => ?_) (fun h => Bool.noConfusion h) | refine And.intro (fun h => Bool.noConfusion h) (fun _ => ?_))
      exact And.intro rfl rfl
    have h2 : ((i : Nat) : Int) < ((os.map rowO).length : Int) := of_decide_eq_true h2
    rw [List.length_map] at h2
    have hil : i < os.length := by omega
    have hw := wrap_succ (i := i) (n := os.length) hil (by omega)
    have hwp := wrap_pred hi1 (show i ≤ 1000000 by omega)
    rw [riseO_at hil, prevO_is (show i - 1 < os.length by omega)] at hgo
    have hnx := prevO_is (l := os) (i := i + 1) (by omega)
    simp only [Nat.add_sub_cancel] at hnx
    have hr1 : (os.map rowO)[(IntKind.i64.wrap ((i : Int) - 1)).toNat]? = some (rowO (os[i - 1]'(by omega))) := by rw [hwp]; exact row_at _ (by omega)
    have hr2 : (os.map rowO)[((i : Nat) : Int).toNat]? = some (rowO os[i]) := row_at _ hil
    generalize os[i] = o at hgo hr2 hnx
    generalize os[i - 1] = o1 at hgo hr1
    refine ⟨⟨16383, [0, 1, 0, 4, 10, 16, 32, 0, 128, 0, 768, 1024, 2048, 4160], [1, 3, 4, 12, 31, 63, 127, 128, 384, 512, 1920, 3968, 8064, 16383]⟩, by kernel_rfl, ?_⟩
    refine ⟨_, _, rfl, by omega, hr1, rfl, of_decide_eq_true rfl, ?_⟩
    refine And.intro rfl ?_
    refine ⟨_, _, rfl, by omega, hr2, rfl, of_decide_eq_true rfl, ?_⟩
    refine And.intro rfl ?_
    refine And.intro (fun h3 => ?_) (fun h3 => ?_)
    · have h3 : o1.id ≥ o.id := of_decide_eq_true h3
      rw [← hgo, decide_eq_false (show ¬ o1.id < o.id by omega)]
      repeat (first | refine And.intro (fun _ => ?_) (fun h => Bool.noConfusion h) | refine And.intro (fun h => Bool.noConfusion h) (fun _ => ?_))
      exact And.intro rfl rfl
    · have h3 : ¬ o1.id ≥ o.id := of_decide_eq_false h3
      rw [decide_eq_true (show o1.id < o.id by omega)] at hgo
      repeat (first | refine And.intro (fun _ => ?_) (fun h => Bool.noConfusion h) | refine And.intro (fun h => Bool.noConfusion h) (fun _ => ?_))
      refine ⟨os.length - (i + 1), by omega, i + 1, rfl, by omega, .inl (by omega), by rw [hnx]; exact hgo, ?_⟩
      unfold sE2
      rw [← hw]
      rfl
  have h2 : ((i : Nat) : Int) < ((ds.map rowDr).length : Int) := of_decide_eq_true h2
  rw [List.length_map] at h2
  have hil : i < ds.length := by omega
  have hw := wrap_succ (i := i) (n := ds.length) hil (by omega)
  have hwp := wrap_pred hi1 (show i ≤ 1000000 by omega)
  rw [riseDr_at hil, prevDr_is (show i - 1 < ds.length by omega)] at hgo
  have hnx := prevDr_is (l := ds) (i := i + 1) (by omega)
  simp only [Nat.add_sub_cancel] at hnx
  have hr1 : (ds.map rowDr)[(IntKind.i64.wrap ((i : Int) - 1)).toNat]? = some (rowDr (ds[i - 1]'(by omega))) := by rw [hwp]; exact row_at _ (by omega)
  have hr2 : (ds.map rowDr)[((i : Nat) : Int).toNat]? = some (rowDr ds[i]) := row_at _ hil
  generalize ds[i] = o at hgo hr2 hnx
  generalize ds[i - 1] = o1 at hgo hr1
  refine ⟨⟨16383, [0, 1, 0, 4, 10, 16, 32, 0, 128, 0, 768, 1024, 2048, 4160], [1, 3, 4, 12, 31, 63, 127, 128, 384, 512, 1920, 3968, 8064, 16383]⟩, by kernel_rfl, ?_⟩
  refine ⟨_, _, rfl, by omega, hr1, rfl, of_decide_eq_true rfl, ?_⟩
  refine And.intro rfl ?_
  refine ⟨_, _, rfl, by omega, hr2, rfl, of_decide_eq_true rfl, ?_⟩
  refine And.intro rfl ?_
  refine And.intro (fun h3 => ?_) (fun h3 => ?_)
  · have h3 : o1.id ≥ o.id := of_decide_eq_true h3
    rw [← hgo, decide_eq_false (show ¬ o1.id < o.id by omega)]
    repeat (first | refine And.intro (fun _ => ?_) (fun h => Bool.noConfusion h) | refine And.intro (fun h => Bool.noConfusion h) (fun _ => ?_))
    exact And.intro rfl rfl
  · have h3 : ¬ o1.id ≥ o.id := of_decide_eq_false h3
    rw [decide_eq_true (show o1.id < o.id by omega)] at hgo
    repeat (first | refine And.intro (fun _ => ?_) (fun h => Bool.noConfusion h) | refine And.intro (fun h => Bool.noConfusion h) (fun _ => ?_))
    refine ⟨ds.length - (i + 1), by omega, i + 1, rfl, by omega, .inl (by omega), by rw [hnx]; exact hgo, ?_⟩
    unfold sE1
    rw [← hw]
    rfl
theorem c_drayref14_Right (m : Mp) (hm : okMp m) (ds : List Drv) (os : List Ord) (p : Pln) {r b : Nat} {sto : List Ob} (hr : r ≤ sto.length) (hb : sto[b]? = some (mbox m)) (hbr : b < r) : Tri Tryz.prog 20 r [.gptr b 0, encB ds os p] sto (fun x k => x = .bool (rightB m ds os p) ∧ k = sto) :=
  (c_drayref14_Right_0 m hm ds os p).boxRO (nr_mcs m) rfl nrBL_Bk (fun d h => by subst h; exact ⟨rfl, rfl⟩) hr hb hbr
end Go.Lv

namespace Go.Lv
open Go.Proofs

set_option maxHeartbeats 4000000 in
theorem c_audit_Audit_nil_0 (ds : List Drv) (os : List Ord) (p : Pln) : Tri Tryz.prog 30 0 [.nil, encDs ds, encOs os, encP p] [] (fun x k => isTb [⟨0, 0, 1⟩] x ∧ k = []) := by
  refine Tri.walk2 (L := LT) (c := {n := 79, ko := [8, 9], xf := [41, 47, 71, 78]}) [] [0, 1, 2, 3, 8, 9, 11, 12, 13, 15, 17, 23, 26, 27, 28, 29, 40, 56, 57, 58, 59, 70] hLT hmix Tryz.func30 rfl rfl ⟨rfl, rfl⟩ (by show 4 ≤ 79; decide) (by first | exact Nat.zero_le _ | exact Nat.le_refl _ | exact Nat.le_succ 1 | decide) ?_
  repeat (first | refine And.intro (fun _ => ?_) (fun h => Bool.noConfusion h) | refine And.intro (fun h => Bool.noConfusion h) (fun _ => ?_))
  refine ⟨rfl, (by first | exact Nat.zero_le _ | exact Nat.le_refl _ | exact Nat.le_succ 1 | decide), (c_cert_Together_nil_0 ds os p).mono ?_⟩
  rintro d l ⟨rfl, rfl⟩
  refine ⟨rfl, fun _ _ => rfl, rfl, ?_⟩
  repeat (first | refine And.intro (fun _ => ?_) (fun h => Bool.noConfusion h) | refine And.intro (fun h => Bool.noConfusion h) (fun _ => ?_))
  exact And.intro ⟨3, .inr rfl, rfl⟩ rfl
set_option maxHeartbeats 4000000 in
theorem c_drayref9_Audit_nil_0 (ds : List Drv) (os : List Ord) (p : Pln) : Tri Tryz.prog 56 0 [.nil, encDs ds, encOs os, encP p] [] (fun x k => isTb [⟨0, 0, 1⟩] x ∧ k = []) := by
  refine Tri.walk2 (L := LT) (c := {n := 90, ko := [8, 9], xf := [42, 51, 80, 89]}) [] [0, 1, 2, 3, 8, 9, 10, 11, 12, 13, 15, 21, 27, 41, 65, 79] hLT hmix Tryz.func56 rfl rfl ⟨rfl, rfl⟩ (by show 4 ≤ 90; decide) (by first | exact Nat.zero_le _ | exact Nat.le_refl _ | exact Nat.le_succ 1 | decide) ?_
  repeat (first | refine And.intro (fun _ => ?_) (fun h => Bool.noConfusion h) | refine And.intro (fun h => Bool.noConfusion h) (fun _ => ?_))
  refine ⟨rfl, (by first | exact Nat.zero_le _ | exact Nat.le_refl _ | exact Nat.le_succ 1 | decide), (c_drayref9_Well_nil_0 ds os p).mono ?_⟩
  rintro d l ⟨rfl, rfl⟩
  refine ⟨rfl, fun _ _ => rfl, rfl, ?_⟩
  repeat (first | refine And.intro (fun _ => ?_) (fun h => Bool.noConfusion h) | refine And.intro (fun h => Bool.noConfusion h) (fun _ => ?_))
  exact And.intro ⟨3, .inr rfl, rfl⟩ rfl
set_option maxHeartbeats 4000000 in
theorem c_planner_Right_nil_0 (ds : List Drv) (os : List Ord) (p : Pln) : Tri Tryz.prog 12 0 [.nil, encB ds os p] [] (fun x k => x = .bool false ∧ k = []) := by
  refine Tri.walk2 (L := LT) (c := {n := 57, ko := [4]}) [] [0, 1, 3, 4, 5, 7, 9, 28, 30, 31, 32, 33, 39, 44, 45, 46, 47, 53] hLT hmix Tryz.func12 rfl rfl ⟨rfl, rfl⟩ (by show 2 ≤ 57; decide) (by first | exact Nat.zero_le _ | exact Nat.le_refl _ | exact Nat.le_succ 1 | decide) ?_
  repeat (first | refine And.intro (fun _ => ?_) (fun h => Bool.noConfusion h) | refine And.intro (fun h => Bool.noConfusion h) (fun _ => ?_))
  refine ⟨rfl, Nat.le_refl _, (c_audit_Audit_nil_0 ds os p).mono ?_⟩
  rintro x k ⟨⟨sz, hsz, rfl⟩, rfl⟩
  refine ⟨rfl, fun _ _ => rfl, rfl, ?_⟩
  repeat (first | refine And.intro (fun _ => ?_) (fun h => Bool.noConfusion h) | refine And.intro (fun h => Bool.noConfusion h) (fun _ => ?_))
  exact And.intro rfl rfl
set_option maxHeartbeats 4000000 in
theorem c_drayref14_Right_nil_0 (ds : List Drv) (os : List Ord) (p : Pln) : Tri Tryz.prog 20 0 [.nil, encB ds os p] [] (fun x k => x = .bool false ∧ k = []) := by
  refine Tri.walk2 (L := LT) (c := {n := 68, ko := [4]}) [] [0, 1, 3, 4, 5, 6, 25, 30, 46, 51, 67] hLT hmix Tryz.func20 rfl rfl ⟨rfl, rfl⟩ (by show 2 ≤ 68; decide) (by first | exact Nat.zero_le _ | exact Nat.le_refl _ | exact Nat.le_succ 1 | decide) ?_
  repeat (first | refine And.intro (fun _ => ?_) (fun h => Bool.noConfusion h) | refine And.intro (fun h => Bool.noConfusion h) (fun _ => ?_))
  refine ⟨rfl, Nat.le_refl _, (c_drayref9_Audit_nil_0 ds os p).mono ?_⟩
  rintro x k ⟨⟨sz, hsz, rfl⟩, rfl⟩
  refine ⟨rfl, fun _ _ => rfl, rfl, ?_⟩
  repeat (first | refine And.intro (fun _ => ?_) (fun h => Bool.noConfusion h) | refine And.intro (fun h => Bool.noConfusion h) (fun _ => ?_))
  exact And.intro rfl rfl
theorem c_draylaw14_book_0 (n : Int) (l : List Int) (ds : List Drv) (os : List Ord) (p : Pln) : Tri Tryz.prog 19 0 [.agg (encW n l ds os p)] [] (fun x k => x = encB ds os p ∧ k = []) := by
  refine Tri.walk2 (L := LT) (c := {n := 10, kb := [2]}) [] [0, 1, 2] hLT hmix Tryz.func19 rfl rfl ⟨rfl, rfl⟩ (by show 1 ≤ 10; decide) (by first | exact Nat.zero_le _ | exact Nat.le_refl _ | exact Nat.le_succ 1 | decide) ?_
  repeat (first | refine And.intro (fun _ => ?_) (fun h => Bool.noConfusion h) | refine And.intro (fun h => Bool.noConfusion h) (fun _ => ?_))
  exact And.intro rfl rfl
theorem nrBL_Wo {n : Int} {l : List Int} {ds : List Drv} {os : List Ord} {p : Pln} : nrBL 0 [.agg (encW n l ds os p)] = true := by
  show ((true && (nrBLL 0 (l.map rowI) && nrBL 0 [encDs ds, encOs os, encP p])) && true) = true
  rw [nrBLL_I, nrBL_Dr (nrBL_O (nrBL_P rfl))]
  rfl
theorem nrB_Bk {ds : List Drv} {os : List Ord} {p : Pln} : nrB 0 (encB ds os p) = true := by
  show nrBL 0 [encDs ds, encOs os, encP p] = true
  rw [nrBL_Dr (nrBL_O (nrBL_P rfl))]
theorem c_draylaw14_book (n : Int) (l : List Int) (ds : List Drv) (os : List Ord) (p : Pln) {r : Nat} {sto : List Ob} (hr : r ≤ sto.length) : Tri Tryz.prog 19 r [.agg (encW n l ds os p)] sto (fun x k => x = encB ds os p ∧ k = sto) :=
  (c_draylaw14_book_0 n l ds os p).pure rfl nrBL_Wo rfl nrB_Bk hr
noncomputable def isTw (ds : List Drv) (os : List Ord) (p : Pln) (d : D) : Prop := ∃ sz, (sz = 0 ∨ sz = 3) ∧ d = .agg [.list (.own 6) (ds.map rowDr), .list (.own 10) (os.map rowO), .list (.own sz) (p.map rowR)]
theorem isTw_ok {ds : List Drv} {os : List Ord} {p : Pln} {d : D} (h : isTw ds os p d) : partsOK d = true ∧ nrB 0 d = true := by
  obtain ⟨sz, _, rfl⟩ := h
  refine ⟨rfl, ?_⟩
  show (nrBLL 0 (ds.map rowDr) && (nrBLL 0 (os.map rowO) && (nrBLL 0 (p.map rowR) && true))) = true
  rw [nrBLL_Dr, nrBLL_O, nrBLL_P]
  rfl
set_option maxHeartbeats 8000000 in
theorem c_draylaw14_twin_0 (ds : List Drv) (os : List Ord) (p : Pln) (hd : ds.length * 48 ≤ 140737488351232) (ho : os.length * 80 ≤ 140737488351232) (hp : szQ p) : Tri Tryz.prog 21 0 [encB ds os p] [] (fun x k => isTw ds os p x ∧ k = []) := by
  refine Tri.walk2 (L := LT) (c := {n := 15, kb := [2]}) [] [0, 1, 2] hLT hmix Tryz.func21 rfl rfl ⟨rfl, rfl⟩ (by show 1 ≤ 15; decide) (by first | exact Nat.zero_le _ | exact Nat.le_refl _ | exact Nat.le_succ 1 | decide) ?_
  have hl1 : allLen 6 (ds.map rowDr) = true := by simp [allLen, rowDr]
  have hl2 : allLen 10 (os.map rowO) = true := by simp [allLen, rowO]
  have hr1 : (0 + (ds.map rowDr).length) * 48 ≤ 140737488355328 := by rw [List.length_map]; omega
  have hr2 : (0 + (os.map rowO).length) * 80 ≤ 140737488355328 := by rw [List.length_map]; omega
  have hC := c_draykeep_Copy p hp (r := 0) (sto := []) (Nat.le_refl 0)
  repeat (first | refine And.intro (fun _ => ?_) (fun h => Bool.noConfusion h) | refine And.intro (fun h => Bool.noConfusion h) (fun _ => ?_))
  refine ⟨⟨4095, [0, 0, 2, 5, 0, 0, 32, 88, 0, 256, 640, 1160, 4095], [1, 2, 6, 15, 16, 32, 96, 255, 256, 768, 2047, 4095, 8191]⟩, by kernel_rfl, ?_⟩
  refine (fun (hrest : ∀ (sz : Nat), (sz = 0 ∨ sz = 3) → _) => by
    refine And.intro ?_ (And.intro ?_ trivial)
    · refine And.intro (by repeat (first | exact trivial | refine And.intro ⟨rfl, rfl⟩ ?_)) ?_
      refine And.intro ?_ (And.intro ?_ trivial)
      · refine And.intro trivial (And.intro rfl (And.intro hr1 (And.intro hl1 ?_)))
        refine And.intro (by repeat (first | exact trivial | refine And.intro ⟨rfl, rfl⟩ ?_)) ?_
        refine And.intro ?_ trivial
        refine And.intro (by repeat (first | exact trivial | refine And.intro ⟨rfl, rfl⟩ ?_)) ?_
        refine And.intro ?_ trivial
        refine And.intro trivial (And.intro rfl (And.intro hr2 (And.intro hl2 ?_)))
        refine And.intro (by repeat (first | exact trivial | refine And.intro ⟨rfl, rfl⟩ ?_)) ?_
        refine And.intro ?_ trivial
        refine ⟨rfl, Nat.le_refl _, hC.mono ?_⟩
        rintro x k ⟨⟨sz, rfl, hsz⟩, rfl⟩
        refine ⟨rfl, fun _ _ => rfl, rfl, ?_⟩
        refine And.intro (by repeat (first | exact trivial | refine And.intro ⟨rfl, rfl⟩ ?_)) ?_
        refine And.intro ?_ trivial
        refine And.intro (by repeat (first | exact trivial | refine And.intro ⟨rfl, rfl⟩ ?_)) ?_
        refine And.intro ?_ trivial
        refine And.intro (by repeat (first | exact trivial | refine And.intro ⟨rfl, rfl⟩ ?_)) ?_
        exact hrest sz hsz
      · refine And.intro (by repeat (first | exact trivial | refine And.intro ⟨rfl, rfl⟩ ?_)) ?_
        refine And.intro ?_ trivial
        refine And.intro trivial (And.intro rfl (And.intro hr1 (And.intro hl1 ?_)))
        refine And.intro (by repeat (first | exact trivial | refine And.intro ⟨rfl, rfl⟩ ?_)) ?_
        refine And.intro ?_ trivial
        refine And.intro trivial (And.intro rfl (And.intro hr2 (And.intro hl2 ?_)))
        refine And.intro (by repeat (first | exact trivial | refine And.intro ⟨rfl, rfl⟩ ?_)) ?_
        refine And.intro ?_ trivial
        refine ⟨rfl, Nat.le_refl _, hC.mono ?_⟩
        rintro x k ⟨⟨sz, rfl, hsz⟩, rfl⟩
        refine ⟨rfl, fun _ _ => rfl, rfl, ?_⟩
        refine And.intro (by repeat (first | exact trivial | refine And.intro ⟨rfl, rfl⟩ ?_)) ?_
        refine And.intro ?_ trivial
        refine And.intro (by repeat (first | exact trivial | refine And.intro ⟨rfl, rfl⟩ ?_)) ?_
        refine And.intro ?_ trivial
        refine And.intro (by repeat (first | exact trivial | refine And.intro ⟨rfl, rfl⟩ ?_)) ?_
        exact hrest sz hsz
    · refine And.intro (by repeat (first | exact trivial | refine And.intro ⟨rfl, rfl⟩ ?_)) ?_
      refine And.intro ?_ trivial
      refine And.intro (by repeat (first | exact trivial | refine And.intro ⟨rfl, rfl⟩ ?_)) ?_
      refine And.intro ?_ trivial
      refine And.intro trivial (And.intro rfl (And.intro hr1 (And.intro hl1 ?_)))
      refine And.intro (by repeat (first | exact trivial | refine And.intro ⟨rfl, rfl⟩ ?_)) ?_
      refine And.intro ?_ trivial
      refine And.intro trivial (And.intro rfl (And.intro hr2 (And.intro hl2 ?_)))
      refine And.intro (by repeat (first | exact trivial | refine And.intro ⟨rfl, rfl⟩ ?_)) ?_
      refine And.intro ?_ trivial
      refine ⟨rfl, Nat.le_refl _, hC.mono ?_⟩
      rintro x k ⟨⟨sz, rfl, hsz⟩, rfl⟩
      refine ⟨rfl, fun _ _ => rfl, rfl, ?_⟩
      refine And.intro (by repeat (first | exact trivial | refine And.intro ⟨rfl, rfl⟩ ?_)) ?_
      refine And.intro ?_ trivial
      refine And.intro (by repeat (first | exact trivial | refine And.intro ⟨rfl, rfl⟩ ?_)) ?_
      refine And.intro ?_ trivial
      refine And.intro (by repeat (first | exact trivial | refine And.intro ⟨rfl, rfl⟩ ?_)) ?_
      exact hrest sz hsz) ?_
  intro sz hsz
  exact And.intro ⟨sz, hsz, rfl⟩ rfl
theorem c_draylaw14_twin (ds : List Drv) (os : List Ord) (p : Pln) (hd : ds.length * 48 ≤ 140737488351232) (ho : os.length * 80 ≤ 140737488351232) (hp : szQ p) {r : Nat} {sto : List Ob} (hr : r ≤ sto.length) : Tri Tryz.prog 21 r [encB ds os p] sto (fun x k => isTw ds os p x ∧ k = sto) :=
  (c_draylaw14_twin_0 ds os p hd ho hp).pureR rfl nrBL_Bk (fun d h => isTw_ok h) hr
end Go.Lv

namespace Go.Lv
open Go.Proofs

theorem tRunsR {r : Nat} {sto : List Ob} (hr : r ≤ sto.length) : Tri Tryz.prog 3 r [] sto (fun d l => d = .bool true ∧ l = sto) :=
  tRuns.pureR rfl rfl (fun d h => by subst h; exact ⟨rfl, rfl⟩) hr
set_option maxHeartbeats 8000000 in
theorem l_Right (n : Int) (l : List Int) (hl : l.length ≤ 1000000000000000) (ds : List Drv) (os : List Ord) (p : Pln) (hz : szW ds os p) : Tri Tryz.prog 4 0 [.agg (encW n l ds os p)] [] (fun d _ => d = .bool true) := by
  refine Tri.walk2 (L := LT) (c := {n := 28, ko := [2]}) [] [0, 1, 2, 3, 4, 5] hLT hmix Tryz.func4 rfl rfl ⟨rfl, rfl⟩ (by show 1 ≤ 28; decide) (by first | exact Nat.zero_le _ | exact Nat.le_refl _ | exact Nat.le_succ 1 | decide) ?_
  refine ⟨rfl, Nat.le_refl _, (c_draykeep_Maps_0 n l hl ds os p).mono ?_⟩
  rintro d k (⟨rfl, rfl⟩ | ⟨hm, rfl, rfl⟩)
  · refine ⟨rfl, fun k hk => absurd hk (Nat.not_lt_zero k), rfl, ?_⟩
    repeat (first | refine And.intro (fun _ => ?_) (fun h => Bool.noConfusion h) | refine And.intro (fun h => Bool.noConfusion h) (fun _ => ?_))
    refine ⟨⟨131071, [0, 1, 2, 2, 10, 22, 2, 2, 162, 258, 578, 1058, 2050, 5120, 8192, 24576, 65535], [1, 3, 7, 11, 27, 63, 67, 131, 447, 959, 2047, 4095, 8191, 16383, 32767, 65535, 131071]⟩, by kernel_rfl, ?_⟩
    repeat (first | refine And.intro (fun _ => ?_) (fun h => Bool.noConfusion h) | refine And.intro (fun h => Bool.noConfusion h) (fun _ => ?_))
    refine And.intro ?_ trivial
    refine ⟨rfl, (by first | exact Nat.zero_le _ | exact Nat.le_refl _ | exact Nat.le_succ 1 | decide), (c_draylaw14_book_0 n l ds os p).mono ?_⟩
    rintro d l ⟨rfl, rfl⟩
    refine ⟨rfl, fun _ _ => rfl, rfl, ?_⟩
    refine And.intro (by repeat (first | exact trivial | refine And.intro ⟨rfl, rfl⟩ ?_)) ?_
    refine And.intro ?_ trivial
    refine ⟨rfl, (by first | exact Nat.zero_le _ | exact Nat.le_refl _ | exact Nat.le_succ 1 | decide), (c_planner_Right_nil_0 ds os p).mono ?_⟩
    rintro d l ⟨rfl, rfl⟩
    refine ⟨rfl, fun _ _ => rfl, rfl, ?_⟩
    refine And.intro (by repeat (first | exact trivial | refine And.intro ⟨rfl, rfl⟩ ?_)) ?_
    refine And.intro ?_ trivial
    refine ⟨rfl, (by first | exact Nat.zero_le _ | exact Nat.le_refl _ | exact Nat.le_succ 1 | decide), (c_draylaw14_book_0 n l ds os p).mono ?_⟩
    rintro d l ⟨rfl, rfl⟩
    refine ⟨rfl, fun _ _ => rfl, rfl, ?_⟩
    refine And.intro (by repeat (first | exact trivial | refine And.intro ⟨rfl, rfl⟩ ?_)) ?_
    refine And.intro ?_ trivial
    refine ⟨rfl, Nat.le_refl _, (c_draylaw14_twin_0 ds os p hz.d hz.o hz.p).mono ?_⟩
    rintro x k ⟨⟨sz, hsz, rfl⟩, rfl⟩
    refine ⟨rfl, fun _ _ => rfl, rfl, ?_⟩
    refine And.intro (by repeat (first | exact trivial | refine And.intro ⟨rfl, rfl⟩ ?_)) ?_
    refine And.intro ?_ trivial
    refine ⟨rfl, (by first | exact Nat.zero_le _ | exact Nat.le_refl _ | exact Nat.le_succ 1 | decide), (c_drayref14_Right_nil_0 ds os p).mono ?_⟩
    rintro d l ⟨rfl, rfl⟩
    refine ⟨rfl, fun _ _ => rfl, rfl, ?_⟩
    refine And.intro (by repeat (first | exact trivial | refine And.intro ⟨rfl, rfl⟩ ?_)) ?_
    repeat (first | refine And.intro (fun _ => ?_) (fun h => Bool.noConfusion h) | refine And.intro (fun h => Bool.noConfusion h) (fun _ => ?_))
    refine And.intro ?_ trivial
    refine ⟨rfl, (by first | exact Nat.zero_le _ | exact Nat.le_refl _ | exact Nat.le_succ 1 | decide), (tRunsR (r := 0) (sto := []) (Nat.le_refl 0)).mono ?_⟩
    rintro d l ⟨rfl, rfl⟩
    refine ⟨rfl, fun _ _ => rfl, rfl, ?_⟩
    refine And.intro (by repeat (first | exact trivial | refine And.intro ⟨rfl, rfl⟩ ?_)) ?_
    repeat (first | refine And.intro (fun _ => ?_) (fun h => Bool.noConfusion h) | refine And.intro (fun h => Bool.noConfusion h) (fun _ => ?_))
    refine And.intro ?_ trivial
    refine And.intro (by repeat (first | exact trivial | refine And.intro ⟨rfl, rfl⟩ ?_)) ?_
    exact rfl
  · refine ⟨rfl, fun k hk => absurd hk (Nat.not_lt_zero k), rfl, ?_⟩
    have h1 := c_planner_Right ⟨n, l⟩ hm ds os p (r := 2) (b := 0) (sto := [mbox ⟨n, l⟩, mbox ⟨n, l⟩]) (Nat.le_refl 2) rfl (by decide)
    have h2 := c_drayref14_Right ⟨n, l⟩ hm ds os p (r := 2) (b := 1) (sto := [mbox ⟨n, l⟩, mbox ⟨n, l⟩]) (Nat.le_refl 2) rfl (by decide)
    generalize rightB ⟨n, l⟩ ds os p = b at h1 h2
    repeat (first | refine And.intro (fun _ => ?_) (fun h => Bool.noConfusion h) | refine And.intro (fun h => Bool.noConfusion h) (fun _ => ?_))
    cases b
    all_goals
      refine ⟨⟨131071, [0, 1, 2, 2, 10, 22, 2, 2, 162, 258, 578, 1058, 2050, 5120, 8192, 24576, 65535], [1, 3, 7, 11, 27, 63, 67, 131, 447, 959, 2047, 4095, 8191, 16383, 32767, 65535, 131071]⟩, by kernel_rfl, ?_⟩
      repeat (first | refine And.intro (fun _ => ?_) (fun h => Bool.noConfusion h) | refine And.intro (fun h => Bool.noConfusion h) (fun _ => ?_))
      refine And.intro ?_ trivial
      refine ⟨rfl, (by first | exact Nat.zero_le _ | exact Nat.le_refl _ | exact Nat.le_succ 1 | decide), (c_draylaw14_book n l ds os p (r := 2) (sto := [mbox ⟨n, l⟩, mbox ⟨n, l⟩]) (Nat.le_refl 2)).mono ?_⟩
      rintro d l ⟨rfl, rfl⟩
      refine ⟨rfl, fun _ _ => rfl, rfl, ?_⟩
      refine And.intro (by repeat (first | exact trivial | refine And.intro ⟨rfl, rfl⟩ ?_)) ?_
      refine And.intro ?_ trivial
      refine ⟨rfl, (by first | exact Nat.zero_le _ | exact Nat.le_refl _ | exact Nat.le_succ 1 | decide), (h1).mono ?_⟩
      rintro d l ⟨rfl, rfl⟩
      refine ⟨rfl, fun _ _ => rfl, rfl, ?_⟩
      refine And.intro (by repeat (first | exact trivial | refine And.intro ⟨rfl, rfl⟩ ?_)) ?_
      refine And.intro ?_ trivial
      refine ⟨rfl, (by first | exact Nat.zero_le _ | exact Nat.le_refl _ | exact Nat.le_succ 1 | decide), (c_draylaw14_book n l ds os p (r := 2) (sto := [mbox ⟨n, l⟩, mbox ⟨n, l⟩]) (Nat.le_refl 2)).mono ?_⟩
      rintro d l ⟨rfl, rfl⟩
      refine ⟨rfl, fun _ _ => rfl, rfl, ?_⟩
      refine And.intro (by repeat (first | exact trivial | refine And.intro ⟨rfl, rfl⟩ ?_)) ?_
      refine And.intro ?_ trivial
      refine ⟨rfl, Nat.zero_le _, (c_draylaw14_twin ds os p hz.d hz.o hz.p (r := 2) (sto := [mbox ⟨n, l⟩, mbox ⟨n, l⟩]) (Nat.le_refl 2)).mono ?_⟩
      rintro x k ⟨⟨sz, hsz, rfl⟩, rfl⟩
      refine ⟨rfl, fun _ _ => rfl, rfl, ?_⟩
      refine And.intro (by repeat (first | exact trivial | refine And.intro ⟨rfl, rfl⟩ ?_)) ?_
      refine And.intro ?_ trivial
      refine ⟨rfl, (by first | exact Nat.zero_le _ | exact Nat.le_refl _ | exact Nat.le_succ 1 | decide), (h2).mono ?_⟩
      rintro d l ⟨rfl, rfl⟩
      refine ⟨rfl, fun _ _ => rfl, rfl, ?_⟩
      refine And.intro (by repeat (first | exact trivial | refine And.intro ⟨rfl, rfl⟩ ?_)) ?_
      repeat (first | refine And.intro (fun _ => ?_) (fun h => Bool.noConfusion h) | refine And.intro (fun h => Bool.noConfusion h) (fun _ => ?_))
      refine And.intro ?_ trivial
      refine ⟨rfl, (by first | exact Nat.zero_le _ | exact Nat.le_refl _ | exact Nat.le_succ 1 | decide), (tRunsR (r := 2) (sto := [mbox ⟨n, l⟩, mbox ⟨n, l⟩]) (Nat.le_refl 2)).mono ?_⟩
      rintro d l ⟨rfl, rfl⟩
      refine ⟨rfl, fun _ _ => rfl, rfl, ?_⟩
      refine And.intro (by repeat (first | exact trivial | refine And.intro ⟨rfl, rfl⟩ ?_)) ?_
      repeat (first | refine And.intro (fun _ => ?_) (fun h => Bool.noConfusion h) | refine And.intro (fun h => Bool.noConfusion h) (fun _ => ?_))
      refine And.intro ?_ trivial
      refine And.intro (by repeat (first | exact trivial | refine And.intro ⟨rfl, rfl⟩ ?_)) ?_
      exact rfl
end Go.Lv
