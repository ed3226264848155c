/-
  Part 1 of the texts under the proof: an abstract run of loaded code on data, and what the functions do. No condition.
-/
import Derived.Test.YtbddalnnhelinaaM17
set_option linter.all false
set_option maxRecDepth 100000
namespace Go.Lv
open Go.Proofs

noncomputable def driveR (m : Mp) (d : Drv) (os : List Ord) (st : List Stp) : List Vis × Int × Int := if fitD m d os st then timed m d os st else ([], 0, 1)
noncomputable def costD (m : Mp) (d : Drv) (os : List Ord) (st : List Stp) : D := if (driveR m d os st).2.2 = 0 then .tup [.int .i64 (wayP m d os st), .bool true] else .tup [.int .i64 0, .bool false]
end Go.Lv

namespace Go.Lv
open Go.Proofs

end Go.Lv

namespace Go.Lv
open Go.Proofs

end Go.Lv

namespace Go.Lv
open Go.Proofs

end Go.Lv

namespace Go.Lv
open Go.Proofs

set_option maxHeartbeats 4000000 in
theorem c_route_Fit_0 (m : Mp) (hm : okMp m) (d : Drv) (os : List Ord) (st : List Stp) : Tri Try.prog 56 1 [.gptr 0 0, .agg (rowDr d), encOs os, .list .imm (st.map rowS)] [mbox m] (fun x k => x = .bool (decide (fitD m d os st)) ∧ k = [mbox m]) := by
  refine Tri.walk2 (L := LT) (c := {n := 23, ko := [8]}) [] [0, 1, 2, 3, 5, 8] hLT hmix Try.func56 rfl rfl ⟨rfl, rfl⟩ (by show 4 ≤ 23; decide) (by first | exact Nat.zero_le _ | exact Nat.le_refl _ | exact Nat.le_succ 1 | decide) ?_
  refine ⟨rfl, (by first | exact Nat.zero_le _ | exact Nat.le_refl _ | exact Nat.le_succ 1 | decide), (c_deal_Driver m hm d (r := 1) (sto := [mbox m]) (Nat.le_refl 1) rfl (Nat.lt_succ_self 0)).mono ?_⟩
  rintro d l ⟨rfl, rfl⟩
  refine ⟨rfl, fun _ _ => rfl, rfl, ?_⟩
  refine And.intro (fun h1 => ?_) (fun h1 => ?_)
  · have h1 : errD m.n d = 0 := of_decide_eq_true h1
    repeat (first | refine And.intro (fun _ => ?_) (fun h => Bool.noConfusion h) | refine And.intro (fun h => Bool.noConfusion h) (fun _ => ?_))
    refine ⟨rfl, (by first | exact Nat.zero_le _ | exact Nat.le_refl _ | exact Nat.le_succ 1 | decide), (c_deal_Known m hm os (r := 1) (sto := [mbox m]) (Nat.le_refl 1) rfl (Nat.lt_succ_self 0)).mono ?_⟩
    rintro d l ⟨rfl, rfl⟩
    refine ⟨rfl, fun _ _ => rfl, rfl, ?_⟩
    cases h2 : decide (okOs m.n os) with
    | false =>
      repeat (first | refine And.intro (fun _ => ?_) (fun h => Bool.noConfusion h) | refine And.intro (fun h => Bool.noConfusion h) (fun _ => ?_))
      rw [decide_eq_false (show ¬ fitD m d os st from fun h => of_decide_eq_false h2 h.2.1)]
      exact And.intro rfl rfl
    | true =>
      repeat (first | refine And.intro (fun _ => ?_) (fun h => Bool.noConfusion h) | refine And.intro (fun h => Bool.noConfusion h) (fun _ => ?_))
      refine And.intro (fun h3 => ?_) (fun h3 => ?_)
      · have h3 : ((st.map rowS).length : Int) ≤ 80 := of_decide_eq_true h3
        rw [List.length_map] at h3
        rw [decide_eq_true (show fitD m d os st from ⟨h1, of_decide_eq_true h2, by omega⟩)]
        exact And.intro rfl rfl
      · have h3 : ¬ ((st.map rowS).length : Int) ≤ 80 := of_decide_eq_false h3
        rw [List.length_map] at h3
        rw [decide_eq_false (show ¬ fitD m d os st from fun h => by have := h.2.2; omega)]
        exact And.intro rfl rfl
  · have h1 : ¬ errD m.n d = 0 := of_decide_eq_false h1
    repeat (first | refine And.intro (fun _ => ?_) (fun h => Bool.noConfusion h) | refine And.intro (fun h => Bool.noConfusion h) (fun _ => ?_))
    rw [decide_eq_false (show ¬ fitD m d os st from fun h => h1 h.1)]
    exact And.intro rfl rfl
theorem c_route_Fit (m : Mp) (hm : okMp m) (d : Drv) (os : List Ord) (st : List Stp) {r b : Nat} {sto : List Ob} (hr : r ≤ sto.length) (hb : sto[b]? = some (mbox m)) (hbr : b < r) : Tri Try.prog 56 r [.gptr b 0, .agg (rowDr d), encOs os, .list .imm (st.map rowS)] sto (fun x k => x = .bool (decide (fitD m d os st)) ∧ k = sto) :=
  (c_route_Fit_0 m hm d os st).boxRO (nr_mcs m) rfl (nrBL_O (nrBL_S rfl)) (fun x h => by subst h; exact ⟨rfl, rfl⟩) hr hb hbr
set_option maxHeartbeats 4000000 in
theorem c_route_Drive_0 (m : Mp) (hm : okMp m) (d : Drv) (os : List Ord) (st : List Stp) : Tri Try.prog 34 1 [.gptr 0 0, .agg (rowDr d), encOs os, .list .imm (st.map rowS)] [mbox m] (fun x k => isDrv (driveR m d os st) x ∧ k = [mbox m]) := by
  refine Tri.walk2 (L := LT) (c := {n := 24, ko := [8], kb := [9]}) [] [0, 1, 2, 3, 5, 8, 9, 15] hLT hmix Try.func34 rfl rfl ⟨rfl, rfl⟩ (by show 4 ≤ 24; decide) (by first | exact Nat.zero_le _ | exact Nat.le_refl _ | exact Nat.le_succ 1 | decide) ?_
  refine ⟨rfl, (by first | exact Nat.zero_le _ | exact Nat.le_refl _ | exact Nat.le_succ 1 | decide), (c_route_Fit m hm d os st (r := 1) (sto := [mbox m]) (Nat.le_refl 1) rfl (Nat.lt_succ_self 0)).mono ?_⟩
  rintro d l ⟨rfl, rfl⟩
  refine ⟨rfl, fun _ _ => rfl, rfl, ?_⟩
  unfold driveR
  cases h1 : decide (fitD m d os st) with
  | false =>
    repeat (first | refine And.intro (fun _ => ?_) (fun h => Bool.noConfusion h) | refine And.intro (fun h => Bool.noConfusion h) (fun _ => ?_))
    rw [if_neg (of_decide_eq_false h1)]
    exact And.intro ⟨0, .inl rfl, rfl⟩ rfl
  | true =>
    repeat (first | refine And.intro (fun _ => ?_) (fun h => Bool.noConfusion h) | refine And.intro (fun h => Bool.noConfusion h) (fun _ => ?_))
    have h1 := of_decide_eq_true h1
    rw [if_pos h1]
    refine ⟨rfl, Nat.le_refl _, (c_route_Timed m hm d h1.1 os h1.2.1 st h1.2.2 (r := 1) (sto := [mbox m]) (Nat.le_refl 1) rfl (Nat.lt_succ_self 0)).mono ?_⟩
    rintro x l ⟨⟨sz, hsz, rfl⟩, rfl⟩
    refine ⟨rfl, fun _ _ => rfl, rfl, ?_⟩
    exact And.intro ⟨sz, hsz, rfl⟩ rfl
theorem c_route_Drive (m : Mp) (hm : okMp m) (d : Drv) (os : List Ord) (st : List Stp) {r b : Nat} {sto : List Ob} (hr : r ≤ sto.length) (hb : sto[b]? = some (mbox m)) (hbr : b < r) : Tri Try.prog 34 r [.gptr b 0, .agg (rowDr d), encOs os, .list .imm (st.map rowS)] sto (fun x k => isDrv (driveR m d os st) x ∧ k = sto) :=
  (c_route_Drive_0 m hm d os st).boxRO (nr_mcs m) rfl (nrBL_O (nrBL_S rfl)) (fun x h => isDrv_ok h) hr hb hbr
set_option maxHeartbeats 4000000 in
theorem c_route_Cost_0 (m : Mp) (hm : okMp m) (d : Drv) (os : List Ord) (st : List Stp) : Tri Try.prog 19 1 [.gptr 0 0, .agg (rowDr d), encOs os, .list .imm (st.map rowS)] [mbox m] (fun x k => x = costD m d os st ∧ k = [mbox m]) := by
  refine Tri.walk2 (L := LT) (c := {n := 28, ko := [8, 9], xf := [12]}) [] [0, 1, 2, 3, 5, 8, 9, 11, 22] hLT hmix Try.func19 rfl rfl ⟨rfl, rfl⟩ (by show 4 ≤ 28; decide) (by first | exact Nat.zero_le _ | exact Nat.le_refl _ | exact Nat.le_succ 1 | decide) ?_
  unfold costD
  have hfit : (driveR m d os st).2.2 = 0 → fitD m d os st := by
    unfold driveR
    split
    · exact fun _ => by assumption
    · exact fun h => absurd h (by show ¬ (1 : Int) = 0; decide)
  generalize hx : driveR m d os st = x at hfit ⊢
  obtain ⟨vs, a, e⟩ := x
  have hdv := c_route_Drive m hm d os st (r := 1) (sto := [mbox m]) (Nat.le_refl 1) rfl (Nat.lt_succ_self 0)
  rw [hx] at hdv
  refine ⟨rfl, Nat.le_refl _, hdv.mono ?_⟩
  rintro x l ⟨⟨sz, hsz, rfl⟩, rfl⟩
  refine ⟨rfl, fun _ _ => rfl, rfl, ?_⟩
  refine ⟨rfl, (by first | exact Nat.zero_le _ | exact Nat.le_refl _ | exact Nat.le_succ 1 | decide), (c_api_Good a e (r := 1) (sto := [mbox m]) (Nat.le_refl 1)).mono ?_⟩
  rintro d l ⟨rfl, rfl⟩
  refine ⟨rfl, fun _ _ => rfl, rfl, ?_⟩
  cases h1 : decide (e = 0) with
  | false =>
    repeat (first | refine And.intro (fun _ => ?_) (fun h => Bool.noConfusion h) | refine And.intro (fun h => Bool.noConfusion h) (fun _ => ?_))
    rw [if_neg (show ¬ e = 0 from of_decide_eq_false h1)]
    exact And.intro rfl rfl
  | true =>
    repeat (first | refine And.intro (fun _ => ?_) (fun h => Bool.noConfusion h) | refine And.intro (fun h => Bool.noConfusion h) (fun _ => ?_))
    have h1 : e = 0 := of_decide_eq_true h1
    have hf := hfit h1
    rw [if_pos h1]
    refine ⟨rfl, (by first | exact Nat.zero_le _ | exact Nat.le_refl _ | exact Nat.le_succ 1 | decide), (c_route_Way m hm d os (by have := hf.2.1.1; omega) st hf.2.2 (r := 1) (sto := [mbox m]) (Nat.le_refl 1) rfl (Nat.lt_succ_self 0)).mono ?_⟩
    rintro d l ⟨rfl, rfl⟩
    refine ⟨rfl, fun _ _ => rfl, rfl, ?_⟩
    exact And.intro rfl rfl
theorem costD_ok (m : Mp) (d : Drv) (os : List Ord) (st : List Stp) : partsOK (costD m d os st) = true ∧ nrB 0 (costD m d os st) = true := by
  unfold costD
  split <;> exact ⟨rfl, rfl⟩
theorem c_route_Cost (m : Mp) (hm : okMp m) (d : Drv) (os : List Ord) (st : List Stp) {r b : Nat} {sto : List Ob} (hr : r ≤ sto.length) (hb : sto[b]? = some (mbox m)) (hbr : b < r) : Tri Try.prog 19 r [.gptr b 0, .agg (rowDr d), encOs os, .list .imm (st.map rowS)] sto (fun x k => x = costD m d os st ∧ k = sto) :=
  (c_route_Cost_0 m hm d os st).boxRO (nr_mcs m) rfl (nrBL_O (nrBL_S rfl)) (fun x h => by subst h; exact costD_ok m d os st) hr hb hbr
end Go.Lv

namespace Go.Lv
open Go.Proofs

end Go.Lv

namespace Go.Lv
open Go.Proofs

end Go.Lv

namespace Go.Lv
open Go.Proofs

theorem goMk_ok {m : Mp} {ds : List Drv} {os : List Ord} : ∀ {p : Pln} {i : Nat} {c : List (List Vis)}, (goMk m ds os i c p).2.2 = 0 → ∀ r, r ∈ p → ∃ d, findDr r.drv ds = some d ∧ (timed m d os r.st).2.2 = 0
  | [], _, _, _, r, hr => by cases hr
  | x :: p, i, c, h, r, hr => by
    unfold goMk at h
    cases hf : findDr x.drv ds with
    | none =>
      rw [hf] at h
      exact absurd h (by show ¬ (8 : Int) = 0; decide)
    | some d =>
      rw [hf] at h
      replace h : (if (timed m d os x.st).2.2 ≠ 0 then (([], (i : Int), (timed m d os x.st).2.2) : List (List Vis) × Int × Int) else goMk m ds os (i + 1) (c ++ [(timed m d os x.st).1]) p).2.2 = 0 := h
      split at h
      · rename_i h1
        exact absurd h h1
      · rename_i h1
        rcases List.mem_cons.1 hr with rfl | hr
        · exact ⟨d, hf, Decidable.of_not_not h1⟩
        · exact goMk_ok h r hr
theorem makeR_ok {m : Mp} {ds : List Drv} {os : List Ord} {p : Pln} (h : (makeR m ds os p).2.2 = 0) : togO m ds os p ∧ ∀ r, r ∈ p → ∃ d, findDr r.drv ds = some d ∧ d ∈ ds ∧ (timed m d os r.st).2.2 = 0 ∧ (driveR m d os r.st).2.2 = 0 := by
  have ht := makeR_tog h
  refine ⟨ht, fun r hr => ?_⟩
  unfold makeR at h
  rw [if_pos ht] at h
  obtain ⟨d, hd, h1⟩ := goMk_ok h r hr
  have hm := (findDr_mem hd).1
  refine ⟨d, hd, hm, h1, ?_⟩
  unfold driveR
  rw [if_pos ⟨ht.2.2.2.1 d hm, ht.2.1, ((rightP_st ht.2.2.1).2 r hr).1⟩]
  exact h1
set_option maxHeartbeats 4000000 in
theorem c_cert_Together_nil_0 (ds : List Drv) (os : List Ord) (p : Pln) : Tri Try.prog 31 0 [.nil, encDs ds, encOs os, encP p] [] (fun x k => x = .bool false ∧ k = []) := by
  refine Tri.walk2 (L := LT) (c := {n := 55, ko := [8]}) [] [0, 1, 2, 3, 8, 9, 10, 12, 30, 31, 32, 33, 34, 53] hLT hmix Try.func31 rfl rfl ⟨rfl, rfl⟩ (by show 4 ≤ 55; decide) (by first | exact Nat.zero_le _ | exact Nat.le_refl _ | exact Nat.le_succ 1 | decide) ?_
  repeat (first | refine And.intro (fun _ => ?_) (fun h => Bool.noConfusion h) | refine And.intro (fun h => Bool.noConfusion h) (fun _ => ?_))
  exact And.intro rfl rfl
set_option maxHeartbeats 4000000 in
theorem c_cert_Make_nil_0 (ds : List Drv) (os : List Ord) (p : Pln) : Tri Try.prog 17 0 [.nil, encDs ds, encOs os, encP p] [] (fun x k => x = .tup [.list (.own 0) [], fltD 0 1] ∧ k = []) := by
  refine Tri.walk2 (L := LT) (c := {n := 65, ko := [8, 10], kb := [9], xf := [42, 58, 63]}) [] [0, 1, 2, 3, 8, 9, 10, 11, 12, 13, 14, 15, 16, 22, 24, 25, 26, 27, 39, 53] hLT hmix Try.func17 rfl rfl ⟨rfl, rfl⟩ (by show 4 ≤ 65; decide) (by first | exact Nat.zero_le _ | exact Nat.le_refl _ | exact Nat.le_succ 1 | decide) ?_
  refine ⟨rfl, (by first | exact Nat.zero_le _ | exact Nat.le_refl _ | exact Nat.le_succ 1 | decide), (c_cert_Together_nil_0 ds os p).mono ?_⟩
  rintro d l ⟨rfl, rfl⟩
  refine ⟨rfl, fun _ _ => rfl, rfl, ?_⟩
  repeat (first | refine And.intro (fun _ => ?_) (fun h => Bool.noConfusion h) | refine And.intro (fun h => Bool.noConfusion h) (fun _ => ?_))
  exact And.intro rfl rfl
set_option maxHeartbeats 4000000 in
theorem c_repair_Total_nil_0 (ds : List Drv) (os : List Ord) (p : Pln) : Tri Try.prog 9 0 [.nil, encDs ds, encOs os, encP p] [] (fun x k => x = .tup [.int .i64 0, .bool false] ∧ k = []) := by
  refine Tri.walk2 (L := LT) (c := {n := 28, ko := [8, 9]}) [] [0, 1, 2, 3, 8, 9, 11, 22] hLT hmix Try.func9 rfl rfl ⟨rfl, rfl⟩ (by show 4 ≤ 28; decide) (by first | exact Nat.zero_le _ | exact Nat.le_refl _ | exact Nat.le_succ 1 | decide) ?_
  refine ⟨rfl, (by first | exact Nat.zero_le _ | exact Nat.le_refl _ | exact Nat.le_succ 1 | decide), (c_cert_Make_nil_0 ds os p).mono ?_⟩
  rintro d l ⟨rfl, rfl⟩
  refine ⟨rfl, fun _ _ => rfl, rfl, ?_⟩
  refine ⟨rfl, (by first | exact Nat.zero_le _ | exact Nat.le_refl _ | exact Nat.le_succ 1 | decide), (c_api_Good 0 1 (r := 0) (sto := []) (Nat.le_refl 0)).mono ?_⟩
  rintro d l ⟨rfl, rfl⟩
  refine ⟨rfl, fun _ _ => rfl, rfl, ?_⟩
  repeat (first | refine And.intro (fun _ => ?_) (fun h => Bool.noConfusion h) | refine And.intro (fun h => Bool.noConfusion h) (fun _ => ?_))
  exact And.intro rfl rfl
theorem c_repair_Total_nil (ds : List Drv) (os : List Ord) (p : Pln) {r : Nat} {sto : List Ob} (hr : r ≤ sto.length) : Tri Try.prog 9 r [.nil, encDs ds, encOs os, encP p] sto (fun x k => x = .tup [.int .i64 0, .bool false] ∧ k = sto) :=
  (c_repair_Total_nil_0 ds os p).pure rfl (nrBL_Dr (nrBL_O (nrBL_P rfl))) rfl rfl hr
theorem c_cert_Make_nil (ds : List Drv) (os : List Ord) (p : Pln) {r : Nat} {sto : List Ob} (hr : r ≤ sto.length) : Tri Try.prog 17 r [.nil, encDs ds, encOs os, encP p] sto (fun x k => x = .tup [.list (.own 0) [], fltD 0 1] ∧ k = sto) :=
  (c_cert_Make_nil_0 ds os p).pure rfl (nrBL_Dr (nrBL_O (nrBL_P rfl))) rfl rfl hr
end Go.Lv

namespace Go.Lv
open Go.Proofs

noncomputable def sdrayref4_New1 (n : Int) (l : List Int) (i : Nat) : DS := ⟨[(0, .int .i64 n), (1, .list .imm (l.map rowI)), (4, .nil), (5, .int .i64 0), (6, .int .i64 (i : Int))], [], [], mR 0⟩
noncomputable def sdrayref4_New2 (n : Int) (l : List Int) (i : Nat) : DS := ⟨[(0, .int .i64 n), (1, .list .imm (l.map rowI)), (4, .nil), (5, .int .i64 0), (7, .int .i64 (i : Int))], [], [], mR 0⟩
set_option maxHeartbeats 8000000 in
theorem c_drayref4_New_0 (n : Int) (l : List Int) (hl : l.length ≤ 1000000000000000) : Tri Try.prog 27 0 [.int .i64 n, .list .imm (l.map rowI)] [] (fun d k => isNew n l 0 [] d k) := by
  refine Tri.walk2 (L := LT) (c := {n := 58, gl := [57], ko := [4, 5]}) [] [0, 1, 4, 5, 6, 7, 13, 19, 23, 37, 40, 51] hLT hmix Try.func27 rfl rfl ⟨rfl, rfl⟩ (by show 2 ≤ 58; decide) (by first | exact Nat.zero_le _ | exact Nat.le_refl _ | exact Nat.le_succ 1 | decide) ?_
  refine And.intro (fun h0 => ?_) (fun h0 => ?_)
  · have h0 : n < 1 := of_decide_eq_true h0
    repeat (first | refine And.intro (fun _ => ?_) (fun h => Bool.noConfusion h) | refine And.intro (fun h => Bool.noConfusion h) (fun _ => ?_))
    exact isNew_no (show newE n l = 1 by unfold newE; rw [if_pos (.inl h0)]) (by decide)
  have h0 : ¬ n < 1 := of_decide_eq_false h0
  repeat (first | refine And.intro (fun _ => ?_) (fun h => Bool.noConfusion h) | refine And.intro (fun h => Bool.noConfusion h) (fun _ => ?_))
  refine And.intro (fun h1 => ?_) (fun h1 => ?_)
  · have h1 : n > 12 := of_decide_eq_true h1
    repeat (first | refine And.intro (fun _ => ?_) (fun h => Bool.noConfusion h) | refine And.intro (fun h => Bool.noConfusion h) (fun _ => ?_))
    exact isNew_no (show newE n l = 1 by unfold newE; rw [if_pos (.inr h1)]) (by decide)
  have h1 : ¬ n > 12 := of_decide_eq_false h1
  repeat (first | refine And.intro (fun _ => ?_) (fun h => Bool.noConfusion h) | refine And.intro (fun h => Bool.noConfusion h) (fun _ => ?_))
  have hnn : n * n ≤ 12 * 12 := Int.mul_le_mul (by omega) (by omega) (by omega) (by decide)
  have hn0 : 0 ≤ n * n := Int.mul_nonneg (by omega) (by omega)
  have hwm : IntKind.i64.wrap (n * n) = n * n := wrap64 (by omega) (by omega)
  have hi0 : ¬ (n < 1 ∨ n > 12) := by omega
  refine And.intro (fun h2 => ?_) (fun h2 => ?_)
  · have h2 : ¬ ((l.map rowI).length : Int) = IntKind.i64.wrap (n * n) := nd_true h2
    rw [List.length_map, hwm] at h2
    exact isNew_no (show newE n l = 2 by unfold newE; rw [if_neg hi0, if_pos h2]) (by decide)
  have h2 : ((l.map rowI).length : Int) = IntKind.i64.wrap (n * n) := nd_false h2
  rw [List.length_map, hwm] at h2
  show Ok _ _ _ _ _
  refine Ok.loopN hLT hmix [] [0, 1, 4, 5, 6, 7, 13, 19, 23, 37, 40, 51] [0,1,4,5,6] [] (fun k s => ∃ i : Nat, k = l.length - i ∧ i ≤ l.length ∧ timesO (l.take i) ∧ s = sdrayref4_New1 n l i) (n := l.length) ⟨0, rfl, Nat.zero_le _, (fun t ht => by simp at ht), by unfold sdrayref4_New1; rfl⟩ ?_
  rintro k s ⟨i, rfl, hi, hti, rfl⟩
  refine And.intro (fun h3 => ?_) (fun h3 => ?_)
  · have h3 : ((i : Nat) : Int) < ((l.map rowI).length : Int) := of_decide_eq_true h3
    rw [List.length_map] at h3
    have hil : i < l.length := by omega
    have hw := wrap_succ (i := i) (n := l.length) hil hl
    refine ⟨(l).map rowI, rowI ((l)[i]'(by omega)), rfl, by omega, row_at' rowI (l) (by omega) (by omega), rfl, of_decide_eq_true rfl, ?_⟩
    refine And.intro (fun h4 => ?_) (fun h4 => ?_)
    · have h4 : l[i] < 0 := of_decide_eq_true h4
      repeat (first | refine And.intro (fun _ => ?_) (fun h => Bool.noConfusion h) | refine And.intro (fun h => Bool.noConfusion h) (fun _ => ?_))
      exact isNew_no (show newE n l = 7 by unfold newE; rw [if_neg hi0, if_neg (fun h => h h2), if_pos (fun h => by have := h l[i] (List.getElem_mem _); omega)]) (by decide)
    have h4 : ¬ l[i] < 0 := of_decide_eq_false h4
    repeat (first | refine And.intro (fun _ => ?_) (fun h => Bool.noConfusion h) | refine And.intro (fun h => Bool.noConfusion h) (fun _ => ?_))
    refine ⟨(l).map rowI, rowI ((l)[i]'(by omega)), rfl, by omega, row_at' rowI (l) (by omega) (by omega), rfl, of_decide_eq_true rfl, ?_⟩
    refine And.intro (fun h5 => ?_) (fun h5 => ?_)
    · have h5 : l[i] > 1000000 := of_decide_eq_true h5
      repeat (first | refine And.intro (fun _ => ?_) (fun h => Bool.noConfusion h) | refine And.intro (fun h => Bool.noConfusion h) (fun _ => ?_))
      exact isNew_no (show newE n l = 7 by unfold newE; rw [if_neg hi0, if_neg (fun h => h h2), if_pos (fun h => by have := h l[i] (List.getElem_mem _); omega)]) (by decide)
    have h5 : ¬ l[i] > 1000000 := of_decide_eq_false h5
    repeat (first | refine And.intro (fun _ => ?_) (fun h => Bool.noConfusion h) | refine And.intro (fun h => Bool.noConfusion h) (fun _ => ?_))
    refine ⟨l.length - (i + 1), by omega, i + 1, rfl, by omega, fun t ht => ?_, ?_⟩
    · rw [List.take_succ_eq_append_getElem hil] at ht
      rcases List.mem_append.1 ht with ht | ht
      · exact hti t ht
      · rw [List.mem_singleton.1 ht]
        omega
    · unfold sdrayref4_New1
      rw [← hw]
      rfl
  have h3 : ¬ ((i : Nat) : Int) < ((l.map rowI).length : Int) := of_decide_eq_false h3
  rw [List.length_map] at h3
  rw [List.take_of_length_le (by omega)] at hti
  show Ok _ _ _ _ _
  refine Ok.loopN hLT hmix [] [0, 1, 4, 5, 6, 7, 13, 19, 23, 37, 40, 51] [0,1,4,5,7] [] (fun k s => ∃ i : Nat, k = n.toNat - i ∧ i ≤ n.toNat ∧ diagO n l i ∧ s = sdrayref4_New2 n l i) (n := n.toNat) ⟨0, rfl, Nat.zero_le _, (fun a ha => absurd ha (Nat.not_lt_zero _)), rfl⟩ ?_
  rintro k s ⟨i, rfl, hi, hdi, rfl⟩
  refine And.intro (fun h3 => ?_) (fun h3 => ?_)
  · have h3 : ((i : Nat) : Int) < n := of_decide_eq_true h3
    have hw := wrap_succ (i := i) (n := n.toNat) (by omega) (by omega)
    obtain ⟨q1, q2⟩ := diag_idx (a := i) (by omega) (by omega) h3 h2
    refine ⟨(l).map rowI, rowI ((l)[i * n.toNat + i]'q2), rfl, by rw [q1]; exact Int.natCast_nonneg _, row_at' rowI l q1 q2, rfl, of_decide_eq_true rfl, ?_⟩
    have hgd : l.getD (i * n.toNat + i) 0 = l[i * n.toNat + i] := by rw [List.getD_eq_getElem?_getD, List.getElem?_eq_getElem q2]; rfl
    refine And.intro (fun h4 => ?_) (fun h4 => ?_)
    · have h4 := nd_true h4
      exact isNew_no (show newE n l = 4 by unfold newE; rw [if_neg hi0, if_neg (fun h => h h2), if_neg (fun h => h hti), if_pos (fun h => h4 (by rw [← hgd]; exact h i (by omega)))]) (by decide)
    have h4 := nd_false h4
    refine ⟨n.toNat - (i + 1), by omega, i + 1, rfl, by omega, fun a ha => ?_, ?_⟩
    · rcases Nat.lt_or_ge a i with h | h
      · exact hdi a h
      · rw [show a = i by omega, hgd]
        exact h4
    · unfold sdrayref4_New2
      rw [← hw]
      rfl
  have h3 : ¬ ((i : Nat) : Int) < n := of_decide_eq_false h3
  have hdn : diagO n l n.toNat := by rw [show n.toNat = i by omega]; exact hdi
  have hnew : newE n l = 0 := by unfold newE; rw [if_neg hi0, if_neg (fun h => h h2), if_neg (fun h => h hti), if_neg (fun h => h hdn)]
  have hok : okMp ⟨n, l⟩ := ⟨by show 1 ≤ n; omega, by show n ≤ 12; omega, h2, hti⟩
  have hrm : (0 + (l.map rowI).length) * 8 ≤ 140737488355328 := by rw [List.length_map]; omega
  have hal : allLen 1 (l.map rowI) = true := by simp [allLen, rowI]
  refine And.intro trivial (And.intro rfl (And.intro hrm (And.intro hal ?_)))
  exact .inl ⟨hnew, hok, rfl, rfl⟩
theorem c_drayref4_New (n : Int) (l : List Int) (hl : l.length ≤ 1000000000000000) {r : Nat} {sto : List Ob} (hr : r ≤ sto.length) : Tri Try.prog 27 r [.int .i64 n, .list .imm (l.map rowI)] sto (fun d k => isNew n l sto.length sto d k) :=
  (c_drayref4_New_0 n l hl).newAny rfl (by show (true && (nrBLL 0 (l.map rowI) && true)) = true; rw [nrBLL_I]; rfl) hr

end Go.Lv

namespace Go.Lv
open Go.Proofs

noncomputable def encW (n : Int) (l : List Int) (ds : List Drv) (os : List Ord) (p : Pln) : List D := [.int .i64 n, .list .imm (l.map rowI), encDs ds, encOs os, encP p]
noncomputable def isMaps (n : Int) (l : List Int) (d : D) (k : List Ob) : Prop := (d = .tup [.nil, .nil, .bool true] ∧ k = []) ∨ (okMp ⟨n, l⟩ ∧ d = .tup [.gptr 0 0, .gptr 1 0, .bool true] ∧ k = [mbox ⟨n, l⟩, mbox ⟨n, l⟩])
set_option maxHeartbeats 4000000 in
theorem c_draykeep_Maps_0 (n : Int) (l : List Int) (hl : l.length ≤ 1000000000000000) (ds : List Drv) (os : List Ord) (p : Pln) : Tri Try.prog 14 0 [.agg (encW n l ds os p)] [] (fun d k => isMaps n l d k) := by
  refine Tri.walk2 (L := LT) (c := {n := 37, ko := [2, 3, 4]}) [] [0, 1, 2, 3, 4, 5, 6, 7, 8] hLT hmix Try.func14 rfl rfl ⟨rfl, rfl⟩ (by show 1 ≤ 37; decide) (by first | exact Nat.zero_le _ | exact Nat.le_refl _ | exact Nat.le_succ 1 | decide) ?_
  have h1 := c_geo_New n l hl (r := 0) (sto := []) (Nat.le_refl 0)
  refine ⟨rfl, Nat.le_refl _, h1.mono ?_⟩
  rintro d k (⟨he, hm, rfl, rfl⟩ | ⟨he, rfl, rfl⟩)
  · refine ⟨rfl, fun k hk => absurd hk (Nat.not_lt_zero k), rfl, ?_⟩
    have h2 := c_drayref4_New n l hl (r := 1) (sto := [mbox ⟨n, l⟩]) (Nat.le_refl 1)
    refine ⟨rfl, Nat.zero_le _, h2.mono ?_⟩
    rintro d k (⟨_, _, rfl, rfl⟩ | ⟨he2, rfl, rfl⟩)
    · refine ⟨rfl, fun k hk => List.getElem?_append_left hk, rfl, ?_⟩
      repeat (first | refine And.intro (fun _ => ?_) (fun h => Bool.noConfusion h) | refine And.intro (fun h => Bool.noConfusion h) (fun _ => ?_))
      exact .inr ⟨hm, rfl, rfl⟩
    · exact absurd he he2
  · refine ⟨rfl, fun k hk => absurd hk (Nat.not_lt_zero k), rfl, ?_⟩
    have h2 := c_drayref4_New n l hl (r := 0) (sto := []) (Nat.zero_le _)
    refine ⟨rfl, Nat.le_refl _, h2.mono ?_⟩
    rintro d k (⟨he2, _, rfl, rfl⟩ | ⟨_, rfl, rfl⟩)
    · exact absurd he2 he
    · refine ⟨rfl, fun k hk => absurd hk (Nat.not_lt_zero k), rfl, ?_⟩
      refine And.intro (fun h3 => ?_) (fun h3 => ?_)
      · repeat (first | refine And.intro (fun _ => ?_) (fun h => Bool.noConfusion h) | refine And.intro (fun h => Bool.noConfusion h) (fun _ => ?_))
        exact .inl ⟨rfl, rfl⟩
      · exact absurd rfl (of_decide_eq_false h3)
end Go.Lv

namespace Go.Lv
open Go.Proofs

theorem okInts {n : Nat} {x : List D} (h : OkD LT (n + 2) 52 x) : ∃ l : List Int, x = [.list .imm (l.map rowI)] := by
  obtain ⟨xs, rfl, _, h⟩ := h
  have key : ∀ xs : List (List D), (∀ r, r ∈ xs → r.length = LT.size 3 ∧ OkD LT (n + 1) 3 r) → ∃ l : List Int, xs = l.map rowI := by
    intro xs
    induction xs with
    | nil => intro _; exact ⟨[], rfl⟩
    | cons x r ih =>
      intro h
      obtain ⟨s, rfl, _⟩ := (h x (by simp)).2
      obtain ⟨l, rfl⟩ := ih fun y hy => h y (by simp [hy])
      exact ⟨s :: l, rfl⟩
  obtain ⟨l, rfl⟩ := key xs h
  exact ⟨l, rfl⟩
theorem okWin {n : Nat} {x : List D} (h : OkD LT (n + 2) 27 x) : ∃ w : Win, x = rowW w := by
  obtain ⟨x1, y1, rfl, _, h1, x2, y2, rfl, _, h2, rfl⟩ := h
  obtain ⟨i1, rfl, _⟩ := h1
  obtain ⟨i2, rfl, _⟩ := h2
  exact ⟨⟨i1, i2⟩, rfl⟩
theorem okSit {n : Nat} {x : List D} (h : OkD LT (n + 3) 29 x) : ∃ s : Sit, x = rowSi s := by
  obtain ⟨x1, y1, rfl, _, h1, x2, y2, rfl, _, h2, x3, y3, rfl, _, h3, rfl⟩ := h
  obtain ⟨i1, rfl, _⟩ := h1
  obtain ⟨w, rfl⟩ := okWin h2
  obtain ⟨i3, rfl, _⟩ := h3
  exact ⟨⟨i1, w, i3⟩, rfl⟩
theorem okOrd {n : Nat} {x : List D} (h : OkD LT (n + 4) 31 x) : ∃ o : Ord, x = rowO o := by
  obtain ⟨x1, y1, rfl, _, h1, x2, y2, rfl, _, h2, x3, y3, rfl, _, h3, x4, y4, rfl, _, h4, rfl⟩ := h
  obtain ⟨i1, rfl, _⟩ := h1
  obtain ⟨i2, rfl, _⟩ := h2
  obtain ⟨a, rfl⟩ := okSit h3
  obtain ⟨b, rfl⟩ := okSit h4
  exact ⟨⟨i1, i2, a, b⟩, rfl⟩
theorem okDrv {n : Nat} {x : List D} (h : OkD LT (n + 3) 33 x) : ∃ d : Drv, x = rowDr d := by
  obtain ⟨x1, y1, rfl, _, h1, x2, y2, rfl, _, h2, x3, y3, rfl, _, h3, x4, y4, rfl, _, h4, x5, y5, rfl, _, h5, rfl⟩ := h
  obtain ⟨i1, rfl, _⟩ := h1
  obtain ⟨i2, rfl, _⟩ := h2
  obtain ⟨i3, rfl, _⟩ := h3
  obtain ⟨w, rfl⟩ := okWin h4
  obtain ⟨b, rfl⟩ := h5
  exact ⟨⟨i1, i2, i3, w, b⟩, rfl⟩
theorem okOrds {n : Nat} {x : List D} (h : OkD LT (n + 5) 35 x) : ∃ l : List Ord, x = [encOs l] := by
  obtain ⟨xs, rfl, _, h⟩ := h
  have key : ∀ xs : List (List D), (∀ r, r ∈ xs → r.length = LT.size 31 ∧ OkD LT (n + 4) 31 r) → ∃ l : List Ord, xs = l.map rowO := by
    intro xs
    induction xs with
    | nil => intro _; exact ⟨[], rfl⟩
    | cons x r ih =>
      intro h
      obtain ⟨s, rfl⟩ := okOrd (h x (by simp)).2
      obtain ⟨l, rfl⟩ := ih fun y hy => h y (by simp [hy])
      exact ⟨s :: l, rfl⟩
  obtain ⟨l, rfl⟩ := key xs h
  exact ⟨l, rfl⟩
theorem okDrvs {n : Nat} {x : List D} (h : OkD LT (n + 4) 34 x) : ∃ l : List Drv, x = [encDs l] := by
  obtain ⟨xs, rfl, _, h⟩ := h
  have key : ∀ xs : List (List D), (∀ r, r ∈ xs → r.length = LT.size 33 ∧ OkD LT (n + 3) 33 r) → ∃ l : List Drv, xs = l.map rowDr := by
    intro xs
    induction xs with
    | nil => intro _; exact ⟨[], rfl⟩
    | cons x r ih =>
      intro h
      obtain ⟨s, rfl⟩ := okDrv (h x (by simp)).2
      obtain ⟨l, rfl⟩ := ih fun y hy => h y (by simp [hy])
      exact ⟨s :: l, rfl⟩
  obtain ⟨l, rfl⟩ := key xs h
  exact ⟨l, rfl⟩
theorem okStopN {n : Nat} {x : List D} (h : OkD LT (n + 2) 37 x) : ∃ s : Stp, x = rowS s := by
  obtain ⟨x1, y1, rfl, _, h1, x2, y2, rfl, _, h2, rfl⟩ := h
  obtain ⟨i1, rfl, _⟩ := h1
  obtain ⟨b, rfl⟩ := h2
  exact ⟨⟨i1, b⟩, rfl⟩
theorem okStopsN {n : Nat} {x : List D} (h : OkD LT (n + 3) 38 x) : ∃ l : List Stp, x = [.list .imm (l.map rowS)] := by
  obtain ⟨xs, rfl, _, h⟩ := h
  have key : ∀ xs : List (List D), (∀ r, r ∈ xs → r.length = LT.size 37 ∧ OkD LT (n + 2) 37 r) → ∃ l : List Stp, xs = l.map rowS := by
    intro xs
    induction xs with
    | nil => intro _; exact ⟨[], rfl⟩
    | cons x r ih =>
      intro h
      obtain ⟨s, rfl⟩ := okStopN (h x (by simp)).2
      obtain ⟨l, rfl⟩ := ih fun y hy => h y (by simp [hy])
      exact ⟨s :: l, rfl⟩
  obtain ⟨l, rfl⟩ := key xs h
  exact ⟨l, rfl⟩
theorem okRouteN {n : Nat} {x : List D} (h : OkD LT (n + 4) 40 x) : ∃ r : Rte, x = rowR r := by
  obtain ⟨x1, y1, rfl, _, h1, x2, y2, rfl, _, h2, x3, y3, rfl, _, h3, rfl⟩ := h
  obtain ⟨i1, rfl, _⟩ := h1
  obtain ⟨i2, rfl, _⟩ := h2
  obtain ⟨l, rfl⟩ := okStopsN h3
  exact ⟨⟨i1, i2, l⟩, rfl⟩
theorem okPlanN {n : Nat} {x : List D} (h : OkD LT (n + 5) 42 x) : ∃ p : Pln, x = [encP p] := by
  obtain ⟨xs, rfl, _, h⟩ := h
  have key : ∀ xs : List (List D), (∀ r, r ∈ xs → r.length = LT.size 40 ∧ OkD LT (n + 4) 40 r) → ∃ p : Pln, xs = p.map rowR := by
    intro xs
    induction xs with
    | nil => intro _; exact ⟨[], rfl⟩
    | cons x r ih =>
      intro h
      obtain ⟨s, rfl⟩ := okRouteN (h x (by simp)).2
      obtain ⟨l, rfl⟩ := ih fun y hy => h y (by simp [hy])
      exact ⟨s :: l, rfl⟩
  obtain ⟨p, rfl⟩ := key xs h
  exact ⟨p, rfl⟩
theorem okWorld {n m : Nat} {x : List D} (h : OkD LT (n + 6) 54 x) (z : SzD LT (m + 2) 54 x) : ∃ (k : Int) (l : List Int) (ds : List Drv) (os : List Ord) (p : Pln), x = encW k l ds os p ∧ l.length ≤ 1000000000000000 := by
  obtain ⟨x1, y1, rfl, _, h1, x2, y2, rfl, _, h2, x3, y3, rfl, _, h3, x4, y4, rfl, _, h4, x5, y5, rfl, _, h5, rfl⟩ := h
  obtain ⟨k, rfl, _⟩ := h1
  obtain ⟨l, rfl⟩ := okInts h2
  obtain ⟨ds, rfl⟩ := okDrvs h3
  obtain ⟨os, rfl⟩ := okOrds h4
  obtain ⟨p, rfl⟩ := okPlanN h5
  obtain ⟨a1, b1, e1, k1, _, a2, b2, e2, k2, z2, _⟩ := z
  have k1' : a1.length = 1 := k1
  have k2' : a2.length = 1 := k2
  obtain ⟨d1, rfl⟩ : ∃ c, a1 = [c] := List.length_eq_one_iff.1 k1'
  obtain ⟨d2, rfl⟩ : ∃ c, a2 = [c] := List.length_eq_one_iff.1 k2'
  subst e2
  simp only [List.cons_append, List.nil_append, List.cons.injEq] at e1
  obtain ⟨_, e, _⟩ := e1
  subst e
  obtain ⟨xs', e, z2, _⟩ := z2
  cases e
  have z2 : (l.map rowI).length * 8 ≤ 140737488351232 := z2
  rw [List.length_map] at z2
  exact ⟨k, l, ds, os, p, rfl, by omega⟩
end Go.Lv

namespace Go.Lv
open Go.Proofs
theorem tRunsR {r : Nat} {sto : List Ob} (hr : r ≤ sto.length) : Tri Try.prog 3 r [] sto (fun d l => d = .bool true ∧ l = sto) :=
  tRuns.pureR rfl rfl (fun d h => by subst h; exact ⟨rfl, rfl⟩) hr
end Go.Lv

namespace Go.Lv
open Go.Proofs

end Go.Lv

namespace Go.Lv
open Go.Proofs

theorem pwD_eq {ds : List Drv} (h : ds.Pairwise (fun a b => a.id ≠ b.id)) {a b : Drv} (ha : a ∈ ds) (hb : b ∈ ds) (e : a.id = b.id) : a = b := by
  obtain ⟨i, hi, rfl⟩ := List.mem_iff_getElem.1 ha
  obtain ⟨j, hj, rfl⟩ := List.mem_iff_getElem.1 hb
  rcases Nat.lt_trichotomy i j with hl | rfl | hl
  · exact absurd e (List.pairwise_iff_getElem.1 h i j hi hj hl)
  · rfl
  · exact absurd e.symm (List.pairwise_iff_getElem.1 h j i hj hi hl)
noncomputable def sSu (k : Int) (l : List Int) (ds : List Drv) (os : List Ord) (p : Pln) (t a s : Int) (i : Nat) : DS := ⟨[(1, .lptr 1 0 0), (2, .bool false), (3, .gptr 0 0), (6, .int .i64 t), (9, .lptr 9 0 0), (10, .int .i64 s), (11, .int .i64 (i : Int))], [(1, encW k l ds os p), (9, [.int .i64 a, .int .i64 0])], [mbox ⟨k, l⟩, mbox ⟨k, l⟩], mR 0⟩
noncomputable def sSu2 (k : Int) (l : List Int) (ds : List Drv) (os : List Ord) (p : Pln) (t a s : Int) (i j : Nat) : DS := ⟨[(1, .lptr 1 0 0), (2, .bool false), (3, .gptr 0 0), (6, .int .i64 t), (9, .lptr 9 0 0), (10, .int .i64 s), (11, .int .i64 (i : Int)), (12, .int .i64 (j : Int))], [(1, encW k l ds os p), (9, [.int .i64 a, .int .i64 0])], [mbox ⟨k, l⟩, mbox ⟨k, l⟩], mR 0⟩
set_option maxHeartbeats 8000000 in
theorem l_Sums (k : Int) (l : List Int) (hl : l.length ≤ 1000000000000000) (ds : List Drv) (os : List Ord) (p : Pln) : Tri Try.prog 6 0 [.agg (encW k l ds os p)] [] (fun d _ => d = .bool true) := by
  refine Tri.walk2 (L := LT) (c := {n := 117, ko := [2], xf := [34, 109]}) [] [0, 1, 2, 3, 5, 6, 7, 9, 10, 11, 12, 13, 14, 22, 46, 61, 68, 83, 103] hLT hmix Try.func6 rfl rfl ⟨rfl, rfl⟩ (by show 1 ≤ 117; decide) (by first | exact Nat.zero_le _ | exact Nat.le_refl _ | exact Nat.le_succ 1 | decide) ?_
  refine ⟨rfl, Nat.le_refl _, (c_draykeep_Maps_0 k l hl ds os p).mono ?_⟩
  rintro d k2 (⟨rfl, rfl⟩ | ⟨hm, rfl, rfl⟩)
  · refine ⟨rfl, fun k hk => absurd hk (Nat.not_lt_zero k), rfl, ?_⟩
    repeat (first | refine And.intro (fun _ => ?_) (fun h => Bool.noConfusion h) | refine And.intro (fun h => Bool.noConfusion h) (fun _ => ?_))
    refine ⟨rfl, (by first | exact Nat.zero_le _ | exact Nat.le_refl _ | exact Nat.le_succ 1 | decide), (c_repair_Total_nil ds os p (r := 0) (sto := []) (Nat.le_refl 0)).mono ?_⟩
    rintro d l ⟨rfl, rfl⟩
    refine ⟨rfl, fun _ _ => rfl, rfl, ?_⟩
    refine ⟨rfl, (by first | exact Nat.zero_le _ | exact Nat.le_refl _ | exact Nat.le_succ 1 | decide), (c_cert_Make_nil ds os p (r := 0) (sto := []) (Nat.le_refl 0)).mono ?_⟩
    rintro d l ⟨rfl, rfl⟩
    refine ⟨rfl, fun _ _ => rfl, rfl, ?_⟩
    repeat (first | refine And.intro (fun _ => ?_) (fun h => Bool.noConfusion h) | refine And.intro (fun h => Bool.noConfusion h) (fun _ => ?_))
    refine ⟨rfl, (by first | exact Nat.zero_le _ | exact Nat.le_refl _ | exact Nat.le_succ 1 | decide), (c_api_Good 0 1 (r := 0) (sto := []) (Nat.le_refl 0)).mono ?_⟩
    rintro d l ⟨rfl, rfl⟩
    refine ⟨rfl, fun _ _ => rfl, rfl, ?_⟩
    repeat (first | refine And.intro (fun _ => ?_) (fun h => Bool.noConfusion h) | refine And.intro (fun h => Bool.noConfusion h) (fun _ => ?_))
    refine ⟨rfl, (by first | exact Nat.zero_le _ | exact Nat.le_refl _ | exact Nat.le_succ 1 | decide), (tRunsR (r := 0) (sto := []) (Nat.le_refl 0)).mono ?_⟩
    rintro d l ⟨rfl, rfl⟩
    refine ⟨rfl, fun _ _ => rfl, rfl, ?_⟩
    repeat (first | refine And.intro (fun _ => ?_) (fun h => Bool.noConfusion h) | refine And.intro (fun h => Bool.noConfusion h) (fun _ => ?_))
    exact rfl
  refine ⟨rfl, fun k hk => absurd hk (Nat.not_lt_zero k), rfl, ?_⟩
  repeat (first | refine And.intro (fun _ => ?_) (fun h => Bool.noConfusion h) | refine And.intro (fun h => Bool.noConfusion h) (fun _ => ?_))
  have h1 := c_repair_Total ⟨k, l⟩ hm ds os p (r := 2) (b := 0) (sto := [mbox ⟨k, l⟩, mbox ⟨k, l⟩]) (Nat.le_refl 2) rfl (by decide)
  have h2 := c_cert_Make ⟨k, l⟩ hm ds os p (r := 2) (b := 0) (sto := [mbox ⟨k, l⟩, mbox ⟨k, l⟩]) (Nat.le_refl 2) rfl (by decide)
  have htg := makeR_ok (m := ⟨k, l⟩) (ds := ds) (os := os) (p := p)
  unfold totalD at h1
  generalize makeR ⟨k, l⟩ ds os p = x at h1 h2 htg
  obtain ⟨c, a, e⟩ := x
  cases he : decide (e = 0) with
  | false =>
    have he := of_decide_eq_false he
    rw [if_neg (show ¬ e = 0 from he)] at h1
    refine ⟨rfl, (by first | exact Nat.zero_le _ | exact Nat.le_refl _ | exact Nat.le_succ 1 | decide), (h1).mono ?_⟩
    rintro d l ⟨rfl, rfl⟩
    refine ⟨rfl, fun _ _ => rfl, rfl, ?_⟩
    refine ⟨rfl, Nat.zero_le _, h2.mono ?_⟩
    rintro x l2 ⟨⟨sz, hsz, rfl⟩, rfl⟩
    refine ⟨rfl, fun _ _ => rfl, rfl, ?_⟩
    repeat (first | refine And.intro (fun _ => ?_) (fun h => Bool.noConfusion h) | refine And.intro (fun h => Bool.noConfusion h) (fun _ => ?_))
    have hg := c_api_Good a e (r := 2) (sto := [mbox ⟨k, l⟩, mbox ⟨k, l⟩]) (Nat.le_refl 2)
    rw [decide_eq_false he] at hg
    refine ⟨rfl, (by first | exact Nat.zero_le _ | exact Nat.le_refl _ | exact Nat.le_succ 1 | decide), (hg).mono ?_⟩
    rintro d l ⟨rfl, rfl⟩
    refine ⟨rfl, fun _ _ => rfl, rfl, ?_⟩
    repeat (first | refine And.intro (fun _ => ?_) (fun h => Bool.noConfusion h) | refine And.intro (fun h => Bool.noConfusion h) (fun _ => ?_))
    refine ⟨rfl, (by first | exact Nat.zero_le _ | exact Nat.le_refl _ | exact Nat.le_succ 1 | decide), (tRunsR (r := 2) (sto := [mbox ⟨k, l⟩, mbox ⟨k, l⟩]) (Nat.le_refl 2)).mono ?_⟩
    rintro d l ⟨rfl, rfl⟩
    refine ⟨rfl, fun _ _ => rfl, rfl, ?_⟩
    repeat (first | refine And.intro (fun _ => ?_) (fun h => Bool.noConfusion h) | refine And.intro (fun h => Bool.noConfusion h) (fun _ => ?_))
    exact rfl
  | true =>
  have he : e = 0 := of_decide_eq_true he
  subst he
  have hg := htg rfl
  have hpl := rightP_st hg.1.2.2.1
  have hdl := hg.1.1
  have hpw := hg.1.2.2.2.2
  rw [if_pos rfl] at h1
  generalize hT : totP ⟨k, l⟩ ds os p = T at h1
  refine ⟨rfl, (by first | exact Nat.zero_le _ | exact Nat.le_refl _ | exact Nat.le_succ 1 | decide), (h1).mono ?_⟩
  rintro d l ⟨rfl, rfl⟩
  refine ⟨rfl, fun _ _ => rfl, rfl, ?_⟩
  refine ⟨rfl, Nat.zero_le _, h2.mono ?_⟩
  rintro x l2 ⟨⟨sz, hsz, rfl⟩, rfl⟩
  refine ⟨rfl, fun _ _ => rfl, rfl, ?_⟩
  repeat (first | refine And.intro (fun _ => ?_) (fun h => Bool.noConfusion h) | refine And.intro (fun h => Bool.noConfusion h) (fun _ => ?_))
  show Ok _ _ _ _ _
  refine Ok.loopN hLT hmix [] [0, 1, 2, 3, 5, 6, 7, 9, 10, 11, 12, 13, 14, 22, 46, 61, 68, 83, 103] [1,2,3,6,9,10,11] [1,9] (fun f s => ∃ (i : Nat) (n : Int), f = p.length - i ∧ i ≤ p.length ∧ 0 ≤ n ∧ n ≤ 80000000 * (i : Int) ∧ totG ⟨k, l⟩ ds os n (p.drop i) = T ∧ s = sSu k l ds os p T a n i) (n := p.length) ⟨0, 0, rfl, Nat.zero_le _, by omega, by omega, hT, rfl⟩ ?_
  rintro f s ⟨i, n, rfl, hi, hn0, hn1, hgo, rfl⟩
  refine And.intro (fun h3 => ?_) (fun h3 => ?_)
  rotate_left
  · have h3 : ¬ ((i : Nat) : Int) < ((p.map rowR).length : Int) := of_decide_eq_false h3
    rw [List.length_map] at h3
    rw [List.drop_eq_nil_of_le (by omega)] at hgo
    replace hgo : n = T := hgo
    subst hgo
    refine ⟨rfl, (by first | exact Nat.zero_le _ | exact Nat.le_refl _ | exact Nat.le_succ 1 | decide), (c_api_Good a 0 (r := 2) (sto := [mbox ⟨k, l⟩, mbox ⟨k, l⟩]) (Nat.le_refl 2)).mono ?_⟩
    rintro d l ⟨rfl, rfl⟩
    refine ⟨rfl, fun _ _ => rfl, rfl, ?_⟩
    repeat (first | refine And.intro (fun _ => ?_) (fun h => Bool.noConfusion h) | refine And.intro (fun h => Bool.noConfusion h) (fun _ => ?_))
    refine And.intro (fun h4 => ?_) (fun h4 => ?_)
    · repeat (first | refine And.intro (fun _ => ?_) (fun h => Bool.noConfusion h) | refine And.intro (fun h => Bool.noConfusion h) (fun _ => ?_))
      refine ⟨rfl, (by first | exact Nat.zero_le _ | exact Nat.le_refl _ | exact Nat.le_succ 1 | decide), (tRunsR (r := 2) (sto := [mbox ⟨k, l⟩, mbox ⟨k, l⟩]) (Nat.le_refl 2)).mono ?_⟩
      rintro d l ⟨rfl, rfl⟩
      refine ⟨rfl, fun _ _ => rfl, rfl, ?_⟩
      repeat (first | refine And.intro (fun _ => ?_) (fun h => Bool.noConfusion h) | refine And.intro (fun h => Bool.noConfusion h) (fun _ => ?_))
      exact rfl
    · exact absurd rfl (of_decide_eq_false h4)
  have h3 : ((i : Nat) : Int) < ((p.map rowR).length : Int) := of_decide_eq_true h3
  rw [List.length_map] at h3
  have hil : i < p.length := by omega
  have hw := wrap_succ (i := i) (n := p.length) hil (by omega)
  rw [totG_at hil] at hgo
  have hst := (hpl.2 p[i] (List.getElem_mem _)).1
  have hrow : (p.map rowR)[((i : Nat) : Int).toNat]? = some (rowR p[i]) := row_at' rowR p rfl hil
  obtain ⟨d, hfd, hdm, htd, hdv⟩ := hg.2 p[i] (List.getElem_mem _)
  generalize p[i] = r at hgo hst hrow hfd htd hdv ⊢
  have hdo : drOf r.drv ds = d := (drOf_some hfd).1
  rw [hdo] at hgo
  have hid := (findDr_mem hfd).2
  have hco := c_route_Cost ⟨k, l⟩ hm d os r.st (r := 2) (b := 0) (sto := [mbox ⟨k, l⟩, mbox ⟨k, l⟩]) (Nat.le_refl 2) rfl (by decide)
  unfold costD at hco
  rw [if_pos hdv] at hco
  have hwl := wayP_le hm (d := d) (os := os) hst
  generalize wayP ⟨k, l⟩ d os r.st = way at hco hwl hgo
  have hws : IntKind.i64.wrap (n + way) = n + way := wrap64 (by omega) (by omega)
  show Ok _ _ _ _ _
  refine Ok.loopN hLT hmix [] [0, 1, 2, 3, 5, 6, 7, 9, 10, 11, 12, 13, 14, 22, 46, 61, 68, 83, 103] [1,2,3,6,9,10,11,12] [1,9] (fun f s => ∃ (j : Nat) (q : Int), f = ds.length - j ∧ j ≤ ds.length ∧ (((∀ x, x ∈ ds.take j → x.id ≠ r.drv) ∧ q = n) ∨ (d ∈ ds.take j ∧ q = n + way)) ∧ s = sSu2 k l ds os p T a q i j) (n := ds.length) ⟨0, n, rfl, Nat.zero_le _, .inl ⟨by simp, rfl⟩, rfl⟩ ?_
  rintro f s ⟨j, q, rfl, hj, hq, rfl⟩
  refine And.intro (fun h5 => ?_) (fun h5 => ?_)
  rotate_left
  · have h5 : ¬ ((j : Nat) : Int) < ((ds.map rowDr).length : Int) := of_decide_eq_false h5
    rw [List.length_map] at h5
    rw [List.take_of_length_le (by omega)] at hq
    have hqq : q = n + way := by
      rcases hq with ⟨h, _⟩ | ⟨_, h⟩
      · exact absurd hid (h d hdm)
      · exact h
    subst hqq
    refine ⟨p.length - (i + 1), by omega, i + 1, n + way, rfl, by omega, by omega, by omega, hgo, ?_⟩
    unfold sSu
    rw [← hw]
    rfl
  have h5 : ((j : Nat) : Int) < ((ds.map rowDr).length : Int) := of_decide_eq_true h5
  rw [List.length_map] at h5
  have hjl : j < ds.length := by omega
  have hwj := wrap_succ (i := j) (n := ds.length) hjl (by omega)
  have hrow2 : (ds.map rowDr)[((j : Nat) : Int).toNat]? = some (rowDr ds[j]) := row_at' rowDr ds rfl hjl
  have hts : ds.take (j + 1) = ds.take j ++ [ds[j]] := List.take_succ_eq_append_getElem hjl
  have hdj : ds[j].id = r.drv → ds[j] = d := fun e => pwD_eq hpw (List.getElem_mem _) hdm (by rw [e, hid])
  have hnj : ds[j].id = r.drv → q = n := fun e => by
    rcases hq with ⟨_, h⟩ | ⟨h, _⟩
    · exact h
    · obtain ⟨j2, hj2, e2⟩ := List.mem_iff_getElem.1 h
      rw [List.getElem_take] at e2
      rw [List.length_take] at hj2
      exact absurd (show (ds[j2]'(by omega)).id = ds[j].id by rw [e2, hid, e]) (List.pairwise_iff_getElem.1 hpw j2 j (by omega) hjl (by omega))
  generalize ds[j] = dj at hrow2 hts hdj hnj
  refine ⟨⟨8191, [0, 1, 0, 6, 8, 16, 0, 64, 0, 384, 512, 1024, 2080], [1, 3, 4, 15, 31, 63, 64, 192, 256, 960, 1984, 4032, 8191]⟩, by kernel_rfl, ?_⟩
  refine ⟨_, _, rfl, by omega, hrow2, rfl, of_decide_eq_true rfl, ?_⟩
  refine And.intro rfl ?_
  refine ⟨_, _, rfl, by omega, hrow, rfl, of_decide_eq_true rfl, ?_⟩
  refine And.intro rfl ?_
  refine And.intro (fun h6 => ?_) (fun h6 => ?_)
  · have h6 : dj.id = r.drv := of_decide_eq_true h6
    have e := hdj h6
    subst e
    have e := hnj h6
    subst e
    refine ⟨⟨1048575, [0, 0, 2, 0, 12, 16, 0, 64, 0, 256, 0, 1536, 2048, 4096, 8353, 16384, 32768, 32768, 131071, 524287], [1, 2, 6, 8, 30, 62, 64, 192, 256, 768, 1024, 3840, 7936, 16128, 32767, 65535, 131071, 196607, 393215, 1048575]⟩, by kernel_rfl, ?_⟩
    refine ⟨_, _, rfl, by omega, hrow2, rfl, of_decide_eq_true rfl, ?_⟩
    refine And.intro rfl ?_
    refine ⟨_, _, rfl, by omega, hrow, rfl, of_decide_eq_true rfl, ?_⟩
    refine And.intro rfl ?_
    refine And.intro ?_ trivial
    refine ⟨rfl, (by first | exact Nat.zero_le _ | exact Nat.le_refl _ | exact Nat.le_succ 1 | decide), (hco).mono ?_⟩
    rintro d l ⟨rfl, rfl⟩
    refine ⟨rfl, fun _ _ => rfl, rfl, ?_⟩
    refine And.intro (by repeat (first | exact trivial | refine And.intro ⟨rfl, rfl⟩ ?_ | refine And.intro ⟨_, _, rfl, by omega, (by assumption), rfl, of_decide_eq_true rfl, And.intro rfl (And.intro rfl rfl)⟩ ?_)) ?_
    repeat (first | refine And.intro (fun _ => ?_) (fun h => Bool.noConfusion h) | refine And.intro (fun h => Bool.noConfusion h) (fun _ => ?_))
    refine And.intro ?_ trivial
    refine And.intro (by repeat (first | exact trivial | refine And.intro ⟨rfl, rfl⟩ ?_ | refine And.intro ⟨_, _, rfl, by omega, (by assumption), rfl, of_decide_eq_true rfl, And.intro rfl (And.intro rfl rfl)⟩ ?_)) ?_
    repeat (first | refine And.intro (fun _ => ?_) (fun h => Bool.noConfusion h) | refine And.intro (fun h => Bool.noConfusion h) (fun _ => ?_))
    refine And.intro ?_ trivial
    refine And.intro (by repeat (first | exact trivial | refine And.intro ⟨rfl, rfl⟩ ?_ | refine And.intro ⟨_, _, rfl, by omega, (by assumption), rfl, of_decide_eq_true rfl, And.intro rfl (And.intro rfl rfl)⟩ ?_)) ?_
    repeat (first | refine And.intro (fun _ => ?_) (fun h => Bool.noConfusion h) | refine And.intro (fun h => Bool.noConfusion h) (fun _ => ?_))
    refine ⟨ds.length - (j + 1), by omega, j + 1, IntKind.i64.wrap (q + way), rfl, by omega, .inr ⟨by rw [hts]; simp, hws⟩, ?_⟩
    unfold sSu2
    rw [← hwj]
    rfl
  · have h6 : ¬ dj.id = r.drv := of_decide_eq_false h6
    refine ⟨ds.length - (j + 1), by omega, j + 1, q, rfl, by omega, ?_, ?_⟩
    · rcases hq with ⟨h, e⟩ | ⟨h, e⟩
      · refine .inl ⟨fun x hx => ?_, e⟩
        rw [hts] at hx
        rcases List.mem_append.1 hx with hx | hx
        · exact h x hx
        · rw [List.mem_singleton.1 hx]
          exact h6
      · exact .inr ⟨by rw [hts]; exact List.mem_append.2 (.inl h), e⟩
    · unfold sSu2
      rw [← hwj]
      rfl
end Go.Lv
