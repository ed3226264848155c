/-
  Part 1 of the texts under the proof: an abstract run of loaded code on data, and what the functions do. No condition.
-/
import Derived.Test.YtbddalnnhelinaaM17
set_option linter.all false
set_option maxRecDepth 100000
namespace Go.Lv
open Go.Proofs

noncomputable def sTi (p : Pln) (seen : List Stp) (sz i : Nat) : DS := ⟨[(0, encP p), (3, .list (.own sz) (seen.map rowS)), (4, .int .i64 (i : Int)), (2, .bool false)], [], [], mR 0⟩
noncomputable def sTk (p : Pln) (r : Rte) (seen : List Stp) (sz i k : Nat) : DS := ⟨[(0, encP p), (3, .list (.own sz) (seen.map rowS)), (4, .int .i64 (i : Int)), (5, .lptr 5 0 0), (6, .int .i64 (k : Int)), (2, .bool false)], [(5, rowR r)], [], mR 0⟩
noncomputable def sTj (p : Pln) (r : Rte) (s : Stp) (seen : List Stp) (sz i k j : Nat) : DS := ⟨[(0, encP p), (3, .list (.own sz) (seen.map rowS)), (4, .int .i64 (i : Int)), (5, .lptr 5 0 0), (6, .int .i64 (k : Int)), (7, .lptr 7 0 0), (8, .int .i64 (j : Int)), (2, .bool false)], [(5, rowR r), (7, rowS s)], [], mR 0⟩
noncomputable def lastP (p : Pln) (i : Nat) : Int := if h : 0 < i ∧ i - 1 < p.length then p[i - 1].drv else 0
theorem lastP_succ {p : Pln} {i : Nat} (h : i < p.length) : lastP p (i + 1) = p[i].drv := by
  unfold lastP
  rw [dif_pos ⟨by omega, by omega⟩]
  rfl
set_option maxHeartbeats 8000000 in
theorem c_drayref9_Right_0 (p : Pln) : Tri Try.prog 67 0 [encP p] [] (fun d k => d = .bool (rightP p) ∧ k = []) := by
  refine Tri.walk2 (L := LT) (c := {n := 100, ko := [2, 3], xf := [96]}) [] [0, 2, 3, 4, 5, 6, 7, 8, 11, 15, 63, 68, 83, 87, 95] hLT hmix Try.func67 rfl rfl ⟨rfl, rfl⟩ (by show 1 ≤ 100; decide) (by first | exact Nat.zero_le _ | exact Nat.le_refl _ | exact Nat.le_succ 1 | decide) ?_
  unfold rightP
  refine And.intro (fun h0 => ?_) (fun h0 => ?_)
  · have h0 : ((p.map rowR).length : Int) > 8 := of_decide_eq_true h0
    rw [List.length_map] at h0
    rw [decide_eq_false (show ¬ p.length ≤ 8 by omega)]
    exact And.intro rfl rfl
  have h0 : ¬ ((p.map rowR).length : Int) > 8 := of_decide_eq_false h0
  rw [List.length_map] at h0
  have hp8 : p.length ≤ 8 := by omega
  rw [decide_eq_true hp8, Bool.true_and]
  show Ok _ _ _ _ _
  refine Ok.loopN hLT hmix [] [0, 2, 3, 4, 5, 6, 7, 8, 11, 15, 63, 68, 83, 87, 95] [0,3,4,2] [] (fun n s => ∃ (i sz : Nat) (seen : List Stp), n = p.length - i ∧ i ≤ p.length ∧ (sz = 0 ∨ sz = 2) ∧ seen.length ≤ 80 * i ∧ 0 ≤ lastP p i ∧ rightG (lastP p i) seen (p.drop i) = rightG 0 [] p ∧ s = sTi p seen sz i) (n := p.length) ⟨0, 0, [], rfl, Nat.zero_le _, .inl rfl, Nat.zero_le _, Int.le_refl 0, rfl, rfl⟩ ?_
  rintro n s ⟨i, sz, seen, rfl, hi, hsz, hsl, hla, hix, rfl⟩
  refine And.intro (fun h1 => ?_) (fun h1 => ?_)
  · have h1 : ((i : Nat) : Int) < ((p.map rowR).length : Int) := of_decide_eq_true h1
    rw [List.length_map] at h1
    have hw := wrap_succ (i := i) (n := p.length) (by omega) (by omega)
    rw [rightG_at (by omega)] at hix
    have hls := lastP_succ (p := p) (i := i) (by omega)
    refine ⟨(p).map rowR, rowR ((p)[i]'(by omega)), rfl, by omega, row_at' rowR (p) (by omega) (by omega), rfl, of_decide_eq_true rfl, ?_⟩
    generalize p[i] = r at hix hls ⊢
    have bad : ¬ hdOK (lastP p i) r → false = rightG 0 [] p := fun h => by rw [← hix, decide_eq_false h]; rfl
    refine ⟨⟨4398046511103, [0, 1, 2, 4, 8, 24, 40, 72, 136, 256, 768, 1280, 2048, 2048, 10240, 22528, 34816, 67584, 2048, 264192, 657408, 1050880, 2097408, 4196352, 8388608, 25165824, 41943040, 75497472, 142606336, 276824064, 536870912, 1610612736, 2684354560, 4831838208, 9126805504, 17179869184, 51539607552, 17179869184, 154618822656, 292057776128, 635655159808, 1116691496960], [1, 3, 7, 15, 31, 63, 127, 255, 511, 1023, 2047, 4095, 8191, 12287, 28671, 65535, 131071, 262143, 266239, 790527, 2097151, 4194303, 8388607, 16777215, 33554431, 67108863, 134217727, 268435455, 536870911, 1073741823, 2147483647, 4294967295, 8589934591, 17179869183, 34359738367, 68719476735, 137438953471, 171798691839, 446676598783, 996432412671, 2199023255551, 4398046511103]⟩, by kernel_rfl, ?_⟩
    refine And.intro (fun q1 => ?_) (fun q1 => ?_)
    · repeat (first | refine And.intro (fun _ => ?_) (fun h => Bool.noConfusion h) | refine And.intro (fun h => Bool.noConfusion h) (fun _ => ?_))
      exact And.intro (congrArg D.bool (bad (fun h => absurd (of_decide_eq_true q1) (by have := h.1; omega)))) rfl
    repeat (first | refine And.intro (fun _ => ?_) (fun h => Bool.noConfusion h) | refine And.intro (fun h => Bool.noConfusion h) (fun _ => ?_))
    have q1 := of_decide_eq_false q1
    refine And.intro (fun q2 => ?_) (fun q2 => ?_)
    · repeat (first | refine And.intro (fun _ => ?_) (fun h => Bool.noConfusion h) | refine And.intro (fun h => Bool.noConfusion h) (fun _ => ?_))
      exact And.intro (congrArg D.bool (bad (fun h => absurd (of_decide_eq_true q2) (by have := h.2.1; omega)))) rfl
    repeat (first | refine And.intro (fun _ => ?_) (fun h => Bool.noConfusion h) | refine And.intro (fun h => Bool.noConfusion h) (fun _ => ?_))
    have q2 := of_decide_eq_false q2
    refine And.intro (fun q3 => ?_) (fun q3 => ?_)
    · have q3 : ((i : Nat) : Int) > 0 := of_decide_eq_true q3
      repeat (first | refine And.intro (fun _ => ?_) (fun h => Bool.noConfusion h) | refine And.intro (fun h => Bool.noConfusion h) (fun _ => ?_))
      have hwm : IntKind.i64.wrap ((i : Int) - 1) = ((i - 1 : Nat) : Int) := by
        rw [wrap64 (by omega) (by omega)]
        omega
      have hlp : lastP p i = (p[i - 1]'(by omega)).drv := by
        unfold lastP
        rw [dif_pos ⟨by omega, by omega⟩]
      refine ⟨(p).map rowR, rowR ((p)[(i-1)]'(by omega)), rfl, by omega, row_at' rowR (p) (by omega) (by omega), rfl, of_decide_eq_true rfl, ?_⟩
      refine And.intro rfl ?_
      refine And.intro (fun q4 => ?_) (fun q4 => ?_)
      · have q4 : (p[i - 1]'(by omega)).drv ≥ r.drv := of_decide_eq_true q4
        repeat (first | refine And.intro (fun _ => ?_) (fun h => Bool.noConfusion h) | refine And.intro (fun h => Bool.noConfusion h) (fun _ => ?_))
        exact And.intro (congrArg D.bool (bad (fun h => by have := h.1; omega))) rfl
      have q4 : ¬ (p[i - 1]'(by omega)).drv ≥ r.drv := of_decide_eq_false q4
      have hlt : lastP p i < r.drv := by omega
      clear hlp
      repeat (first | refine And.intro (fun _ => ?_) (fun h => Bool.noConfusion h) | refine And.intro (fun h => Bool.noConfusion h) (fun _ => ?_))
      refine And.intro (fun q5 => ?_) (fun q5 => ?_)
      · repeat (first | refine And.intro (fun _ => ?_) (fun h => Bool.noConfusion h) | refine And.intro (fun h => Bool.noConfusion h) (fun _ => ?_))
        exact And.intro (congrArg D.bool (bad (fun h => absurd (of_decide_eq_true q5) (by rw [List.length_map]; have := h.2.2.1; omega)))) rfl
      repeat (first | refine And.intro (fun _ => ?_) (fun h => Bool.noConfusion h) | refine And.intro (fun h => Bool.noConfusion h) (fun _ => ?_))
      have q5 := of_decide_eq_false q5
      refine And.intro (fun q6 => ?_) (fun q6 => ?_)
      · repeat (first | refine And.intro (fun _ => ?_) (fun h => Bool.noConfusion h) | refine And.intro (fun h => Bool.noConfusion h) (fun _ => ?_))
        exact And.intro (congrArg D.bool (bad (fun h => absurd (of_decide_eq_true q6) (by have := h.2.2.2.1; omega)))) rfl
      repeat (first | refine And.intro (fun _ => ?_) (fun h => Bool.noConfusion h) | refine And.intro (fun h => Bool.noConfusion h) (fun _ => ?_))
      have q6 := of_decide_eq_false q6
      refine And.intro (fun q7 => ?_) (fun q7 => ?_)
      · repeat (first | refine And.intro (fun _ => ?_) (fun h => Bool.noConfusion h) | refine And.intro (fun h => Bool.noConfusion h) (fun _ => ?_))
        exact And.intro (congrArg D.bool (bad (fun h => absurd (of_decide_eq_true q7) (by rw [List.length_map]; have := h.2.2.2.2; omega)))) rfl
      repeat (first | refine And.intro (fun _ => ?_) (fun h => Bool.noConfusion h) | refine And.intro (fun h => Bool.noConfusion h) (fun _ => ?_))
      have q7 := of_decide_eq_false q7
      rw [List.length_map] at q5 q7
      have hok : hdOK (lastP p i) r := ⟨hlt, by omega, by omega, by omega, by omega⟩
      rw [decide_eq_true hok, Bool.true_and] at hix
      show Ok _ _ _ _ _
      refine Ok.loopN hLT hmix [] [0, 2, 3, 4, 5, 6, 7, 8, 11, 15, 63, 68, 83, 87, 95] [0,3,4,5,6,2] [5] (fun n s => ∃ (k sz : Nat), n = r.st.length - k ∧ k ≤ r.st.length ∧ (sz = 0 ∨ sz = 2) ∧ (stOK (seen ++ r.st.take k) (r.st.drop k) && rightG r.drv (seen ++ r.st) (p.drop (i + 1))) = rightG 0 [] p ∧ s = sTk p r (seen ++ r.st.take k) sz i k) (n := r.st.length) ⟨0, sz, rfl, Nat.zero_le _, hsz, by rw [List.take_zero, List.append_nil]; exact hix, by rw [List.take_zero, List.append_nil]; rfl⟩ ?_
      rintro n s ⟨k, sz, rfl, hk, hsz, hkx, rfl⟩
      refine And.intro (fun g1 => ?_) (fun g1 => ?_)
      · have g1 : ((k : Nat) : Int) < ((r.st.map rowS).length : Int) := of_decide_eq_true g1
        rw [List.length_map] at g1
        have hwk := wrap_succ (i := k) (n := r.st.length) (by omega) (by omega)
        rw [stOK_at (by omega)] at hkx
        have htk : seen ++ r.st.take (k + 1) = seen ++ r.st.take k ++ [r.st[k]] := by
          rw [List.append_assoc, List.take_succ_eq_append_getElem (by omega)]
        have hsn : (seen ++ r.st.take k).length ≤ 800 := by
          rw [List.length_append, List.length_take]
          omega
        rw [htk] at hkx
        refine ⟨(r.st).map rowS, rowS ((r.st)[k]'(by omega)), rfl, by omega, row_at' rowS (r.st) (by omega) (by omega), rfl, of_decide_eq_true rfl, ?_⟩
        generalize r.st[k] = x at hkx htk ⊢
        generalize seen ++ r.st.take k = sn at hkx htk hsn ⊢
        have badx : ¬ (1 ≤ x.ord ∧ x.ord ≤ 1000000 ∧ x ∉ sn) → false = rightG 0 [] p := fun h => by rw [← hkx, decide_eq_false h]; rfl
        refine And.intro (fun w1 => ?_) (fun w1 => ?_)
        · repeat (first | refine And.intro (fun _ => ?_) (fun h => Bool.noConfusion h) | refine And.intro (fun h => Bool.noConfusion h) (fun _ => ?_))
          exact And.intro (congrArg D.bool (badx (fun h => absurd (of_decide_eq_true w1) (by have := h.1; omega)))) rfl
        repeat (first | refine And.intro (fun _ => ?_) (fun h => Bool.noConfusion h) | refine And.intro (fun h => Bool.noConfusion h) (fun _ => ?_))
        have w1 := of_decide_eq_false w1
        refine And.intro (fun w2 => ?_) (fun w2 => ?_)
        · repeat (first | refine And.intro (fun _ => ?_) (fun h => Bool.noConfusion h) | refine And.intro (fun h => Bool.noConfusion h) (fun _ => ?_))
          exact And.intro (congrArg D.bool (badx (fun h => absurd (of_decide_eq_true w2) (by have := h.2.1; omega)))) rfl
        repeat (first | refine And.intro (fun _ => ?_) (fun h => Bool.noConfusion h) | refine And.intro (fun h => Bool.noConfusion h) (fun _ => ?_))
        have w2 := of_decide_eq_false w2
        show Ok _ _ _ _ _
        refine Ok.loopN hLT hmix [] [0, 2, 3, 4, 5, 6, 7, 8, 11, 15, 63, 68, 83, 87, 95] [0,3,4,5,6,7,8,2] [5,7] (fun n s => ∃ (j : Nat), n = sn.length - j ∧ j ≤ sn.length ∧ x ∉ sn.take j ∧ s = sTj p r x sn sz i k j) (n := sn.length) ⟨0, rfl, Nat.zero_le _, by simp, rfl⟩ ?_
        rintro n s ⟨j, rfl, hj, hjx, rfl⟩
        refine And.intro (fun v1 => ?_) (fun v1 => ?_)
        · have v1 : ((j : Nat) : Int) < ((sn.map rowS).length : Int) := of_decide_eq_true v1
          rw [List.length_map] at v1
          have hwj := wrap_succ (i := j) (n := sn.length) (by omega) (by omega)
          refine ⟨⟨63, [0, 0, 3, 4, 0, 24], [1, 2, 7, 15, 16, 63]⟩, by kernel_rfl, ?_⟩
          refine ⟨(sn).map rowS, rowS ((sn)[j]'(by omega)), rfl, by omega, row_at' rowS (sn) (by omega) (by omega), rfl, of_decide_eq_true rfl, ?_⟩
          refine And.intro rfl ?_
          refine ⟨_, _, rfl, rfl, rfl, ?_⟩
          refine And.intro rfl ?_
          refine And.intro (fun v2 => ?_) (fun v2 => ?_)
          · have v2 := stp_eq v2
            exact And.intro (congrArg D.bool (badx (fun h => h.2.2 (by rw [← v2]; exact List.getElem_mem _)))) rfl
          · have v2 := stp_ne v2
            refine ⟨sn.length - (j + 1), by omega, j + 1, rfl, by omega, ?_, ?_⟩
            · rw [List.take_succ_eq_append_getElem (by omega), List.mem_append]
              rintro (h | h)
              · exact hjx h
              · exact v2 (List.mem_singleton.1 h).symm
            · unfold sTj
              rw [← hwj]
              rfl
        · have v1 : ¬ ((j : Nat) : Int) < ((sn.map rowS).length : Int) := of_decide_eq_false v1
          rw [List.length_map] at v1
          rw [List.take_of_length_le (by omega)] at hjx
          have hxok : 1 ≤ x.ord ∧ x.ord ≤ 1000000 ∧ x ∉ sn := ⟨by omega, by omega, hjx⟩
          rw [decide_eq_true hxok, Bool.true_and] at hkx
          refine And.intro trivial (And.intro (by rcases hsz with rfl | rfl <;> rfl) (And.intro ?_ (And.intro rfl ?_)))
          · show ((sn.map rowS).length + 1) * 16 ≤ 140737488355328
            rw [List.length_map]
            omega
          refine ⟨r.st.length - (k + 1), by omega, k + 1, 2, rfl, by omega, .inr rfl, by rw [htk]; exact hkx, ?_⟩
          unfold sTk
          rw [htk, List.map_append, ← hwk]
          rfl
      · have g1 : ¬ ((k : Nat) : Int) < ((r.st.map rowS).length : Int) := of_decide_eq_false g1
        rw [List.length_map] at g1
        rw [List.drop_eq_nil_of_le (by omega)] at hkx
        have hkx : rightG r.drv (seen ++ r.st) (p.drop (i + 1)) = rightG 0 [] p := hkx
        rw [List.take_of_length_le (by omega)]
        refine ⟨p.length - (i + 1), by omega, i + 1, sz, seen ++ r.st, rfl, by omega, hsz, by rw [List.length_append]; omega, by rw [hls]; omega, by rw [hls]; exact hkx, ?_⟩
        unfold sTi
        rw [← hw]
        rfl
    · have q3 : ¬ ((i : Nat) : Int) > 0 := of_decide_eq_false q3
      have hlt : lastP p i < r.drv := by
        unfold lastP
        rw [dif_neg (by omega)]
        omega
      repeat (first | refine And.intro (fun _ => ?_) (fun h => Bool.noConfusion h) | refine And.intro (fun h => Bool.noConfusion h) (fun _ => ?_))
      refine And.intro (fun q5 => ?_) (fun q5 => ?_)
      · repeat (first | refine And.intro (fun _ => ?_) (fun h => Bool.noConfusion h) | refine And.intro (fun h => Bool.noConfusion h) (fun _ => ?_))
        exact And.intro (congrArg D.bool (bad (fun h => absurd (of_decide_eq_true q5) (by rw [List.length_map]; have := h.2.2.1; omega)))) rfl
      repeat (first | refine And.intro (fun _ => ?_) (fun h => Bool.noConfusion h) | refine And.intro (fun h => Bool.noConfusion h) (fun _ => ?_))
      have q5 := of_decide_eq_false q5
      refine And.intro (fun q6 => ?_) (fun q6 => ?_)
      · repeat (first | refine And.intro (fun _ => ?_) (fun h => Bool.noConfusion h) | refine And.intro (fun h => Bool.noConfusion h) (fun _ => ?_))
        exact And.intro (congrArg D.bool (bad (fun h => absurd (of_decide_eq_true q6) (by have := h.2.2.2.1; omega)))) rfl
      repeat (first | refine And.intro (fun _ => ?_) (fun h => Bool.noConfusion h) | refine And.intro (fun h => Bool.noConfusion h) (fun _ => ?_))
      have q6 := of_decide_eq_false q6
      refine And.intro (fun q7 => ?_) (fun q7 => ?_)
      · repeat (first | refine And.intro (fun _ => ?_) (fun h => Bool.noConfusion h) | refine And.intro (fun h => Bool.noConfusion h) (fun _ => ?_))
        exact And.intro (congrArg D.bool (bad (fun h => absurd (of_decide_eq_true q7) (by rw [List.length_map]; have := h.2.2.2.2; omega)))) rfl
      repeat (first | refine And.intro (fun _ => ?_) (fun h => Bool.noConfusion h) | refine And.intro (fun h => Bool.noConfusion h) (fun _ => ?_))
      have q7 := of_decide_eq_false q7
      rw [List.length_map] at q5 q7
      have hok : hdOK (lastP p i) r := ⟨hlt, by omega, by omega, by omega, by omega⟩
      rw [decide_eq_true hok, Bool.true_and] at hix
      show Ok _ _ _ _ _
      refine Ok.loopN hLT hmix [] [0, 2, 3, 4, 5, 6, 7, 8, 11, 15, 63, 68, 83, 87, 95] [0,3,4,5,6,2] [5] (fun n s => ∃ (k sz : Nat), n = r.st.length - k ∧ k ≤ r.st.length ∧ (sz = 0 ∨ sz = 2) ∧ (stOK (seen ++ r.st.take k) (r.st.drop k) && rightG r.drv (seen ++ r.st) (p.drop (i + 1))) = rightG 0 [] p ∧ s = sTk p r (seen ++ r.st.take k) sz i k) (n := r.st.length) ⟨0, sz, rfl, Nat.zero_le _, hsz, by rw [List.take_zero, List.append_nil]; exact hix, by rw [List.take_zero, List.append_nil]; rfl⟩ ?_
      rintro n s ⟨k, sz, rfl, hk, hsz, hkx, rfl⟩
      refine And.intro (fun g1 => ?_) (fun g1 => ?_)
      · have g1 : ((k : Nat) : Int) < ((r.st.map rowS).length : Int) := of_decide_eq_true g1
        rw [List.length_map] at g1
        have hwk := wrap_succ (i := k) (n := r.st.length) (by omega) (by omega)
        rw [stOK_at (by omega)] at hkx
        have htk : seen ++ r.st.take (k + 1) = seen ++ r.st.take k ++ [r.st[k]] := by
          rw [List.append_assoc, List.take_succ_eq_append_getElem (by omega)]
        have hsn : (seen ++ r.st.take k).length ≤ 800 := by
          rw [List.length_append, List.length_take]
          omega
        rw [htk] at hkx
        refine ⟨(r.st).map rowS, rowS ((r.st)[k]'(by omega)), rfl, by omega, row_at' rowS (r.st) (by omega) (by omega), rfl, of_decide_eq_true rfl, ?_⟩
        generalize r.st[k] = x at hkx htk ⊢
        generalize seen ++ r.st.take k = sn at hkx htk hsn ⊢
        have badx : ¬ (1 ≤ x.ord ∧ x.ord ≤ 1000000 ∧ x ∉ sn) → false = rightG 0 [] p := fun h => by rw [← hkx, decide_eq_false h]; rfl
        refine And.intro (fun w1 => ?_) (fun w1 => ?_)
        · repeat (first | refine And.intro (fun _ => ?_) (fun h => Bool.noConfusion h) | refine And.intro (fun h => Bool.noConfusion h) (fun _ => ?_))
          exact And.intro (congrArg D.bool (badx (fun h => absurd (of_decide_eq_true w1) (by have := h.1; omega)))) rfl
        repeat (first | refine And.intro (fun _ => ?_) (fun h => Bool.noConfusion h) | refine And.intro (fun h => Bool.noConfusion h) (fun _ => ?_))
        have w1 := of_decide_eq_false w1
        refine And.intro (fun w2 => ?_) (fun w2 => ?_)
        · repeat (first | refine And.intro (fun _ => ?_) (fun h => Bool.noConfusion h) | refine And.intro (fun h => Bool.noConfusion h) (fun _ => ?_))
          exact And.intro (congrArg D.bool (badx (fun h => absurd (of_decide_eq_true w2) (by have := h.2.1; omega)))) rfl
        repeat (first | refine And.intro (fun _ => ?_) (fun h => Bool.noConfusion h) | refine And.intro (fun h => Bool.noConfusion h) (fun _ => ?_))
        have w2 := of_decide_eq_false w2
        show Ok _ _ _ _ _
        refine Ok.loopN hLT hmix [] [0, 2, 3, 4, 5, 6, 7, 8, 11, 15, 63, 68, 83, 87, 95] [0,3,4,5,6,7,8,2] [5,7] (fun n s => ∃ (j : Nat), n = sn.length - j ∧ j ≤ sn.length ∧ x ∉ sn.take j ∧ s = sTj p r x sn sz i k j) (n := sn.length) ⟨0, rfl, Nat.zero_le _, by simp, rfl⟩ ?_
        rintro n s ⟨j, rfl, hj, hjx, rfl⟩
        refine And.intro (fun v1 => ?_) (fun v1 => ?_)
        · have v1 : ((j : Nat) : Int) < ((sn.map rowS).length : Int) := of_decide_eq_true v1
          rw [List.length_map] at v1
          have hwj := wrap_succ (i := j) (n := sn.length) (by omega) (by omega)
          refine ⟨⟨63, [0, 0, 3, 4, 0, 24], [1, 2, 7, 15, 16, 63]⟩, by kernel_rfl, ?_⟩
          refine ⟨(sn).map rowS, rowS ((sn)[j]'(by omega)), rfl, by omega, row_at' rowS (sn) (by omega) (by omega), rfl, of_decide_eq_true rfl, ?_⟩
          refine And.intro rfl ?_
          refine ⟨_, _, rfl, rfl, rfl, ?_⟩
          refine And.intro rfl ?_
          refine And.intro (fun v2 => ?_) (fun v2 => ?_)
          · have v2 := stp_eq v2
            exact And.intro (congrArg D.bool (badx (fun h => h.2.2 (by rw [← v2]; exact List.getElem_mem _)))) rfl
          · have v2 := stp_ne v2
            refine ⟨sn.length - (j + 1), by omega, j + 1, rfl, by omega, ?_, ?_⟩
            · rw [List.take_succ_eq_append_getElem (by omega), List.mem_append]
              rintro (h | h)
              · exact hjx h
              · exact v2 (List.mem_singleton.1 h).symm
            · unfold sTj
              rw [← hwj]
              rfl
        · have v1 : ¬ ((j : Nat) : Int) < ((sn.map rowS).length : Int) := of_decide_eq_false v1
          rw [List.length_map] at v1
          rw [List.take_of_length_le (by omega)] at hjx
          have hxok : 1 ≤ x.ord ∧ x.ord ≤ 1000000 ∧ x ∉ sn := ⟨by omega, by omega, hjx⟩
          rw [decide_eq_true hxok, Bool.true_and] at hkx
          refine And.intro trivial (And.intro (by rcases hsz with rfl | rfl <;> rfl) (And.intro ?_ (And.intro rfl ?_)))
          · show ((sn.map rowS).length + 1) * 16 ≤ 140737488355328
            rw [List.length_map]
            omega
          refine ⟨r.st.length - (k + 1), by omega, k + 1, 2, rfl, by omega, .inr rfl, by rw [htk]; exact hkx, ?_⟩
          unfold sTk
          rw [htk, List.map_append, ← hwk]
          rfl
      · have g1 : ¬ ((k : Nat) : Int) < ((r.st.map rowS).length : Int) := of_decide_eq_false g1
        rw [List.length_map] at g1
        rw [List.drop_eq_nil_of_le (by omega)] at hkx
        have hkx : rightG r.drv (seen ++ r.st) (p.drop (i + 1)) = rightG 0 [] p := hkx
        rw [List.take_of_length_le (by omega)]
        refine ⟨p.length - (i + 1), by omega, i + 1, sz, seen ++ r.st, rfl, by omega, hsz, by rw [List.length_append]; omega, by rw [hls]; omega, by rw [hls]; exact hkx, ?_⟩
        unfold sTi
        rw [← hw]
        rfl
  · have h1 : ¬ ((i : Nat) : Int) < ((p.map rowR).length : Int) := of_decide_eq_false h1
    rw [List.length_map] at h1
    rw [List.drop_eq_nil_of_le (by omega)] at hix
    rw [← hix]
    exact And.intro rfl rfl
theorem c_drayref9_Right (p : Pln) {r : Nat} {sto : List Ob} (hr : r ≤ sto.length) : Tri Try.prog 67 r [encP p] sto (fun d k => d = .bool (rightP p) ∧ k = sto) :=
  (c_drayref9_Right_0 p).pure rfl (nrBL_P rfl) rfl rfl hr
end Go.Lv

namespace Go.Lv
open Go.Proofs

set_option maxHeartbeats 2000000 in
theorem c_drayref4_Right_0 (w : Win) : Tri Try.prog 102 0 [.agg (rowW w)] [] (fun d k => d = .bool (rightW w) ∧ k = []) := by
  refine Tri.walk2 (L := LT) (c := {n := 18, ko := [2]}) [] [0, 1, 2] hLT hmix Try.func102 rfl rfl ⟨rfl, rfl⟩ (by show 1 ≤ 18; decide) (by first | exact Nat.zero_le _ | exact Nat.le_refl _ | exact Nat.le_succ 1 | decide) ?_
  refine And.intro (fun h1 => ?_) (fun h1 => ?_)
  · have h1 := of_decide_eq_true h1
    repeat (first | refine And.intro (fun _ => ?_) (fun h => Bool.noConfusion h) | refine And.intro (fun h => Bool.noConfusion h) (fun _ => ?_))
    refine And.intro (fun h2 => ?_) (fun h2 => ?_)
    · have h2 := of_decide_eq_true h2
      repeat (first | refine And.intro (fun _ => ?_) (fun h => Bool.noConfusion h) | refine And.intro (fun h => Bool.noConfusion h) (fun _ => ?_))
      refine And.intro (fun h3 => ?_) (fun h3 => ?_)
      · rw [rightW_t h1 h2 (of_decide_eq_true h3)]
        exact And.intro rfl rfl
      · rw [rightW_f (fun h => of_decide_eq_false h3 h.2.2)]
        exact And.intro rfl rfl
    · repeat (first | refine And.intro (fun _ => ?_) (fun h => Bool.noConfusion h) | refine And.intro (fun h => Bool.noConfusion h) (fun _ => ?_))
      rw [rightW_f (fun h => of_decide_eq_false h2 h.2.1)]
      exact And.intro rfl rfl
  · repeat (first | refine And.intro (fun _ => ?_) (fun h => Bool.noConfusion h) | refine And.intro (fun h => Bool.noConfusion h) (fun _ => ?_))
    rw [rightW_f (fun h => of_decide_eq_false h1 h.1)]
    exact And.intro rfl rfl
theorem c_drayref4_Right (w : Win) {r : Nat} {sto : List Ob} (hr : r ≤ sto.length) : Tri Try.prog 102 r [.agg (rowW w)] sto (fun d k => d = .bool (rightW w) ∧ k = sto) :=
  (c_drayref4_Right_0 w).pure rfl rfl rfl rfl hr
set_option maxHeartbeats 2000000 in
theorem c_drayref4_Begin_0 (w : Win) (t : Int) : Tri Try.prog 103 0 [.agg (rowW w), .int .i64 t] [] (fun d k => d = beginD w t ∧ k = []) := by
  refine Tri.walk2 (L := LT) (c := {n := 22, ko := [4, 5]}) [] [0, 1, 2, 4, 5, 14, 18] hLT hmix Try.func103 rfl rfl ⟨rfl, rfl⟩ (by show 2 ≤ 22; decide) (by first | exact Nat.zero_le _ | exact Nat.le_refl _ | exact Nat.le_succ 1 | decide) ?_
  refine ⟨rfl, (by first | exact Nat.zero_le _ | exact Nat.le_refl _ | exact Nat.le_succ 1 | decide), (c_drayref4_Right w (r := 0) (sto := []) (Nat.le_refl 0)).mono ?_⟩
  rintro d l ⟨rfl, rfl⟩
  refine ⟨rfl, fun _ _ => rfl, rfl, ?_⟩
  unfold beginD beginW
  cases hw : rightW w with
  | false =>
    repeat (first | refine And.intro (fun _ => ?_) (fun h => Bool.noConfusion h) | refine And.intro (fun h => Bool.noConfusion h) (fun _ => ?_))
    rw [if_neg (by rintro ⟨h, _⟩; cases h)]
    exact And.intro rfl rfl
  | true =>
    repeat (first | refine And.intro (fun _ => ?_) (fun h => Bool.noConfusion h) | refine And.intro (fun h => Bool.noConfusion h) (fun _ => ?_))
    refine And.intro (fun h1 => ?_) (fun h1 => ?_)
    · repeat (first | refine And.intro (fun _ => ?_) (fun h => Bool.noConfusion h) | refine And.intro (fun h => Bool.noConfusion h) (fun _ => ?_))
      rw [if_neg (by rintro ⟨_, h⟩; exact Int.not_lt.2 h (of_decide_eq_true h1))]
      exact And.intro rfl rfl
    · repeat (first | refine And.intro (fun _ => ?_) (fun h => Bool.noConfusion h) | refine And.intro (fun h => Bool.noConfusion h) (fun _ => ?_))
      rw [if_pos ⟨rfl, Int.not_lt.1 (of_decide_eq_false h1)⟩]
      refine And.intro (fun h2 => ?_) (fun h2 => ?_)
      · rw [show max t w.lo = w.lo from by have := of_decide_eq_true h2; omega]
        exact And.intro rfl rfl
      · rw [show max t w.lo = t from by have := of_decide_eq_false h2; omega]
        exact And.intro rfl rfl
theorem c_drayref4_Begin (w : Win) (t : Int) {r : Nat} {sto : List Ob} (hr : r ≤ sto.length) : Tri Try.prog 103 r [.agg (rowW w), .int .i64 t] sto (fun d k => d = beginD w t ∧ k = sto) :=
  (c_drayref4_Begin_0 w t).pure rfl rfl (beginD_ok w t).1 (beginD_ok w t).2 hr
set_option maxHeartbeats 2000000 in
theorem c_drayref4_Time_0 (m : Mp) (hm : okMp m) (a b : Int) : Tri Try.prog 49 1 [.gptr 0 0, .int .i64 a, .int .i64 b] [mbox m] (fun d k => d = timeD m a b ∧ k = [mbox m]) := by
  refine Tri.walk2 (L := LT) (c := {n := 44, ko := [6, 7]}) [] [0, 1, 2, 6, 7, 29] hLT hmix Try.func49 rfl rfl ⟨rfl, rfl⟩ (by show 3 ≤ 44; decide) (by first | exact Nat.zero_le _ | exact Nat.le_refl _ | exact Nat.le_succ 1 | decide) ?_
  repeat (first | refine And.intro (fun _ => ?_) (fun h => Bool.noConfusion h) | refine And.intro (fun h => Bool.noConfusion h) (fun _ => ?_))
  refine And.intro (fun h0 => ?_) (fun h0 => ?_)
  · have h0 := of_decide_eq_true h0
    repeat (first | refine And.intro (fun _ => ?_) (fun h => Bool.noConfusion h) | refine And.intro (fun h => Bool.noConfusion h) (fun _ => ?_))
    rw [inM_f (by omega)]
    exact And.intro rfl rfl
  have h0 := of_decide_eq_false h0
  repeat (first | refine And.intro (fun _ => ?_) (fun h => Bool.noConfusion h) | refine And.intro (fun h => Bool.noConfusion h) (fun _ => ?_))
  refine And.intro (fun h1 => ?_) (fun h1 => ?_)
  · have h1 := of_decide_eq_true h1
    repeat (first | refine And.intro (fun _ => ?_) (fun h => Bool.noConfusion h) | refine And.intro (fun h => Bool.noConfusion h) (fun _ => ?_))
    rw [inM_f (by omega)]
    exact And.intro rfl rfl
  have h1 := of_decide_eq_false h1
  repeat (first | refine And.intro (fun _ => ?_) (fun h => Bool.noConfusion h) | refine And.intro (fun h => Bool.noConfusion h) (fun _ => ?_))
  refine And.intro (fun h2 => ?_) (fun h2 => ?_)
  · have h2 := of_decide_eq_true h2
    repeat (first | refine And.intro (fun _ => ?_) (fun h => Bool.noConfusion h) | refine And.intro (fun h => Bool.noConfusion h) (fun _ => ?_))
    rw [inM_f (by omega)]
    exact And.intro rfl rfl
  have h2 := of_decide_eq_false h2
  repeat (first | refine And.intro (fun _ => ?_) (fun h => Bool.noConfusion h) | refine And.intro (fun h => Bool.noConfusion h) (fun _ => ?_))
  refine And.intro (fun h3 => ?_) (fun h3 => ?_)
  · have h3 := of_decide_eq_true h3
    repeat (first | refine And.intro (fun _ => ?_) (fun h => Bool.noConfusion h) | refine And.intro (fun h => Bool.noConfusion h) (fun _ => ?_))
    rw [inM_f (by omega)]
    exact And.intro rfl rfl
  have h3 := of_decide_eq_false h3
  repeat (first | refine And.intro (fun _ => ?_) (fun h => Bool.noConfusion h) | refine And.intro (fun h => Bool.noConfusion h) (fun _ => ?_))
  obtain ⟨q1, q2, q3, q4, q5⟩ := hm.at (a := a) (b := b) (by omega) (by omega) (by omega) (by omega)
  refine ⟨⟨65535, [0, 1, 2, 4, 0, 0, 32, 64, 128, 272, 0, 1536, 2056, 4096, 16383, 32767], [1, 3, 7, 15, 16, 32, 96, 224, 480, 1008, 1024, 4080, 8191, 16383, 32767, 65535]⟩, by kernel_rfl, ?_⟩
  refine ⟨(m.l).map rowI, rowI ((m.l)[(a * m.n + b).toNat]'q2), rfl, by rw [q5]; exact Int.natCast_nonneg _, row_at' rowI m.l q5 q2, rfl, of_decide_eq_true rfl, ?_⟩
  refine And.intro rfl ?_
  refine And.intro ?_ trivial
  refine And.intro (by repeat (first | exact trivial | refine And.intro ⟨rfl, rfl⟩ ?_ | refine And.intro ⟨_, _, rfl, by rw [q5]; exact Int.natCast_nonneg _, row_at' rowI m.l q5 q2, rfl, of_decide_eq_true rfl, And.intro rfl (And.intro rfl rfl)⟩ ?_)) ?_
  refine And.intro ?_ trivial
  refine And.intro (by repeat (first | exact trivial | refine And.intro ⟨rfl, rfl⟩ ?_ | refine And.intro ⟨_, _, rfl, by rw [q5]; exact Int.natCast_nonneg _, row_at' rowI m.l q5 q2, rfl, of_decide_eq_true rfl, And.intro rfl (And.intro rfl rfl)⟩ ?_)) ?_
  rw [inM_t (by omega) (by omega) (by omega) (by omega), List.getD_eq_getElem?_getD, List.getElem?_eq_getElem q2]
  exact And.intro rfl rfl
theorem c_drayref4_Time (m : Mp) (hm : okMp m) (a b : Int) {r b1 : Nat} {sto : List Ob} (hr : r ≤ sto.length) (hb : sto[b1]? = some (mbox m)) (hbr : b1 < r) : Tri Try.prog 49 r [.gptr b1 0, .int .i64 a, .int .i64 b] sto (fun d k => d = timeD m a b ∧ k = sto) :=
  (c_drayref4_Time_0 m hm a b).boxRO (nr_mcs m) rfl rfl (fun d h => by subst h; exact ⟨rfl, rfl⟩) hr hb hbr
end Go.Lv

namespace Go.Lv
open Go.Proofs

theorem c_drayref6_place_0 (m : Mp) (p : Int) : Tri Try.prog 101 1 [.gptr 0 0, .int .i64 p] [mbox m] (fun d k => d = .bool (decide (0 ≤ p ∧ p < m.n)) ∧ k = [mbox m]) := by
  refine Tri.walk2 (L := LT) (c := {n := 15, ko := [4]}) [] [0, 1, 4] hLT hmix Try.func101 rfl rfl ⟨rfl, rfl⟩ (by show 2 ≤ 15; decide) (by first | exact Nat.zero_le _ | exact Nat.le_refl _ | exact Nat.le_succ 1 | decide) ?_
  refine And.intro (fun h1 => ?_) (fun h1 => ?_)
  · have h1 := of_decide_eq_true h1
    repeat (first | refine And.intro (fun _ => ?_) (fun h => Bool.noConfusion h) | refine And.intro (fun h => Bool.noConfusion h) (fun _ => ?_))
    refine And.intro (fun h2 => ?_) (fun h2 => ?_)
    · rw [decide_eq_true (show 0 ≤ p ∧ p < m.n from ⟨h1, of_decide_eq_true h2⟩)]
      exact And.intro rfl rfl
    · rw [decide_eq_false (show ¬ (0 ≤ p ∧ p < m.n) from fun h => of_decide_eq_false h2 h.2)]
      exact And.intro rfl rfl
  · repeat (first | refine And.intro (fun _ => ?_) (fun h => Bool.noConfusion h) | refine And.intro (fun h => Bool.noConfusion h) (fun _ => ?_))
    rw [decide_eq_false (show ¬ (0 ≤ p ∧ p < m.n) from fun h => of_decide_eq_false h1 h.1)]
    exact And.intro rfl rfl
theorem c_drayref6_place (m : Mp) (p : Int) {r b : Nat} {sto : List Ob} (hr : r ≤ sto.length) (hb : sto[b]? = some (mbox m)) (hbr : b < r) : Tri Try.prog 101 r [.gptr b 0, .int .i64 p] sto (fun d k => d = .bool (decide (0 ≤ p ∧ p < m.n)) ∧ k = sto) :=
  (c_drayref6_place_0 m p).boxRO (nr_mcs m) rfl rfl (fun d h => by subst h; exact ⟨rfl, rfl⟩) hr hb hbr

set_option maxHeartbeats 4000000 in
theorem c_drayref6_Order_0 (m : Mp) (hm : okMp m) (o : Ord) : Tri Try.prog 100 1 [.gptr 0 0, .agg (rowO o)] [mbox m] (fun d k => d = .int .i64 (errO m.n o) ∧ k = [mbox m]) := by
  refine Tri.walk2 (L := LT) (c := {n := 78, ko := [4]}) [] [0, 1, 3, 4, 5, 18, 27, 42, 55] hLT hmix Try.func100 rfl rfl ⟨rfl, rfl⟩ (by show 2 ≤ 78; decide) (by first | exact Nat.zero_le _ | exact Nat.le_refl _ | exact Nat.le_succ 1 | decide) ?_
  repeat (first | refine And.intro (fun _ => ?_) (fun h => Bool.noConfusion h) | refine And.intro (fun h => Bool.noConfusion h) (fun _ => ?_))
  -- step
  refine And.intro (fun h0 => ?_) (fun h0 => ?_)
  · (repeat (first | refine And.intro (fun _ => ?_) (fun h => Bool.noConfusion h) | refine And.intro (fun h => Bool.noConfusion h) (fun _ => ?_)))
    simp only [rightW, Bool.not_eq_true', Bool.not_eq_false', decide_eq_true_eq, decide_eq_false_iff_not] at *
    unfold errO
    repeat (first | rw [if_pos (by omega)] | rw [if_neg (by omega)])
    exact And.intro rfl rfl
  repeat (first | refine And.intro (fun _ => ?_) (fun h => Bool.noConfusion h) | refine And.intro (fun h => Bool.noConfusion h) (fun _ => ?_))
  -- step
  refine And.intro (fun h1 => ?_) (fun h1 => ?_)
  · (repeat (first | refine And.intro (fun _ => ?_) (fun h => Bool.noConfusion h) | refine And.intro (fun h => Bool.noConfusion h) (fun _ => ?_)))
    simp only [rightW, Bool.not_eq_true', Bool.not_eq_false', decide_eq_true_eq, decide_eq_false_iff_not] at *
    unfold errO
    repeat (first | rw [if_pos (by omega)] | rw [if_neg (by omega)])
    exact And.intro rfl rfl
  repeat (first | refine And.intro (fun _ => ?_) (fun h => Bool.noConfusion h) | refine And.intro (fun h => Bool.noConfusion h) (fun _ => ?_))
  -- step
  refine And.intro (fun h2 => ?_) (fun h2 => ?_)
  · (repeat (first | refine And.intro (fun _ => ?_) (fun h => Bool.noConfusion h) | refine And.intro (fun h => Bool.noConfusion h) (fun _ => ?_)))
    simp only [rightW, Bool.not_eq_true', Bool.not_eq_false', decide_eq_true_eq, decide_eq_false_iff_not] at *
    unfold errO
    repeat (first | rw [if_pos (by omega)] | rw [if_neg (by omega)])
    exact And.intro rfl rfl
  repeat (first | refine And.intro (fun _ => ?_) (fun h => Bool.noConfusion h) | refine And.intro (fun h => Bool.noConfusion h) (fun _ => ?_))
  -- step
  refine And.intro (fun h3 => ?_) (fun h3 => ?_)
  · (repeat (first | refine And.intro (fun _ => ?_) (fun h => Bool.noConfusion h) | refine And.intro (fun h => Bool.noConfusion h) (fun _ => ?_)))
    simp only [rightW, Bool.not_eq_true', Bool.not_eq_false', decide_eq_true_eq, decide_eq_false_iff_not] at *
    unfold errO
    repeat (first | rw [if_pos (by omega)] | rw [if_neg (by omega)])
    exact And.intro rfl rfl
  repeat (first | refine And.intro (fun _ => ?_) (fun h => Bool.noConfusion h) | refine And.intro (fun h => Bool.noConfusion h) (fun _ => ?_))
  -- step
  refine ⟨rfl, (by first | exact Nat.zero_le _ | exact Nat.le_refl _ | exact Nat.le_succ 1 | decide), (c_drayref6_place m o.pick.place (r := 1) (sto := [mbox m]) (Nat.le_refl 1) rfl (Nat.lt_succ_self 0)).mono ?_⟩
  rintro d l ⟨rfl, rfl⟩
  refine ⟨rfl, fun _ _ => rfl, rfl, ?_⟩
  cases h4 : decide (0 ≤ o.pick.place ∧ o.pick.place < m.n)
  · (repeat (first | refine And.intro (fun _ => ?_) (fun h => Bool.noConfusion h) | refine And.intro (fun h => Bool.noConfusion h) (fun _ => ?_)))
    simp only [rightW, Bool.not_eq_true', Bool.not_eq_false', decide_eq_true_eq, decide_eq_false_iff_not] at *
    unfold errO
    repeat (first | rw [if_pos (by omega)] | rw [if_neg (by omega)])
    exact And.intro rfl rfl
  repeat (first | refine And.intro (fun _ => ?_) (fun h => Bool.noConfusion h) | refine And.intro (fun h => Bool.noConfusion h) (fun _ => ?_))
  -- step
  refine ⟨rfl, (by first | exact Nat.zero_le _ | exact Nat.le_refl _ | exact Nat.le_succ 1 | decide), (c_drayref6_place m o.drop.place (r := 1) (sto := [mbox m]) (Nat.le_refl 1) rfl (Nat.lt_succ_self 0)).mono ?_⟩
  rintro d l ⟨rfl, rfl⟩
  refine ⟨rfl, fun _ _ => rfl, rfl, ?_⟩
  cases h5 : decide (0 ≤ o.drop.place ∧ o.drop.place < m.n)
  · (repeat (first | refine And.intro (fun _ => ?_) (fun h => Bool.noConfusion h) | refine And.intro (fun h => Bool.noConfusion h) (fun _ => ?_)))
    simp only [rightW, Bool.not_eq_true', Bool.not_eq_false', decide_eq_true_eq, decide_eq_false_iff_not] at *
    unfold errO
    repeat (first | rw [if_pos (by omega)] | rw [if_neg (by omega)])
    exact And.intro rfl rfl
  repeat (first | refine And.intro (fun _ => ?_) (fun h => Bool.noConfusion h) | refine And.intro (fun h => Bool.noConfusion h) (fun _ => ?_))
  -- step
  refine ⟨rfl, (by first | exact Nat.zero_le _ | exact Nat.le_refl _ | exact Nat.le_succ 1 | decide), (c_drayref4_Right o.pick.w (r := 1) (sto := [mbox m]) (Nat.le_refl 1)).mono ?_⟩
  rintro d l ⟨rfl, rfl⟩
  refine ⟨rfl, fun _ _ => rfl, rfl, ?_⟩
  cases h6 : rightW o.pick.w
  · (repeat (first | refine And.intro (fun _ => ?_) (fun h => Bool.noConfusion h) | refine And.intro (fun h => Bool.noConfusion h) (fun _ => ?_)))
    simp only [rightW, Bool.not_eq_true', Bool.not_eq_false', decide_eq_true_eq, decide_eq_false_iff_not] at *
    unfold errO
    repeat (first | rw [if_pos (by omega)] | rw [if_neg (by omega)])
    exact And.intro rfl rfl
  repeat (first | refine And.intro (fun _ => ?_) (fun h => Bool.noConfusion h) | refine And.intro (fun h => Bool.noConfusion h) (fun _ => ?_))
  -- step
  refine ⟨rfl, (by first | exact Nat.zero_le _ | exact Nat.le_refl _ | exact Nat.le_succ 1 | decide), (c_drayref4_Right o.drop.w (r := 1) (sto := [mbox m]) (Nat.le_refl 1)).mono ?_⟩
  rintro d l ⟨rfl, rfl⟩
  refine ⟨rfl, fun _ _ => rfl, rfl, ?_⟩
  cases h7 : rightW o.drop.w
  · (repeat (first | refine And.intro (fun _ => ?_) (fun h => Bool.noConfusion h) | refine And.intro (fun h => Bool.noConfusion h) (fun _ => ?_)))
    simp only [rightW, Bool.not_eq_true', Bool.not_eq_false', decide_eq_true_eq, decide_eq_false_iff_not] at *
    unfold errO
    repeat (first | rw [if_pos (by omega)] | rw [if_neg (by omega)])
    exact And.intro rfl rfl
  repeat (first | refine And.intro (fun _ => ?_) (fun h => Bool.noConfusion h) | refine And.intro (fun h => Bool.noConfusion h) (fun _ => ?_))
  -- step
  refine And.intro (fun h8 => ?_) (fun h8 => ?_)
  · (repeat (first | refine And.intro (fun _ => ?_) (fun h => Bool.noConfusion h) | refine And.intro (fun h => Bool.noConfusion h) (fun _ => ?_)))
    simp only [rightW, Bool.not_eq_true', Bool.not_eq_false', decide_eq_true_eq, decide_eq_false_iff_not] at *
    unfold errO
    repeat (first | rw [if_pos (by omega)] | rw [if_neg (by omega)])
    exact And.intro rfl rfl
  repeat (first | refine And.intro (fun _ => ?_) (fun h => Bool.noConfusion h) | refine And.intro (fun h => Bool.noConfusion h) (fun _ => ?_))
  -- step
  refine And.intro (fun h9 => ?_) (fun h9 => ?_)
  · (repeat (first | refine And.intro (fun _ => ?_) (fun h => Bool.noConfusion h) | refine And.intro (fun h => Bool.noConfusion h) (fun _ => ?_)))
    simp only [rightW, Bool.not_eq_true', Bool.not_eq_false', decide_eq_true_eq, decide_eq_false_iff_not] at *
    unfold errO
    repeat (first | rw [if_pos (by omega)] | rw [if_neg (by omega)])
    exact And.intro rfl rfl
  repeat (first | refine And.intro (fun _ => ?_) (fun h => Bool.noConfusion h) | refine And.intro (fun h => Bool.noConfusion h) (fun _ => ?_))
  -- step
  refine And.intro (fun h10 => ?_) (fun h10 => ?_)
  · (repeat (first | refine And.intro (fun _ => ?_) (fun h => Bool.noConfusion h) | refine And.intro (fun h => Bool.noConfusion h) (fun _ => ?_)))
    simp only [rightW, Bool.not_eq_true', Bool.not_eq_false', decide_eq_true_eq, decide_eq_false_iff_not] at *
    unfold errO
    repeat (first | rw [if_pos (by omega)] | rw [if_neg (by omega)])
    exact And.intro rfl rfl
  repeat (first | refine And.intro (fun _ => ?_) (fun h => Bool.noConfusion h) | refine And.intro (fun h => Bool.noConfusion h) (fun _ => ?_))
  -- step
  refine And.intro (fun h11 => ?_) (fun h11 => ?_)
  · (repeat (first | refine And.intro (fun _ => ?_) (fun h => Bool.noConfusion h) | refine And.intro (fun h => Bool.noConfusion h) (fun _ => ?_)))
    simp only [rightW, Bool.not_eq_true', Bool.not_eq_false', decide_eq_true_eq, decide_eq_false_iff_not] at *
    unfold errO
    repeat (first | rw [if_pos (by omega)] | rw [if_neg (by omega)])
    exact And.intro rfl rfl
  repeat (first | refine And.intro (fun _ => ?_) (fun h => Bool.noConfusion h) | refine And.intro (fun h => Bool.noConfusion h) (fun _ => ?_))
  simp only [rightW, Bool.not_eq_true', Bool.not_eq_false', decide_eq_true_eq, decide_eq_false_iff_not] at *
  unfold errO
  repeat (first | rw [if_pos (by omega)] | rw [if_neg (by omega)])
  exact And.intro rfl rfl
theorem c_drayref6_Order (m : Mp) (hm : okMp m) (o : Ord) {r b : Nat} {sto : List Ob} (hr : r ≤ sto.length) (hb : sto[b]? = some (mbox m)) (hbr : b < r) : Tri Try.prog 100 r [.gptr b 0, .agg (rowO o)] sto (fun d k => d = .int .i64 (errO m.n o) ∧ k = sto) :=
  (c_drayref6_Order_0 m hm o).boxRO (nr_mcs m) rfl rfl (fun d h => by subst h; exact ⟨rfl, rfl⟩) hr hb hbr
set_option maxHeartbeats 4000000 in
theorem c_drayref6_Driver_0 (m : Mp) (hm : okMp m) (e : Drv) : Tri Try.prog 68 1 [.gptr 0 0, .agg (rowDr e)] [mbox m] (fun d k => d = .int .i64 (errD m.n e) ∧ k = [mbox m]) := by
  refine Tri.walk2 (L := LT) (c := {n := 38, ko := [4]}) [] [0, 1, 3, 4, 5, 18, 27, 33] hLT hmix Try.func68 rfl rfl ⟨rfl, rfl⟩ (by show 2 ≤ 38; decide) (by first | exact Nat.zero_le _ | exact Nat.le_refl _ | exact Nat.le_succ 1 | decide) ?_
  repeat (first | refine And.intro (fun _ => ?_) (fun h => Bool.noConfusion h) | refine And.intro (fun h => Bool.noConfusion h) (fun _ => ?_))
  -- step
  refine And.intro (fun h0 => ?_) (fun h0 => ?_)
  · (repeat (first | refine And.intro (fun _ => ?_) (fun h => Bool.noConfusion h) | refine And.intro (fun h => Bool.noConfusion h) (fun _ => ?_)))
    simp only [rightW, Bool.not_eq_true', Bool.not_eq_false', decide_eq_true_eq, decide_eq_false_iff_not] at *
    unfold errD
    repeat (first | rw [if_pos (by omega)] | rw [if_neg (by omega)])
    exact And.intro rfl rfl
  repeat (first | refine And.intro (fun _ => ?_) (fun h => Bool.noConfusion h) | refine And.intro (fun h => Bool.noConfusion h) (fun _ => ?_))
  -- step
  refine And.intro (fun h1 => ?_) (fun h1 => ?_)
  · (repeat (first | refine And.intro (fun _ => ?_) (fun h => Bool.noConfusion h) | refine And.intro (fun h => Bool.noConfusion h) (fun _ => ?_)))
    simp only [rightW, Bool.not_eq_true', Bool.not_eq_false', decide_eq_true_eq, decide_eq_false_iff_not] at *
    unfold errD
    repeat (first | rw [if_pos (by omega)] | rw [if_neg (by omega)])
    exact And.intro rfl rfl
  repeat (first | refine And.intro (fun _ => ?_) (fun h => Bool.noConfusion h) | refine And.intro (fun h => Bool.noConfusion h) (fun _ => ?_))
  -- step
  refine And.intro (fun h2 => ?_) (fun h2 => ?_)
  · (repeat (first | refine And.intro (fun _ => ?_) (fun h => Bool.noConfusion h) | refine And.intro (fun h => Bool.noConfusion h) (fun _ => ?_)))
    simp only [rightW, Bool.not_eq_true', Bool.not_eq_false', decide_eq_true_eq, decide_eq_false_iff_not] at *
    unfold errD
    repeat (first | rw [if_pos (by omega)] | rw [if_neg (by omega)])
    exact And.intro rfl rfl
  repeat (first | refine And.intro (fun _ => ?_) (fun h => Bool.noConfusion h) | refine And.intro (fun h => Bool.noConfusion h) (fun _ => ?_))
  -- step
  refine And.intro (fun h3 => ?_) (fun h3 => ?_)
  · (repeat (first | refine And.intro (fun _ => ?_) (fun h => Bool.noConfusion h) | refine And.intro (fun h => Bool.noConfusion h) (fun _ => ?_)))
    simp only [rightW, Bool.not_eq_true', Bool.not_eq_false', decide_eq_true_eq, decide_eq_false_iff_not] at *
    unfold errD
    repeat (first | rw [if_pos (by omega)] | rw [if_neg (by omega)])
    exact And.intro rfl rfl
  repeat (first | refine And.intro (fun _ => ?_) (fun h => Bool.noConfusion h) | refine And.intro (fun h => Bool.noConfusion h) (fun _ => ?_))
  -- step
  refine ⟨rfl, (by first | exact Nat.zero_le _ | exact Nat.le_refl _ | exact Nat.le_succ 1 | decide), (c_drayref6_place m e.home (r := 1) (sto := [mbox m]) (Nat.le_refl 1) rfl (Nat.lt_succ_self 0)).mono ?_⟩
  rintro d l ⟨rfl, rfl⟩
  refine ⟨rfl, fun _ _ => rfl, rfl, ?_⟩
  cases h4 : decide (0 ≤ e.home ∧ e.home < m.n)
  · (repeat (first | refine And.intro (fun _ => ?_) (fun h => Bool.noConfusion h) | refine And.intro (fun h => Bool.noConfusion h) (fun _ => ?_)))
    simp only [rightW, Bool.not_eq_true', Bool.not_eq_false', decide_eq_true_eq, decide_eq_false_iff_not] at *
    unfold errD
    repeat (first | rw [if_pos (by omega)] | rw [if_neg (by omega)])
    exact And.intro rfl rfl
  repeat (first | refine And.intro (fun _ => ?_) (fun h => Bool.noConfusion h) | refine And.intro (fun h => Bool.noConfusion h) (fun _ => ?_))
  -- step
  refine ⟨rfl, (by first | exact Nat.zero_le _ | exact Nat.le_refl _ | exact Nat.le_succ 1 | decide), (c_drayref4_Right e.w (r := 1) (sto := [mbox m]) (Nat.le_refl 1)).mono ?_⟩
  rintro d l ⟨rfl, rfl⟩
  refine ⟨rfl, fun _ _ => rfl, rfl, ?_⟩
  cases h5 : rightW e.w
  · (repeat (first | refine And.intro (fun _ => ?_) (fun h => Bool.noConfusion h) | refine And.intro (fun h => Bool.noConfusion h) (fun _ => ?_)))
    simp only [rightW, Bool.not_eq_true', Bool.not_eq_false', decide_eq_true_eq, decide_eq_false_iff_not] at *
    unfold errD
    repeat (first | rw [if_pos (by omega)] | rw [if_neg (by omega)])
    exact And.intro rfl rfl
  repeat (first | refine And.intro (fun _ => ?_) (fun h => Bool.noConfusion h) | refine And.intro (fun h => Bool.noConfusion h) (fun _ => ?_))
  simp only [rightW, Bool.not_eq_true', Bool.not_eq_false', decide_eq_true_eq, decide_eq_false_iff_not] at *
  unfold errD
  repeat (first | rw [if_pos (by omega)] | rw [if_neg (by omega)])
  exact And.intro rfl rfl
theorem c_drayref6_Driver (m : Mp) (hm : okMp m) (e : Drv) {r b : Nat} {sto : List Ob} (hr : r ≤ sto.length) (hb : sto[b]? = some (mbox m)) (hbr : b < r) : Tri Try.prog 68 r [.gptr b 0, .agg (rowDr e)] sto (fun d k => d = .int .i64 (errD m.n e) ∧ k = sto) :=
  (c_drayref6_Driver_0 m hm e).boxRO (nr_mcs m) rfl rfl (fun d h => by subst h; exact ⟨rfl, rfl⟩) hr hb hbr
end Go.Lv

namespace Go.Lv
open Go.Proofs

noncomputable def sKr (m : Mp) (os : List Ord) (i : Nat) : DS := ⟨[(0, .gptr 0 0), (1, encOs os), (5, .int .i64 (i : Int)), (4, .bool false)], [], [mbox m], mR 1⟩
noncomputable def sKr2 (m : Mp) (os : List Ord) (i j : Nat) : DS := ⟨[(0, .gptr 0 0), (1, encOs os), (5, .int .i64 (i : Int)), (6, .int .i64 (j : Int)), (4, .bool false)], [], [mbox m], mR 1⟩
set_option maxHeartbeats 4000000 in
theorem c_drayref6_Known_0 (m : Mp) (hm : okMp m) (os : List Ord) : Tri Try.prog 66 1 [.gptr 0 0, encOs os] [mbox m] (fun d k => d = .bool (decide (okOs m.n os)) ∧ k = [mbox m]) := by
  refine Tri.walk2 (L := LT) (c := {n := 39, ko := [4]}) [] [0, 1, 4, 5, 6, 9, 13, 22, 25, 38] hLT hmix Try.func66 rfl rfl ⟨rfl, rfl⟩ (by show 2 ≤ 39; decide) (by first | exact Nat.zero_le _ | exact Nat.le_refl _ | exact Nat.le_succ 1 | decide) ?_
  refine And.intro (fun h0 => ?_) (fun h0 => ?_)
  · have h0 : ((os.map rowO).length : Int) > 40 := of_decide_eq_true h0
    rw [List.length_map] at h0
    rw [decide_eq_false (show ¬ okOs m.n os from fun h => by have := h.1; omega)]
    exact And.intro rfl rfl
  have h0 : ¬ ((os.map rowO).length : Int) > 40 := of_decide_eq_false h0
  rw [List.length_map] at h0
  show Ok _ _ _ _ _
  refine Ok.loopN hLT hmix [] [0, 1, 4, 5, 6, 9, 13, 22, 25, 38] [0,1,5,4] [] (fun n s => ∃ i : Nat, n = os.length - i ∧ i ≤ os.length ∧ (∀ o, o ∈ os.take i → errO m.n o = 0) ∧ (os.take i).Pairwise (fun a b => a.id ≠ b.id) ∧ s = sKr m os i) (n := os.length) ⟨0, rfl, Nat.zero_le _, by simp, by simp, rfl⟩ ?_
  rintro n s ⟨i, rfl, hi, hall, hpw, rfl⟩
  refine And.intro (fun h1 => ?_) (fun h1 => ?_)
  rotate_left
  · have h1 : ¬ ((i : Nat) : Int) < ((os.map rowO).length : Int) := of_decide_eq_false h1
    rw [List.length_map] at h1
    rw [List.take_of_length_le (by omega)] at hall hpw
    rw [decide_eq_true (show okOs m.n os from ⟨by omega, hall, hpw⟩)]
    exact And.intro rfl rfl
  have h1 : ((i : Nat) : Int) < ((os.map rowO).length : Int) := of_decide_eq_true h1
  rw [List.length_map] at h1
  have hil : i < os.length := by omega
  have hw := wrap_succ (i := i) (n := os.length) hil (by omega)
  refine ⟨(os).map rowO, rowO ((os)[i]'(by omega)), rfl, by omega, row_at' rowO (os) (by omega) (by omega), rfl, of_decide_eq_true rfl, ?_⟩
  refine ⟨rfl, (by first | exact Nat.zero_le _ | exact Nat.le_refl _ | exact Nat.le_succ 1 | decide), (c_drayref6_Order m hm os[i] (r := 1) (sto := [mbox m]) (Nat.le_refl 1) rfl (Nat.lt_succ_self 0)).mono ?_⟩
  rintro d l ⟨rfl, rfl⟩
  refine ⟨rfl, fun _ _ => rfl, rfl, ?_⟩
  refine And.intro (fun h2 => ?_) (fun h2 => ?_)
  · have h2 := nd_true h2
    rw [decide_eq_false (show ¬ okOs m.n os from fun h => h2 (h.2.1 _ (List.getElem_mem _)))]
    exact And.intro rfl rfl
  have h2 := nd_false h2
  show Ok _ _ _ _ _
  refine Ok.loopN hLT hmix [] [0, 1, 4, 5, 6, 9, 13, 22, 25, 38] [0,1,5,6,4] [] (fun n s => ∃ j : Nat, n = i - j ∧ j ≤ i ∧ (∀ x, x ∈ os.take j → x.id ≠ os[i].id) ∧ s = sKr2 m os i j) (n := i) ⟨0, rfl, Nat.zero_le _, by simp, rfl⟩ ?_
  rintro n s ⟨j, rfl, hj, hne, rfl⟩
  refine And.intro (fun h3 => ?_) (fun h3 => ?_)
  · have h3 : ((j : Nat) : Int) < (i : Int) := of_decide_eq_true h3
    have hwj := wrap_succ (i := j) (n := i) (by omega) (by omega)
    refine ⟨⟨2047, [0, 0, 3, 4, 8, 0, 0, 96, 128, 256, 528], [1, 2, 7, 15, 31, 32, 64, 224, 480, 992, 2047]⟩, by kernel_rfl, ?_⟩
    refine ⟨(os).map rowO, rowO ((os)[j]'(by omega)), rfl, by omega, row_at' rowO (os) (by omega) (by omega), rfl, of_decide_eq_true rfl, ?_⟩
    refine And.intro rfl ?_
    refine ⟨(os).map rowO, rowO ((os)[i]'(by omega)), rfl, by omega, row_at' rowO (os) (by omega) (by omega), rfl, of_decide_eq_true rfl, ?_⟩
    refine And.intro rfl ?_
    refine And.intro (fun h4 => ?_) (fun h4 => ?_)
    · have h4 := of_decide_eq_true h4
      rw [decide_eq_false (show ¬ okOs m.n os from fun h => pw_no hil (show j < i by omega) h4 h.2.2)]
      exact And.intro rfl rfl
    have h4 := of_decide_eq_false h4
    refine ⟨i - (j + 1), by omega, j + 1, rfl, by omega, fun x hx => ?_, ?_⟩
    · rw [List.take_succ_eq_append_getElem (by omega)] at hx
      rcases List.mem_append.1 hx with hx | hx
      · exact hne x hx
      · rw [List.mem_singleton.1 hx]
        exact h4
    · unfold sKr2
      rw [← hwj]
      rfl
  have h3 : ¬ ((j : Nat) : Int) < (i : Int) := of_decide_eq_false h3
  have hji : j = i := by omega
  subst hji
  refine ⟨os.length - (j + 1), by omega, j + 1, rfl, by omega, fun x hx => ?_, pw_snoc hil hpw hne, ?_⟩
  · rw [List.take_succ_eq_append_getElem hil] at hx
    rcases List.mem_append.1 hx with hx | hx
    · exact hall x hx
    · rw [List.mem_singleton.1 hx]
      exact h2
  · unfold sKr
    rw [← hw]
    rfl
theorem c_drayref6_Known (m : Mp) (hm : okMp m) (os : List Ord) {r b : Nat} {sto : List Ob} (hr : r ≤ sto.length) (hb : sto[b]? = some (mbox m)) (hbr : b < r) : Tri Try.prog 66 r [.gptr b 0, encOs os] sto (fun d k => d = .bool (decide (okOs m.n os)) ∧ k = sto) :=
  (c_drayref6_Known_0 m hm os).boxRO (nr_mcs m) rfl (nrBL_O rfl) (fun d h => by subst h; exact ⟨rfl, rfl⟩) hr hb hbr
end Go.Lv

namespace Go.Lv
open Go.Proofs

noncomputable def idxOA (id : Int) : Nat → List Ord → Int
  | _, [] => -1
  | i, o :: r => if o.id = id then (i : Int) else idxOA id (i + 1) r
noncomputable def idxO (id : Int) (os : List Ord) : Int := idxOA id 0 os
theorem idxOA_at {id : Int} {os : List Ord} {i : Nat} (h : i < os.length) : idxOA id i (os.drop i) = if os[i].id = id then (i : Int) else idxOA id (i + 1) (os.drop (i + 1)) := by
  rw [List.drop_eq_getElem_cons h]
  rfl
theorem idxOA_find {id : Int} : ∀ {os : List Ord} {k : Nat}, (findO id os = none ∧ idxOA id k os = -1) ∨ ∃ (i : Nat) (h : i < os.length), idxOA id k os = ((k + i : Nat) : Int) ∧ findO id os = some os[i]
  | [], k => .inl ⟨rfl, rfl⟩
  | o :: r, k => by
    unfold findO idxOA
    split
    · exact .inr ⟨0, by simp, by simp, rfl⟩
    · rcases idxOA_find (id := id) (os := r) (k := k + 1) with h | ⟨i, h, h1, h2⟩
      · exact .inl h
      · exact .inr ⟨i + 1, by simp; omega, by rw [h1]; omega, by rw [h2]; rfl⟩
theorem idxO_find (id : Int) (os : List Ord) : (findO id os = none ∧ idxO id os = -1) ∨ ∃ (i : Nat) (h : i < os.length), idxO id os = (i : Int) ∧ findO id os = some os[i] := by
  rcases idxOA_find (id := id) (os := os) (k := 0) with h | ⟨i, h, h1, h2⟩
  · exact .inl h
  · exact .inr ⟨i, h, by rw [← Nat.zero_add i]; exact h1, h2⟩
noncomputable def sFx (os : List Ord) (id : Int) (i : Nat) : DS := ⟨[(0, encOs os), (1, .int .i64 id), (5, .int .i64 (i : Int)), (4, .int .i64 0)], [], [], mR 0⟩
set_option maxHeartbeats 4000000 in
theorem c_drayref6_Find_0 (os : List Ord) (hl : os.length ≤ 1000000000000000) (id : Int) : Tri Try.prog 48 0 [encOs os, .int .i64 id] [] (fun d k => d = .int .i64 (idxO id os) ∧ k = []) := by
  refine Tri.walk2 (L := LT) (c := {n := 20, ko := [4]}) [] [0, 1, 4, 5, 9, 18] hLT hmix Try.func48 rfl rfl ⟨rfl, rfl⟩ (by show 2 ≤ 20; decide) (by first | exact Nat.zero_le _ | exact Nat.le_refl _ | exact Nat.le_succ 1 | decide) ?_
  show Ok _ _ _ _ _
  refine Ok.loopN hLT hmix [] [0, 1, 4, 5, 9, 18] [0,1,5,4] [] (fun n s => ∃ i : Nat, n = os.length - i ∧ i ≤ os.length ∧ idxOA id i (os.drop i) = idxO id os ∧ s = sFx os id i) (n := os.length) ⟨0, rfl, Nat.zero_le _, rfl, rfl⟩ ?_
  rintro n s ⟨i, rfl, hi, hix, rfl⟩
  refine And.intro (fun h1 => ?_) (fun h1 => ?_)
  · have h1 : ((i : Nat) : Int) < ((os.map rowO).length : Int) := of_decide_eq_true h1
    rw [List.length_map] at h1
    have hw := wrap_succ (i := i) (n := os.length) (by omega) hl
    rw [idxOA_at (by omega)] at hix
    refine ⟨(os).map rowO, rowO ((os)[i]'(by omega)), rfl, by omega, row_at' rowO (os) (by omega) (by omega), rfl, of_decide_eq_true rfl, ?_⟩
    refine And.intro (fun h2 => ?_) (fun h2 => ?_)
    · have h2 : os[i].id = id := of_decide_eq_true h2
      rw [if_pos h2] at hix
      rw [← hix]
      exact And.intro rfl rfl
    · have h2 : ¬ os[i].id = id := of_decide_eq_false h2
      rw [if_neg h2] at hix
      refine ⟨os.length - (i + 1), by omega, i + 1, rfl, by omega, hix, ?_⟩
      unfold sFx
      rw [← hw]
      rfl
  · have h1 : ¬ ((i : Nat) : Int) < ((os.map rowO).length : Int) := of_decide_eq_false h1
    rw [List.length_map] at h1
    rw [List.drop_eq_nil_of_le (by omega)] at hix
    rw [← hix]
    exact And.intro rfl rfl
theorem c_drayref6_Find (os : List Ord) (hl : os.length ≤ 1000000000000000) (id : Int) {r : Nat} {sto : List Ob} (hr : r ≤ sto.length) : Tri Try.prog 48 r [encOs os, .int .i64 id] sto (fun d k => d = .int .i64 (idxO id os) ∧ k = sto) :=
  (c_drayref6_Find_0 os hl id).pure rfl (nrBL_O rfl) rfl rfl hr
theorem c_drayref6_Site_0 (o : Ord) (s : Stp) : Tri Try.prog 47 0 [.agg (rowO o), .agg (rowS s)] [] (fun d k => d = .agg (rowSi (siteO o s.drop)) ∧ k = []) := by
  obtain ⟨n, b⟩ := s
  cases b with
  | true =>
    refine Tri.walk2 (L := LT) (c := {n := 11, kb := [4]}) [] [0, 1, 2, 3, 4, 6] hLT hmix Try.func47 rfl rfl ⟨rfl, rfl⟩ (by show 2 ≤ 11; decide) (by first | exact Nat.zero_le _ | exact Nat.le_refl _ | exact Nat.le_succ 1 | decide) ?_
    repeat (first | refine And.intro (fun _ => ?_) (fun h => Bool.noConfusion h) | refine And.intro (fun h => Bool.noConfusion h) (fun _ => ?_))
    exact And.intro rfl rfl
  | false =>
    refine Tri.walk2 (L := LT) (c := {n := 11, kb := [4]}) [] [0, 1, 2, 3, 4, 6] hLT hmix Try.func47 rfl rfl ⟨rfl, rfl⟩ (by show 2 ≤ 11; decide) (by first | exact Nat.zero_le _ | exact Nat.le_refl _ | exact Nat.le_succ 1 | decide) ?_
    repeat (first | refine And.intro (fun _ => ?_) (fun h => Bool.noConfusion h) | refine And.intro (fun h => Bool.noConfusion h) (fun _ => ?_))
    exact And.intro rfl rfl
theorem c_drayref6_Site (o : Ord) (s : Stp) {r : Nat} {sto : List Ob} (hr : r ≤ sto.length) : Tri Try.prog 47 r [.agg (rowO o), .agg (rowS s)] sto (fun d k => d = .agg (rowSi (siteO o s.drop)) ∧ k = sto) :=
  (c_drayref6_Site_0 o s).pure rfl rfl rfl rfl hr
noncomputable def sHas (l : List Stp) (v : Stp) (i : Nat) : DS := ⟨[(0, .list .imm (l.map rowS)), (5, .int .i64 (i : Int)), (3, .lptr 3 0 0), (4, .bool false)], [(3, rowS v)], [], mR 0⟩
set_option maxHeartbeats 4000000 in
theorem c_drayref6_has_0 (l : List Stp) (hl : l.length ≤ 1000000000000000) (v : Stp) : Tri Try.prog 69 0 [.list .imm (l.map rowS), .agg (rowS v)] [] (fun d k => d = .bool (decide (v ∈ l)) ∧ k = []) := by
  refine Tri.walk2 (L := LT) (c := {n := 18, ko := [4]}) [] [0, 1, 3, 4, 5, 9, 17] hLT hmix Try.func69 rfl rfl ⟨rfl, rfl⟩ (by show 2 ≤ 18; decide) (by first | exact Nat.zero_le _ | exact Nat.le_refl _ | exact Nat.le_succ 1 | decide) ?_
  show Ok _ _ _ _ _
  refine Ok.loopN hLT hmix [] [0, 1, 3, 4, 5, 9, 17] [0,5,3,4] [3] (fun n s => ∃ i : Nat, n = l.length - i ∧ i ≤ l.length ∧ v ∉ l.take i ∧ s = sHas l v i) (n := l.length) ⟨0, rfl, Nat.zero_le _, by simp, rfl⟩ ?_
  rintro n s ⟨i, rfl, hi, hn, rfl⟩
  refine And.intro (fun h1 => ?_) (fun h1 => ?_)
  · have h1 : ((i : Nat) : Int) < ((l.map rowS).length : Int) := of_decide_eq_true h1
    rw [List.length_map] at h1
    have hw := wrap_succ (i := i) (n := l.length) (by omega) hl
    refine ⟨⟨63, [0, 0, 3, 4, 0, 24], [1, 2, 7, 15, 16, 63]⟩, by kernel_rfl, ?_⟩
    refine ⟨(l).map rowS, rowS ((l)[i]'(by omega)), rfl, by omega, row_at' rowS (l) (by omega) (by omega), rfl, of_decide_eq_true rfl, ?_⟩
    refine And.intro rfl ?_
    refine And.intro (fun h2 => ?_) (fun h2 => ?_)
    · have h2 := stp_eq h2
      rw [decide_eq_true (show v ∈ l by rw [← h2]; exact List.getElem_mem _)]
      exact And.intro rfl rfl
    · have h2 := stp_ne h2
      refine ⟨l.length - (i + 1), by omega, i + 1, rfl, by omega, ?_, ?_⟩
      · rw [List.take_succ_eq_append_getElem (by omega), List.mem_append]
        rintro (h | h)
        · exact hn h
        · exact h2 (List.mem_singleton.1 h).symm
      · unfold sHas
        rw [← hw]
        rfl
  · have h1 : ¬ ((i : Nat) : Int) < ((l.map rowS).length : Int) := of_decide_eq_false h1
    rw [List.length_map] at h1
    rw [List.take_of_length_le (by omega)] at hn
    rw [decide_eq_false hn]
    exact And.intro rfl rfl
theorem c_drayref6_has (l : List Stp) (hl : l.length ≤ 1000000000000000) {xs : List (List D)} (hx : xs = l.map rowS) (v : Stp) {r : Nat} {sto : List Ob} (hr : r ≤ sto.length) : Tri Try.prog 69 r [.list .imm xs, .agg (rowS v)] sto (fun d k => d = .bool (decide (v ∈ l)) ∧ k = sto) := by
  subst hx
  exact (c_drayref6_has_0 l hl v).pure rfl (nrBL_S rfl) rfl rfl hr
end Go.Lv

namespace Go.Lv
open Go.Proofs

noncomputable def driveR (m : Mp) (d : Drv) (os : List Ord) (st : List Stp) : List Vis × Int × Int := if fitD m d os st then timed m d os st else ([], 0, 1)
noncomputable def costD (m : Mp) (d : Drv) (os : List Ord) (st : List Stp) : D := if (driveR m d os st).2.2 = 0 then .tup [.int .i64 (wayP m d os st), .bool true] else .tup [.int .i64 0, .bool false]
end Go.Lv

namespace Go.Lv
open Go.Proofs

noncomputable def srvX (m : Mp) (a left : Int) (si : Sit) (u : Int) : Option Int := match beginW si.w (left + timeM m a si.place) with
  | none => none
  | some b => if b + si.serv > u then none else some b
noncomputable def srvD (si : Sit) : Option Int → D
  | none => .tup [.int .i64 0, .int .i64 0, .bool false]
  | some b => .tup [.int .i64 b, .int .i64 (b + si.serv), .bool true]
theorem srvD_ok (si : Sit) (x : Option Int) : partsOK (srvD si x) = true ∧ nrB 0 (srvD si x) = true := by
  cases x <;> exact ⟨rfl, rfl⟩
theorem srvX_some {m : Mp} {a left : Int} {si : Sit} {u b : Int} (h : srvX m a left si u = some b) : beginW si.w (left + timeM m a si.place) = some b ∧ b + si.serv ≤ u := by
  unfold srvX at h
  cases hb : beginW si.w (left + timeM m a si.place) with
  | none => rw [hb] at h; cases h
  | some c =>
    rw [hb] at h
    replace h : (if c + si.serv > u then none else some c) = some b := h
    split at h
    · cases h
    · cases h
      exact ⟨rfl, by omega⟩
set_option maxHeartbeats 4000000 in
theorem c_drayref6_served_0 (m : Mp) (hm : okMp m) (a left : Int) (si : Sit) (u : Int) (h0 : 0 ≤ left) (h1 : left ≤ 1000000) (h2 : 0 ≤ si.serv) (h3 : si.serv ≤ 1000000) : Tri Try.prog 70 1 [.gptr 0 0, .int .i64 a, .int .i64 left, .agg (rowSi si), .int .i64 u] [mbox m] (fun d k => d = srvD si (srvX m a left si u) ∧ k = [mbox m]) := by
  refine Tri.walk2 (L := LT) (c := {n := 49, ko := [10, 11, 12], xf := [17, 25]}) [] [0, 1, 2, 3, 4, 8, 10, 11, 12, 13, 15, 16, 43] hLT hmix Try.func70 rfl rfl ⟨rfl, rfl⟩ (by show 5 ≤ 49; decide) (by first | exact Nat.zero_le _ | exact Nat.le_refl _ | exact Nat.le_succ 1 | decide) ?_
  have htm := c_drayref4_Time m hm a si.place (r := 1) (sto := [mbox m]) (Nat.le_refl 1) rfl (Nat.lt_succ_self 0)
  unfold timeD at htm
  have hwy := timeM_le hm a si.place
  unfold srvX
  generalize timeM m a si.place = way at htm hwy ⊢
  generalize inM m a si.place = wayb at htm
  have hwn : IntKind.i64.wrap (left + way) = left + way := wrap64 (by omega) (by omega)
  have hbg := c_drayref4_Begin si.w (IntKind.i64.wrap (left + way)) (r := 1) (sto := [mbox m]) (Nat.le_refl 1)
  rw [show beginD si.w (IntKind.i64.wrap (left + way)) = beginD si.w (left + way) by rw [hwn]] at hbg
  unfold beginD at hbg
  have hbs := fun b h => beginW_some (w := si.w) (t := left + way) (b := b) h
  generalize beginW si.w (left + way) = bo at hbg hbs ⊢
  obtain ⟨sp, ⟨slo, shi⟩, ssv⟩ := si
  refine ⟨rfl, (by first | exact Nat.zero_le _ | exact Nat.le_refl _ | exact Nat.le_succ 1 | decide), (htm).mono ?_⟩
  rintro d l ⟨rfl, rfl⟩
  refine ⟨rfl, fun _ _ => rfl, rfl, ?_⟩
  cases hbo : bo with
  | none =>
    rw [hbo] at hbg
    refine ⟨rfl, (by first | exact Nat.zero_le _ | exact Nat.le_refl _ | exact Nat.le_succ 1 | decide), (hbg).mono ?_⟩
    rintro d l ⟨rfl, rfl⟩
    refine ⟨rfl, fun _ _ => rfl, rfl, ?_⟩
    repeat (first | refine And.intro (fun _ => ?_) (fun h => Bool.noConfusion h) | refine And.intro (fun h => Bool.noConfusion h) (fun _ => ?_))
    exact And.intro rfl rfl
  | some b =>
    rw [hbo] at hbg
    refine ⟨rfl, (by first | exact Nat.zero_le _ | exact Nat.le_refl _ | exact Nat.le_succ 1 | decide), (hbg).mono ?_⟩
    rintro d l ⟨rfl, rfl⟩
    refine ⟨rfl, fun _ _ => rfl, rfl, ?_⟩
    have hbz := hbs b hbo
    have hws : IntKind.i64.wrap (b + ssv) = b + ssv := wrap64 (by simp only at hbz h2 h3; omega) (by simp only at hbz h2 h3; omega)
    refine And.intro (fun h5 => ?_) (fun h5 => ?_)
    · have h5 : IntKind.i64.wrap (b + ssv) > u := of_decide_eq_true h5
      rw [hws] at h5
      repeat (first | refine And.intro (fun _ => ?_) (fun h => Bool.noConfusion h) | refine And.intro (fun h => Bool.noConfusion h) (fun _ => ?_))
      show _ = srvD _ (if b + ssv > u then none else some b) ∧ _
      rw [if_pos h5]
      exact And.intro rfl rfl
    have h5 : ¬ IntKind.i64.wrap (b + ssv) > u := of_decide_eq_false h5
    rw [hws] at h5
    repeat (first | refine And.intro (fun _ => ?_) (fun h => Bool.noConfusion h) | refine And.intro (fun h => Bool.noConfusion h) (fun _ => ?_))
    refine ⟨⟨255, [0, 0, 0, 4, 10, 1, 63, 127], [1, 2, 4, 12, 30, 33, 127, 255]⟩, by kernel_rfl, ?_⟩
    refine And.intro ?_ trivial
    refine And.intro (by repeat (first | exact trivial | refine And.intro ⟨rfl, rfl⟩ ?_)) ?_
    refine And.intro ?_ trivial
    refine And.intro (by repeat (first | exact trivial | refine And.intro ⟨rfl, rfl⟩ ?_)) ?_
    refine And.intro ?_ trivial
    refine And.intro (by repeat (first | exact trivial | refine And.intro ⟨rfl, rfl⟩ ?_)) ?_
    show _ = srvD _ (if b + ssv > u then none else some b) ∧ _
    rw [if_neg h5]
    refine And.intro ?_ rfl
    show D.tup [.int .i64 b, .int .i64 (IntKind.i64.wrap (b + ssv)), .bool true] = _
    rw [hws]
    rfl
theorem c_drayref6_served (m : Mp) (hm : okMp m) (a left : Int) (si : Sit) (u : Int) (h0 : 0 ≤ left) (h1 : left ≤ 1000000) (h2 : 0 ≤ si.serv) (h3 : si.serv ≤ 1000000) {r b : Nat} {sto : List Ob} (hr : r ≤ sto.length) (hb : sto[b]? = some (mbox m)) (hbr : b < r) : Tri Try.prog 70 r [.gptr b 0, .int .i64 a, .int .i64 left, .agg (rowSi si), .int .i64 u] sto (fun d k => d = srvD si (srvX m a left si u) ∧ k = sto) :=
  (c_drayref6_served_0 m hm a left si u h0 h1 h2 h3).boxRO (nr_mcs m) rfl rfl (fun d h => by subst h; exact srvD_ok _ _) hr hb hbr
end Go.Lv

namespace Go.Lv
open Go.Proofs

theorem srv_match {α : Type} {m : Mp} {a left : Int} {si : Sit} {u : Int} (X : α) (Y : Int → α) : (match beginW si.w (left + timeM m a si.place) with
    | none => X
    | some b => if b + si.serv > u then X else Y b) = (match srvX m a left si u with
    | none => X
    | some b => Y b) := by
  unfold srvX
  cases beginW si.w (left + timeM m a si.place) with
  | none => rfl
  | some b =>
    show (if b + si.serv > u then X else Y b) = (match (if b + si.serv > u then none else some b) with
      | none => X
      | some b => Y b)
    split <;> rfl
noncomputable def sDv (m : Mp) (d : Drv) (os : List Ord) (st : List Stp) (out : List Vis) (sz : Nat) (now at_ load : Int) (i : Nat) : DS := ⟨[(0, .gptr 0 0), (2, encOs os), (3, .list .imm (st.map rowS)), (5, .lptr 5 0 0), (8, .list (.own 0) []), (9, .lptr 9 0 0), (10, .list (.own sz) (out.map rowV)), (11, .int .i64 at_), (12, .int .i64 now), (13, .int .i64 load), (14, .int .i64 (i : Int))], [(5, rowDr d), (9, [.int .i64 0, .int .i64 0])], [mbox m], mR 1⟩
set_option profiler true in
set_option profiler.threshold 2000 in
set_option maxHeartbeats 8000000 in
theorem c_drayref6_Drive_0 (m : Mp) (hm : okMp m) (d : Drv) (os : List Ord) (st : List Stp) (hsl : st.length ≤ 1000000000000000) : Tri Try.prog 46 1 [.gptr 0 0, .agg (rowDr d), encOs os, .list .imm (st.map rowS)] [mbox m] (fun x k => isDrv (driveR m d os st) x ∧ k = [mbox m]) := by
  refine Tri.walk2 (L := LT) (c := {n := 152, ko := [8, 10], kb := [9], xf := [131, 150]}) [] [0, 1, 2, 3, 5, 8, 9, 10, 11, 12, 13, 14, 15, 16, 17, 18, 19, 21, 22, 23, 38, 48, 60, 67, 81, 89, 101, 128, 146] hLT hmix Try.func46 rfl rfl ⟨rfl, rfl⟩ (by show 4 ≤ 152; decide) (by first | exact Nat.zero_le _ | exact Nat.le_refl _ | exact Nat.le_succ 1 | decide) ?_
  refine ⟨rfl, (by first | exact Nat.zero_le _ | exact Nat.le_refl _ | exact Nat.le_succ 1 | decide), (c_drayref6_Driver m hm d (r := 1) (sto := [mbox m]) (Nat.le_refl 1) rfl (Nat.lt_succ_self 0)).mono ?_⟩
  rintro d l ⟨rfl, rfl⟩
  refine ⟨rfl, fun _ _ => rfl, rfl, ?_⟩
  unfold driveR
  refine And.intro (fun hd => ?_) (fun hd => ?_)
  · have hd := nd_true hd
    repeat (first | refine And.intro (fun _ => ?_) (fun h => Bool.noConfusion h) | refine And.intro (fun h => Bool.noConfusion h) (fun _ => ?_))
    rw [if_neg (show ¬ fitD m d os st from fun h => hd h.1)]
    exact And.intro ⟨0, .inl rfl, rfl⟩ rfl
  have hd := nd_false hd
  repeat (first | refine And.intro (fun _ => ?_) (fun h => Bool.noConfusion h) | refine And.intro (fun h => Bool.noConfusion h) (fun _ => ?_))
  refine ⟨rfl, (by first | exact Nat.zero_le _ | exact Nat.le_refl _ | exact Nat.le_succ 1 | decide), (c_drayref6_Known m hm os (r := 1) (sto := [mbox m]) (Nat.le_refl 1) rfl (Nat.lt_succ_self 0)).mono ?_⟩
  rintro d l ⟨rfl, rfl⟩
  refine ⟨rfl, fun _ _ => rfl, rfl, ?_⟩
  cases hk : decide (okOs m.n os) with
  | false =>
    repeat (first | refine And.intro (fun _ => ?_) (fun h => Bool.noConfusion h) | refine And.intro (fun h => Bool.noConfusion h) (fun _ => ?_))
    rw [if_neg (show ¬ fitD m d os st from fun h => of_decide_eq_false hk h.2.1)]
    exact And.intro ⟨0, .inl rfl, rfl⟩ rfl
  | true =>
  have ho := of_decide_eq_true hk
  repeat (first | refine And.intro (fun _ => ?_) (fun h => Bool.noConfusion h) | refine And.intro (fun h => Bool.noConfusion h) (fun _ => ?_))
  refine And.intro (fun h0 => ?_) (fun h0 => ?_)
  · have h0 : ((st.map rowS).length : Int) > 80 := of_decide_eq_true h0
    rw [List.length_map] at h0
    rw [if_neg (show ¬ fitD m d os st from fun h => by have := h.2.2; omega)]
    exact And.intro ⟨0, .inl rfl, rfl⟩ rfl
  have h0 : ¬ ((st.map rowS).length : Int) > 80 := of_decide_eq_false h0
  rw [List.length_map] at h0
  have hst : st.length ≤ 80 := by omega
  rw [if_pos (show fitD m d os st from ⟨hd, ho, hst⟩)]
  have hdr := errD_room hd
  have hol := ho.1
  have hal : allLen 2 (st.map rowS) = true := by simp [allLen, rowS]
  refine ⟨⟨255, [0, 1, 0, 4, 8, 3, 63, 127], [1, 3, 4, 12, 28, 35, 127, 255]⟩, by kernel_rfl, ?_⟩
  refine And.intro ?_ trivial
  refine And.intro (by repeat (first | exact trivial | refine And.intro ⟨rfl, rfl⟩ ?_)) ?_
  refine And.intro ?_ trivial
  refine And.intro (by repeat (first | exact trivial | refine And.intro ⟨rfl, rfl⟩ ?_)) ?_
  refine And.intro ?_ trivial
  refine And.intro (by repeat (first | exact trivial | refine And.intro ⟨rfl, rfl⟩ ?_)) ?_
  show Ok _ _ _ _ _
  refine Ok.loopN hLT hmix [] [0, 1, 2, 3, 5, 8, 9, 10, 11, 12, 13, 14, 15, 16, 17, 18, 19, 21, 22, 23, 38, 48, 60, 67, 81, 89, 101, 128, 146] [0,2,3,5,8,9,10,11,12,13,14] [5,9] (fun n s => ∃ (i : Nat) (out : List Vis) (sz : Nat) (now at_ load : Int), n = st.length - i ∧ i ≤ st.length ∧ (sz = 0 ∨ sz = 6) ∧ out.length = i ∧ 0 ≤ now ∧ now ≤ 1000000 ∧ -1000 * (i : Int) ≤ load ∧ load ≤ 1000 ∧ goT m d os (st.take i) now at_ load out (st.drop i) = timed m d os st ∧ s = sDv m d os st out sz now at_ load i) (n := st.length) ⟨0, [], 0, d.w.lo, d.home, 0, rfl, Nat.zero_le _, .inl rfl, rfl, by omega, by omega, by omega, by omega, rfl, rfl⟩ ?_
  rintro n s ⟨i, out, sz, now, at_, load, rfl, hi, hsz, hout, hn0, hn1, hl0, hl1, hgo, rfl⟩
  refine And.intro (fun h1 => ?_) (fun h1 => ?_)
  rotate_left
  · have h1 : ¬ ((i : Nat) : Int) < ((st.map rowS).length : Int) := of_decide_eq_false h1
    rw [List.length_map] at h1
    rw [List.drop_eq_nil_of_le (by omega), List.take_of_length_le (by omega)] at hgo
    unfold goT at hgo
    refine And.intro (fun h2 => ?_) (fun h2 => ?_)
    · have h2 : load > 0 := of_decide_eq_true h2
      rw [if_pos h2] at hgo
      rw [← hgo]
      refine And.intro ⟨0, .inl rfl, ?_⟩ rfl
      show _ = D.tup [.list (.own 0) [], fltD (st.length : Int) 18]
      rw [← List.length_map (f := rowS)]
      rfl
    · have h2 : ¬ load > 0 := of_decide_eq_false h2
      rw [if_neg h2] at hgo
      rw [← hgo]
      exact And.intro ⟨sz, hsz, rfl⟩ rfl
  have h1 : ((i : Nat) : Int) < ((st.map rowS).length : Int) := of_decide_eq_true h1
  rw [List.length_map] at h1
  have hil : i < st.length := by omega
  have hw := wrap_succ (i := i) (n := st.length) hil (by omega)
  rw [goT_at hil] at hgo
  refine ⟨(st).map rowS, rowS ((st)[i]'(by omega)), rfl, by omega, row_at' rowS (st) (by omega) (by omega), rfl, of_decide_eq_true rfl, ?_⟩
  generalize hs : st[i] = s at hgo ⊢
  obtain ⟨sn, sb⟩ := s
  have hfact := fun h => ordOf_ok (s := ⟨sn, sb⟩) (ahead := st.take i) ho h
  unfold ldOf sitOf at hgo
  unfold sitOf at hfact
  have htl : ((st.take i).length : Int) = (i : Int) := by rw [List.length_take, Nat.min_eq_left (by omega)]
  rw [htl] at hgo
  have hts : st.take (i + 1) = st.take i ++ [⟨sn, sb⟩] := by rw [List.take_succ_eq_append_getElem hil, hs]
  have hfi := c_drayref6_Find os (by omega) sn (r := 1) (sto := [mbox m]) (Nat.le_refl 1)
  rcases idxO_find sn os with ⟨hfn, hix⟩ | ⟨k, hkl, hix, hfn⟩
  · rw [hix] at hfi
    refine ⟨rfl, (by first | exact Nat.zero_le _ | exact Nat.le_refl _ | exact Nat.le_succ 1 | decide), (hfi).mono ?_⟩
    rintro d l ⟨rfl, rfl⟩
    refine ⟨rfl, fun _ _ => rfl, rfl, ?_⟩
    repeat (first | refine And.intro (fun _ => ?_) (fun h => Bool.noConfusion h) | refine And.intro (fun h => Bool.noConfusion h) (fun _ => ?_))
    have hwr : wrongE os (st.take i) ⟨sn, sb⟩ = 8 := by unfold wrongE; rw [show findO (⟨sn, sb⟩ : Stp).ord os = none from hfn]
    rw [hwr, if_pos (by decide)] at hgo
    rw [← hgo]
    exact And.intro ⟨0, .inl rfl, rfl⟩ rfl
  rw [hix] at hfi
  have hod : ordOf os ⟨sn, sb⟩ = os[k] := by unfold ordOf; rw [show findO (⟨sn, sb⟩ : Stp).ord os = some os[k] from hfn]; rfl
  have hwr : wrongE os (st.take i) ⟨sn, sb⟩ = if (⟨sn, sb⟩ : Stp) ∈ st.take i then 16 else if sb = true ∧ (⟨sn, false⟩ : Stp) ∉ st.take i then 17 else 0 := by unfold wrongE; rw [show findO (⟨sn, sb⟩ : Stp).ord os = some os[k] from hfn]
  rw [hod] at hfact
  rw [hwr, hod] at hgo
  rw [hwr] at hfact
  have hha := c_drayref6_has (st.take i) (by rw [List.length_take]; omega) (take_rowsS st i rfl) ⟨sn, sb⟩ (r := 1) (sto := [mbox m]) (Nat.le_refl 1)
  have hhb := c_drayref6_has (st.take i) (by rw [List.length_take]; omega) (take_rowsS st i rfl) ⟨sn, false⟩ (r := 1) (sto := [mbox m]) (Nat.le_refl 1)
  refine ⟨rfl, (by first | exact Nat.zero_le _ | exact Nat.le_refl _ | exact Nat.le_succ 1 | decide), (hfi).mono ?_⟩
  rintro d l ⟨rfl, rfl⟩
  refine ⟨rfl, fun _ _ => rfl, rfl, ?_⟩
  refine And.intro (fun h2 => ?_) (fun h2 => ?_)
  · have h2 : ((k : Nat) : Int) < 0 := of_decide_eq_true h2
    omega
  cases h3 : decide ((⟨sn, sb⟩ : Stp) ∈ st.take i) with
  | true =>
    rw [h3] at hha
    refine ⟨⟨31, [0, 0, 3, 0, 12], [1, 2, 7, 8, 31]⟩, by kernel_rfl, ?_⟩
    refine And.intro ⟨by omega, by (try rw [List.length_map]); omega⟩ (And.intro (Nat.zero_le _) (And.intro (of_decide_eq_true rfl) (And.intro (by assumption) (And.intro rfl ?_))))
    refine And.intro ?_ trivial
    refine ⟨rfl, (by first | exact Nat.zero_le _ | exact Nat.le_refl _ | exact Nat.le_succ 1 | decide), (hha).mono ?_⟩
    rintro d l ⟨rfl, rfl⟩
    refine ⟨rfl, fun _ _ => rfl, rfl, ?_⟩
    refine And.intro (by repeat (first | exact trivial | refine And.intro ⟨rfl, rfl⟩ ?_ | refine And.intro (And.intro ⟨by omega, by (try rw [List.length_map]); omega⟩ (And.intro (Nat.zero_le _) (And.intro (of_decide_eq_true rfl) (And.intro (by assumption) (And.intro rfl (And.intro rfl rfl)))))) ?_ | refine And.intro ⟨_, _, rfl, by omega, row_at' _ _ rfl (by omega), rfl, of_decide_eq_true rfl, And.intro rfl (And.intro rfl rfl)⟩ ?_)) ?_
    repeat (first | refine And.intro (fun _ => ?_) (fun h => Bool.noConfusion h) | refine And.intro (fun h => Bool.noConfusion h) (fun _ => ?_))
    rw [if_pos (of_decide_eq_true h3), if_pos (by decide)] at hgo
    rw [← hgo]
    exact And.intro ⟨0, .inl rfl, rfl⟩ rfl
  | false =>
  rw [h3] at hha
  refine ⟨⟨31, [0, 0, 3, 0, 12], [1, 2, 7, 8, 31]⟩, by kernel_rfl, ?_⟩
  refine And.intro ⟨by omega, by (try rw [List.length_map]); omega⟩ (And.intro (Nat.zero_le _) (And.intro (of_decide_eq_true rfl) (And.intro (by assumption) (And.intro rfl ?_))))
  refine And.intro ?_ trivial
  refine ⟨rfl, (by first | exact Nat.zero_le _ | exact Nat.le_refl _ | exact Nat.le_succ 1 | decide), (hha).mono ?_⟩
  rintro d l ⟨rfl, rfl⟩
  refine ⟨rfl, fun _ _ => rfl, rfl, ?_⟩
  refine And.intro (by repeat (first | exact trivial | refine And.intro ⟨rfl, rfl⟩ ?_ | refine And.intro (And.intro ⟨by omega, by (try rw [List.length_map]); omega⟩ (And.intro (Nat.zero_le _) (And.intro (of_decide_eq_true rfl) (And.intro (by assumption) (And.intro rfl (And.intro rfl rfl)))))) ?_ | refine And.intro ⟨_, _, rfl, by omega, row_at' _ _ rfl (by omega), rfl, of_decide_eq_true rfl, And.intro rfl (And.intro rfl rfl)⟩ ?_)) ?_
  repeat (first | refine And.intro (fun _ => ?_) (fun h => Bool.noConfusion h) | refine And.intro (fun h => Bool.noConfusion h) (fun _ => ?_))
  have h3 := of_decide_eq_false h3
  rw [if_neg h3] at hgo hfact
  have hor := fun o => c_drayref6_Site o ⟨sn, sb⟩ (r := 1) (sto := [mbox m]) (Nat.le_refl 1)

  cases sb with
  | true =>
    cases h6 : decide ((⟨sn, false⟩ : Stp) ∈ st.take i) with
    | false =>
      rw [h6] at hhb
      refine ⟨⟨4095, [0, 1, 2, 4, 4, 28, 4, 68, 132, 292, 516, 1028], [1, 3, 7, 15, 23, 63, 71, 199, 455, 1023, 2047, 4095]⟩, by kernel_rfl, ?_⟩
      repeat (first | refine And.intro (fun _ => ?_) (fun h => Bool.noConfusion h) | refine And.intro (fun h => Bool.noConfusion h) (fun _ => ?_))
      refine And.intro ⟨by omega, by (try rw [List.length_map]); omega⟩ (And.intro (Nat.zero_le _) (And.intro (of_decide_eq_true rfl) (And.intro (by assumption) (And.intro rfl ?_))))
      refine And.intro ?_ trivial
      refine ⟨rfl, (by first | exact Nat.zero_le _ | exact Nat.le_refl _ | exact Nat.le_succ 1 | decide), (hhb).mono ?_⟩
      rintro d l ⟨rfl, rfl⟩
      refine ⟨rfl, fun _ _ => rfl, rfl, ?_⟩
      refine And.intro (by repeat (first | exact trivial | refine And.intro ⟨rfl, rfl⟩ ?_ | refine And.intro (And.intro ⟨by omega, by (try rw [List.length_map]); omega⟩ (And.intro (Nat.zero_le _) (And.intro (of_decide_eq_true rfl) (And.intro (by assumption) (And.intro rfl (And.intro rfl rfl)))))) ?_ | refine And.intro ⟨_, _, rfl, by omega, row_at' _ _ rfl (by omega), rfl, of_decide_eq_true rfl, And.intro rfl (And.intro rfl rfl)⟩ ?_)) ?_
      repeat (first | refine And.intro (fun _ => ?_) (fun h => Bool.noConfusion h) | refine And.intro (fun h => Bool.noConfusion h) (fun _ => ?_))
      have h7 : (if true = true ∧ (⟨sn, false⟩ : Stp) ∉ st.take i then (17 : Int) else 0) = 17 := if_pos ⟨rfl, of_decide_eq_false h6⟩
      rw [h7, if_pos (by decide)] at hgo
      rw [← hgo]
      exact And.intro ⟨0, .inl rfl, rfl⟩ rfl
    | true =>
    rw [h6] at hhb
    refine ⟨⟨4095, [0, 1, 2, 4, 4, 28, 4, 68, 132, 292, 516, 1028], [1, 3, 7, 15, 23, 63, 71, 199, 455, 1023, 2047, 4095]⟩, by kernel_rfl, ?_⟩
    repeat (first | refine And.intro (fun _ => ?_) (fun h => Bool.noConfusion h) | refine And.intro (fun h => Bool.noConfusion h) (fun _ => ?_))
    refine And.intro ⟨by omega, by (try rw [List.length_map]); omega⟩ (And.intro (Nat.zero_le _) (And.intro (of_decide_eq_true rfl) (And.intro (by assumption) (And.intro rfl ?_))))
    refine And.intro ?_ trivial
    refine ⟨rfl, (by first | exact Nat.zero_le _ | exact Nat.le_refl _ | exact Nat.le_succ 1 | decide), (hhb).mono ?_⟩
    rintro d l ⟨rfl, rfl⟩
    refine ⟨rfl, fun _ _ => rfl, rfl, ?_⟩
    refine And.intro (by repeat (first | exact trivial | refine And.intro ⟨rfl, rfl⟩ ?_ | refine And.intro (And.intro ⟨by omega, by (try rw [List.length_map]); omega⟩ (And.intro (Nat.zero_le _) (And.intro (of_decide_eq_true rfl) (And.intro (by assumption) (And.intro rfl (And.intro rfl rfl)))))) ?_ | refine And.intro ⟨_, _, rfl, by omega, row_at' _ _ rfl (by omega), rfl, of_decide_eq_true rfl, And.intro rfl (And.intro rfl rfl)⟩ ?_)) ?_
    repeat (first | refine And.intro (fun _ => ?_) (fun h => Bool.noConfusion h) | refine And.intro (fun h => Bool.noConfusion h) (fun _ => ?_))
    have h4 : (if true = true ∧ (⟨sn, false⟩ : Stp) ∉ st.take i then (17 : Int) else 0) = 0 := if_neg (fun h => h.2 (of_decide_eq_true h6))
    rw [h4] at hgo hfact
    rw [if_neg (by decide)] at hgo
    replace hfact := hfact rfl
    refine ⟨(os).map rowO, rowO ((os)[k]'(by omega)), rfl, by omega, row_at' rowO (os) (by omega) (by omega), rfl, of_decide_eq_true rfl, ?_⟩
    have hsi := hor os[k]
    generalize os[k] = o at hgo hfact hsi ⊢
    obtain ⟨si, hsi0⟩ : ∃ si, siteO o true = si := ⟨_, rfl⟩
    replace hfact : 1 ≤ o.size ∧ o.size ≤ 1000 ∧ 0 ≤ si.serv ∧ si.serv ≤ 1000000 ∧ si.w.hi ≤ 1000000 := by rw [← hsi0]; exact hfact
    replace hsi : Tri Try.prog 47 1 [.agg (rowO o), .agg (rowS ⟨sn, true⟩)] [mbox m] (fun d k => d = .agg (rowSi si) ∧ k = [mbox m]) := by rw [← hsi0]; exact hsi
    rw [hsi0] at hgo
    have hsm := srv_match (m := m) (a := at_) (left := now) (si := si) (u := d.w.hi) (([], (i : Int), 15) : List Vis × Int × Int) (fun b => goT m d os (st.take i ++ [⟨sn, true⟩]) (b + si.serv) si.place (ldO o load true) (out ++ [⟨⟨sn, true⟩, now + timeM m at_ si.place, b, b + si.serv, ldO o load true⟩]) (st.drop (i + 1)))
    replace hgo : (if ldO o load true > d.room then (([], (i : Int), 14) : List Vis × Int × Int) else match srvX m at_ now si d.w.hi with
      | none => ([], (i : Int), 15)
      | some b => goT m d os (st.take i ++ [⟨sn, true⟩]) (b + si.serv) si.place (ldO o load true) (out ++ [⟨⟨sn, true⟩, now + timeM m at_ si.place, b, b + si.serv, ldO o load true⟩]) (st.drop (i + 1))) = timed m d os st := Eq.trans (congrArg (fun z => if ldO o load true > d.room then (([], (i : Int), 14) : List Vis × Int × Int) else z) hsm.symm) hgo
    have htm := c_drayref4_Time m hm at_ si.place (r := 1) (sto := [mbox m]) (Nat.le_refl 1) rfl (Nat.lt_succ_self 0)
    unfold timeD at htm
    have hsv := c_drayref6_served m hm at_ now si d.w.hi hn0 hn1 hfact.2.2.1 hfact.2.2.2.1 (r := 1) (sto := [mbox m]) (Nat.le_refl 1) rfl (Nat.lt_succ_self 0)
    have hsx := fun b h => srvX_some (m := m) (a := at_) (left := now) (si := si) (u := d.w.hi) (b := b) h
    have hwy := timeM_le hm at_ si.place
    generalize srvX m at_ now si d.w.hi = bo at hgo hsv hsx
    generalize timeM m at_ si.place = way at htm hgo hwy hsx
    generalize inM m at_ si.place = wayb at htm
    have hwn : IntKind.i64.wrap (now + way) = now + way := wrap64 (by omega) (by omega)
    have hwl : IntKind.i64.wrap (load - o.size) = ldO o load true := wrap64 (by show -9223372036854775808 ≤ load - o.size; omega) (by show load - o.size ≤ 9223372036854775807; omega)
    repeat (first | refine And.intro (fun _ => ?_) (fun h => Bool.noConfusion h) | refine And.intro (fun h => Bool.noConfusion h) (fun _ => ?_))
    refine And.intro (fun h5 => ?_) (fun h5 => ?_)
    · have h5 : IntKind.i64.wrap (load - o.size) > d.room := of_decide_eq_true h5
      rw [hwl] at h5
      rw [if_pos h5] at hgo
      rw [← hgo]
      exact And.intro ⟨0, .inl rfl, rfl⟩ rfl
    have h5 : ¬ IntKind.i64.wrap (load - o.size) > d.room := of_decide_eq_false h5
    rw [hwl] at h5
    rw [if_neg h5] at hgo
    obtain ⟨sp, ⟨slo, shi⟩, ssv⟩ := si
    refine ⟨rfl, (by first | exact Nat.zero_le _ | exact Nat.le_refl _ | exact Nat.le_succ 1 | decide), (hsi).mono ?_⟩
    rintro d l ⟨rfl, rfl⟩
    refine ⟨rfl, fun _ _ => rfl, rfl, ?_⟩
    refine ⟨rfl, (by first | exact Nat.zero_le _ | exact Nat.le_refl _ | exact Nat.le_succ 1 | decide), (htm).mono ?_⟩
    rintro d l ⟨rfl, rfl⟩
    refine ⟨rfl, fun _ _ => rfl, rfl, ?_⟩
    cases hbo : bo with
    | none =>
      rw [hbo] at hsv hgo
      refine ⟨rfl, (by first | exact Nat.zero_le _ | exact Nat.le_refl _ | exact Nat.le_succ 1 | decide), (hsv).mono ?_⟩
      rintro d l ⟨rfl, rfl⟩
      refine ⟨rfl, fun _ _ => rfl, rfl, ?_⟩
      repeat (first | refine And.intro (fun _ => ?_) (fun h => Bool.noConfusion h) | refine And.intro (fun h => Bool.noConfusion h) (fun _ => ?_))
      rw [← hgo]
      exact And.intro ⟨0, .inl rfl, rfl⟩ rfl
    | some b =>
      rw [hbo] at hsv hgo
      refine ⟨rfl, (by first | exact Nat.zero_le _ | exact Nat.le_refl _ | exact Nat.le_succ 1 | decide), (hsv).mono ?_⟩
      rintro d l ⟨rfl, rfl⟩
      refine ⟨rfl, fun _ _ => rfl, rfl, ?_⟩
      have hbz := hsx b hbo
      have hby := beginW_some hbz.1
      repeat (first | refine And.intro (fun _ => ?_) (fun h => Bool.noConfusion h) | refine And.intro (fun h => Bool.noConfusion h) (fun _ => ?_))
      have hszk : ((sz == 0 || sz == LT.size 114) && decide (0 < LT.size 114) && decide (0 < LT.bytes 114) && (LT.zero 114).isSome) = true := by rcases hsz with rfl | rfl <;> rfl
      have hrm : ((out.map rowV).length + 1) * 48 ≤ 140737488355328 := by rw [List.length_map]; omega
      refine And.intro trivial (And.intro hszk (And.intro hrm (And.intro rfl ?_)))
      generalize hys : rowsOf _ _ _ = ys
      have hys : ys = [rowV ⟨⟨sn, true⟩, IntKind.i64.wrap (now + way), b, b + ssv, IntKind.i64.wrap (load - o.size)⟩] := hys.symm.trans rfl
      subst hys
      refine ⟨st.length - (i + 1), by omega, i + 1, out ++ [⟨⟨sn, true⟩, IntKind.i64.wrap (now + way), b, b + ssv, IntKind.i64.wrap (load - o.size)⟩], 6, b + ssv, sp, IntKind.i64.wrap (load - o.size), rfl, by omega, .inr rfl, by rw [List.length_append]; simp only [List.length_cons, List.length_nil]; omega, by simp only at hbz hby hfact; omega, by simp only at hbz hby hfact; omega, by rw [hwl]; show -1000 * ((i + 1 : Nat) : Int) ≤ load - o.size; omega, by rw [hwl]; omega, by rw [hts, hwn, hwl]; exact hgo, ?_⟩
      unfold sDv
      rw [← hw, List.map_append]
      rfl

  | false =>
    refine ⟨⟨4095, [0, 1, 2, 4, 4, 28, 4, 68, 132, 292, 516, 1028], [1, 3, 7, 15, 23, 63, 71, 199, 455, 1023, 2047, 4095]⟩, by kernel_rfl, ?_⟩
    repeat (first | refine And.intro (fun _ => ?_) (fun h => Bool.noConfusion h) | refine And.intro (fun h => Bool.noConfusion h) (fun _ => ?_))
    have h4 : (if false = true ∧ (⟨sn, false⟩ : Stp) ∉ st.take i then (17 : Int) else 0) = 0 := if_neg (fun h => by cases h.1)
    rw [h4] at hgo hfact
    rw [if_neg (by decide)] at hgo
    replace hfact := hfact rfl
    refine ⟨(os).map rowO, rowO ((os)[k]'(by omega)), rfl, by omega, row_at' rowO (os) (by omega) (by omega), rfl, of_decide_eq_true rfl, ?_⟩
    have hsi := hor os[k]
    generalize os[k] = o at hgo hfact hsi ⊢
    obtain ⟨si, hsi0⟩ : ∃ si, siteO o false = si := ⟨_, rfl⟩
    replace hfact : 1 ≤ o.size ∧ o.size ≤ 1000 ∧ 0 ≤ si.serv ∧ si.serv ≤ 1000000 ∧ si.w.hi ≤ 1000000 := by rw [← hsi0]; exact hfact
    replace hsi : Tri Try.prog 47 1 [.agg (rowO o), .agg (rowS ⟨sn, false⟩)] [mbox m] (fun d k => d = .agg (rowSi si) ∧ k = [mbox m]) := by rw [← hsi0]; exact hsi
    rw [hsi0] at hgo
    have hsm := srv_match (m := m) (a := at_) (left := now) (si := si) (u := d.w.hi) (([], (i : Int), 15) : List Vis × Int × Int) (fun b => goT m d os (st.take i ++ [⟨sn, false⟩]) (b + si.serv) si.place (ldO o load false) (out ++ [⟨⟨sn, false⟩, now + timeM m at_ si.place, b, b + si.serv, ldO o load false⟩]) (st.drop (i + 1)))
    replace hgo : (if ldO o load false > d.room then (([], (i : Int), 14) : List Vis × Int × Int) else match srvX m at_ now si d.w.hi with
      | none => ([], (i : Int), 15)
      | some b => goT m d os (st.take i ++ [⟨sn, false⟩]) (b + si.serv) si.place (ldO o load false) (out ++ [⟨⟨sn, false⟩, now + timeM m at_ si.place, b, b + si.serv, ldO o load false⟩]) (st.drop (i + 1))) = timed m d os st := Eq.trans (congrArg (fun z => if ldO o load false > d.room then (([], (i : Int), 14) : List Vis × Int × Int) else z) hsm.symm) hgo
    have htm := c_drayref4_Time m hm at_ si.place (r := 1) (sto := [mbox m]) (Nat.le_refl 1) rfl (Nat.lt_succ_self 0)
    unfold timeD at htm
    have hsv := c_drayref6_served m hm at_ now si d.w.hi hn0 hn1 hfact.2.2.1 hfact.2.2.2.1 (r := 1) (sto := [mbox m]) (Nat.le_refl 1) rfl (Nat.lt_succ_self 0)
    have hsx := fun b h => srvX_some (m := m) (a := at_) (left := now) (si := si) (u := d.w.hi) (b := b) h
    have hwy := timeM_le hm at_ si.place
    generalize srvX m at_ now si d.w.hi = bo at hgo hsv hsx
    generalize timeM m at_ si.place = way at htm hgo hwy hsx
    generalize inM m at_ si.place = wayb at htm
    have hwn : IntKind.i64.wrap (now + way) = now + way := wrap64 (by omega) (by omega)
    have hwl : IntKind.i64.wrap (load + o.size) = ldO o load false := wrap64 (by show -9223372036854775808 ≤ load + o.size; omega) (by show load + o.size ≤ 9223372036854775807; omega)
    repeat (first | refine And.intro (fun _ => ?_) (fun h => Bool.noConfusion h) | refine And.intro (fun h => Bool.noConfusion h) (fun _ => ?_))
    refine And.intro (fun h5 => ?_) (fun h5 => ?_)
    · have h5 : IntKind.i64.wrap (load + o.size) > d.room := of_decide_eq_true h5
      rw [hwl] at h5
      rw [if_pos h5] at hgo
      rw [← hgo]
      exact And.intro ⟨0, .inl rfl, rfl⟩ rfl
    have h5 : ¬ IntKind.i64.wrap (load + o.size) > d.room := of_decide_eq_false h5
    rw [hwl] at h5
    rw [if_neg h5] at hgo
    obtain ⟨sp, ⟨slo, shi⟩, ssv⟩ := si
    refine ⟨rfl, (by first | exact Nat.zero_le _ | exact Nat.le_refl _ | exact Nat.le_succ 1 | decide), (hsi).mono ?_⟩
    rintro d l ⟨rfl, rfl⟩
    refine ⟨rfl, fun _ _ => rfl, rfl, ?_⟩
    refine ⟨rfl, (by first | exact Nat.zero_le _ | exact Nat.le_refl _ | exact Nat.le_succ 1 | decide), (htm).mono ?_⟩
    rintro d l ⟨rfl, rfl⟩
    refine ⟨rfl, fun _ _ => rfl, rfl, ?_⟩
    cases hbo : bo with
    | none =>
      rw [hbo] at hsv hgo
      refine ⟨rfl, (by first | exact Nat.zero_le _ | exact Nat.le_refl _ | exact Nat.le_succ 1 | decide), (hsv).mono ?_⟩
      rintro d l ⟨rfl, rfl⟩
      refine ⟨rfl, fun _ _ => rfl, rfl, ?_⟩
      repeat (first | refine And.intro (fun _ => ?_) (fun h => Bool.noConfusion h) | refine And.intro (fun h => Bool.noConfusion h) (fun _ => ?_))
      rw [← hgo]
      exact And.intro ⟨0, .inl rfl, rfl⟩ rfl
    | some b =>
      rw [hbo] at hsv hgo
      refine ⟨rfl, (by first | exact Nat.zero_le _ | exact Nat.le_refl _ | exact Nat.le_succ 1 | decide), (hsv).mono ?_⟩
      rintro d l ⟨rfl, rfl⟩
      refine ⟨rfl, fun _ _ => rfl, rfl, ?_⟩
      have hbz := hsx b hbo
      have hby := beginW_some hbz.1
      repeat (first | refine And.intro (fun _ => ?_) (fun h => Bool.noConfusion h) | refine And.intro (fun h => Bool.noConfusion h) (fun _ => ?_))
      have hszk : ((sz == 0 || sz == LT.size 114) && decide (0 < LT.size 114) && decide (0 < LT.bytes 114) && (LT.zero 114).isSome) = true := by rcases hsz with rfl | rfl <;> rfl
      have hrm : ((out.map rowV).length + 1) * 48 ≤ 140737488355328 := by rw [List.length_map]; omega
      refine And.intro trivial (And.intro hszk (And.intro hrm (And.intro rfl ?_)))
      generalize hys : rowsOf _ _ _ = ys
      have hys : ys = [rowV ⟨⟨sn, false⟩, IntKind.i64.wrap (now + way), b, b + ssv, IntKind.i64.wrap (load + o.size)⟩] := hys.symm.trans rfl
      subst hys
      refine ⟨st.length - (i + 1), by omega, i + 1, out ++ [⟨⟨sn, false⟩, IntKind.i64.wrap (now + way), b, b + ssv, IntKind.i64.wrap (load + o.size)⟩], 6, b + ssv, sp, IntKind.i64.wrap (load + o.size), rfl, by omega, .inr rfl, by rw [List.length_append]; simp only [List.length_cons, List.length_nil]; omega, by simp only at hbz hby hfact; omega, by simp only at hbz hby hfact; omega, by rw [hwl]; show -1000 * ((i + 1 : Nat) : Int) ≤ load + o.size; omega, by rw [hwl]; omega, by rw [hts, hwn, hwl]; exact hgo, ?_⟩
      unfold sDv
      rw [← hw, List.map_append]
      rfl

theorem c_drayref6_Drive (m : Mp) (hm : okMp m) (d : Drv) (os : List Ord) (st : List Stp) (hsl : st.length ≤ 1000000000000000) {r b : Nat} {sto : List Ob} (hr : r ≤ sto.length) (hb : sto[b]? = some (mbox m)) (hbr : b < r) : Tri Try.prog 46 r [.gptr b 0, .agg (rowDr d), encOs os, .list .imm (st.map rowS)] sto (fun x k => isDrv (driveR m d os st) x ∧ k = sto) :=
  (c_drayref6_Drive_0 m hm d os st hsl).boxRO (nr_mcs m) rfl (nrBL_O (nrBL_S rfl)) (fun x h => isDrv_ok h) hr hb hbr
end Go.Lv

namespace Go.Lv
open Go.Proofs

theorem goT_find {m : Mp} {d : Drv} {os : List Ord} : ∀ {st ahead : List Stp} {now at_ load : Int} {out : List Vis}, (goT m d os ahead now at_ load out st).2.2 = 0 → ∀ s, s ∈ st → ∃ o, findO s.ord os = some o
  | [], _, _, _, _, _, _, s, hs => by cases hs
  | t :: r, ahead, now, at_, load, out, h, s, hs => by
    unfold goT at h
    split at h
    · rename_i h1
      exact absurd h h1
    rename_i h1
    split at h
    · exact absurd h (by show ¬ (14 : Int) = 0; decide)
    split at h
    · exact absurd h (by show ¬ (15 : Int) = 0; decide)
    split at h
    · exact absurd h (by show ¬ (15 : Int) = 0; decide)
    rcases List.mem_cons.1 hs with rfl | hs
    · obtain ⟨o, ho, _⟩ := wrongE_0 (Decidable.of_not_not h1)
      exact ⟨o, ho⟩
    · exact goT_find h s hs
theorem wayG_at2 {m : Mp} {os : List Ord} {at_ n : Int} {st : List Stp} {i : Nat} (h : i < st.length) : wayG m os at_ n (st.drop i) = wayG m os (sitOf os st[i]).place (n + timeM m at_ (sitOf os st[i]).place) (st.drop (i + 1)) := by
  rw [List.drop_eq_getElem_cons h]
  rfl
noncomputable def sCo (m : Mp) (os : List Ord) (st : List Stp) (c at_ : Int) (i : Nat) : DS := ⟨[(0, .gptr 0 0), (2, encOs os), (3, .list .imm (st.map rowS)), (8, .int .i64 0), (9, .bool false), (12, .int .i64 c), (13, .int .i64 at_), (14, .int .i64 (i : Int))], [], [mbox m], mR 1⟩
set_option maxHeartbeats 8000000 in
theorem c_drayref6_Cost_0 (m : Mp) (hm : okMp m) (d : Drv) (os : List Ord) (st : List Stp) (hsl : st.length ≤ 1000000000000000) : Tri Try.prog 29 1 [.gptr 0 0, .agg (rowDr d), encOs os, .list .imm (st.map rowS)] [mbox m] (fun x k => x = costD m d os st ∧ k = [mbox m]) := by
  refine Tri.walk2 (L := LT) (c := {n := 65, ko := [8, 9], xf := [18]}) [] [0, 1, 2, 3, 5, 8, 9, 11, 12, 13, 14, 15, 16, 28, 34] hLT hmix Try.func29 rfl rfl ⟨rfl, rfl⟩ (by show 4 ≤ 65; decide) (by first | exact Nat.zero_le _ | exact Nat.le_refl _ | exact Nat.le_succ 1 | decide) ?_
  unfold costD
  have hfit : (driveR m d os st).2.2 = 0 → fitD m d os st := by
    unfold driveR
    split
    · exact fun _ => by assumption
    · exact fun h => absurd h (by show ¬ (1 : Int) = 0; decide)
  have hfd : (driveR m d os st).2.2 = 0 → ∀ s, s ∈ st → ∃ o, findO s.ord os = some o := by
    unfold driveR
    split
    · exact goT_find
    · exact fun h => absurd h (by show ¬ (1 : Int) = 0; decide)
  have hdv := c_drayref6_Drive m hm d os st hsl (r := 1) (sto := [mbox m]) (Nat.le_refl 1) rfl (Nat.lt_succ_self 0)
  generalize hx : driveR m d os st = x at hfit hfd hdv ⊢
  obtain ⟨vs, a, e⟩ := x
  refine ⟨rfl, Nat.le_refl _, hdv.mono ?_⟩
  rintro x l ⟨⟨sz, hsz, rfl⟩, rfl⟩
  refine ⟨rfl, fun _ _ => rfl, rfl, ?_⟩
  refine And.intro (fun h1 => ?_) (fun h1 => ?_)
  · have h1 := nd_true h1
    rw [if_neg (show ¬ e = 0 from h1)]
    exact And.intro rfl rfl
  have h1 : e = 0 := nd_false h1
  rw [if_pos h1]
  have hf := hfit h1
  have hfd := hfd h1
  have hol := hf.2.1.1
  have hst := hf.2.2
  show Ok _ _ _ _ _
  refine Ok.loopN hLT hmix [] [0, 1, 2, 3, 5, 8, 9, 11, 12, 13, 14, 15, 16, 28, 34] [0,2,3,8,9,12,13,14] [] (fun n s => ∃ (i : Nat) (c at_ : Int), n = st.length - i ∧ i ≤ st.length ∧ 0 ≤ c ∧ c ≤ 1000000 * (i : Int) ∧ wayG m os at_ c (st.drop i) = wayP m d os st ∧ s = sCo m os st c at_ i) (n := st.length) ⟨0, 0, d.home, rfl, Nat.zero_le _, by omega, by omega, rfl, rfl⟩ ?_
  rintro n s ⟨i, c, at_, rfl, hi, hc0, hc1, hgo, rfl⟩
  refine And.intro (fun h2 => ?_) (fun h2 => ?_)
  rotate_left
  · have h2 : ¬ ((i : Nat) : Int) < ((st.map rowS).length : Int) := of_decide_eq_false h2
    rw [List.length_map] at h2
    rw [List.drop_eq_nil_of_le (by omega)] at hgo
    rw [← hgo]
    exact And.intro rfl rfl
  have h2 : ((i : Nat) : Int) < ((st.map rowS).length : Int) := of_decide_eq_true h2
  rw [List.length_map] at h2
  have hil : i < st.length := by omega
  have hw := wrap_succ (i := i) (n := st.length) hil (by omega)
  rw [wayG_at2 hil] at hgo
  have hfi := c_drayref6_Find os (by omega) st[i].ord (r := 1) (sto := [mbox m]) (Nat.le_refl 1)
  rcases idxO_find st[i].ord os with ⟨hfn, hix⟩ | ⟨k, hkl, hix, hfn⟩
  · obtain ⟨o, ho⟩ := hfd st[i] (List.getElem_mem _)
    rw [ho] at hfn
    cases hfn
  rw [hix] at hfi
  have hsi := c_drayref6_Site os[k] st[i] (r := 1) (sto := [mbox m]) (Nat.le_refl 1)
  have hod : sitOf os st[i] = siteO os[k] st[i].drop := by unfold sitOf ordOf; rw [hfn]; rfl
  rw [hod] at hgo
  refine ⟨⟨131071, [0, 0, 0, 0, 12, 16, 32, 66, 129, 256, 0, 0, 3072, 4096, 8832, 16384, 65535], [1, 2, 4, 8, 28, 60, 124, 254, 511, 1023, 1024, 2048, 7168, 15360, 32767, 65535, 131071]⟩, by kernel_rfl, ?_⟩
  refine ⟨(st).map rowS, rowS ((st)[i]'(by omega)), rfl, by omega, row_at' rowS (st) (by omega) (by omega), rfl, of_decide_eq_true rfl, ?_⟩
  refine And.intro rfl ?_
  refine ⟨(st).map rowS, rowS ((st)[i]'(by omega)), rfl, by omega, row_at' rowS (st) (by omega) (by omega), rfl, of_decide_eq_true rfl, ?_⟩
  refine And.intro rfl ?_
  refine And.intro ?_ trivial
  refine ⟨rfl, (by first | exact Nat.zero_le _ | exact Nat.le_refl _ | exact Nat.le_succ 1 | decide), (hfi).mono ?_⟩
  rintro d l ⟨rfl, rfl⟩
  refine ⟨rfl, fun _ _ => rfl, rfl, ?_⟩
  refine And.intro (by repeat (first | exact trivial | refine And.intro ⟨rfl, rfl⟩ ?_ | refine And.intro ⟨_, _, rfl, by omega, row_at' _ _ rfl (by omega), rfl, of_decide_eq_true rfl, And.intro rfl (And.intro rfl rfl)⟩ ?_)) ?_
  refine ⟨(os).map rowO, rowO ((os)[k]'(by omega)), rfl, by omega, row_at' rowO (os) (by omega) (by omega), rfl, of_decide_eq_true rfl, ?_⟩
  refine And.intro rfl ?_
  refine And.intro ?_ trivial
  refine ⟨rfl, (by first | exact Nat.zero_le _ | exact Nat.le_refl _ | exact Nat.le_succ 1 | decide), (hsi).mono ?_⟩
  rintro d l ⟨rfl, rfl⟩
  refine ⟨rfl, fun _ _ => rfl, rfl, ?_⟩
  refine And.intro (by repeat (first | exact trivial | refine And.intro ⟨rfl, rfl⟩ ?_ | refine And.intro ⟨_, _, rfl, by omega, row_at' _ _ rfl (by omega), rfl, of_decide_eq_true rfl, And.intro rfl (And.intro rfl rfl)⟩ ?_)) ?_
  refine And.intro ?_ trivial
  refine And.intro (by repeat (first | exact trivial | refine And.intro ⟨rfl, rfl⟩ ?_ | refine And.intro ⟨_, _, rfl, by omega, row_at' _ _ rfl (by omega), rfl, of_decide_eq_true rfl, And.intro rfl (And.intro rfl rfl)⟩ ?_)) ?_
  generalize siteO os[k] st[i].drop = si at hgo ⊢
  have htm := c_drayref4_Time m hm at_ si.place (r := 1) (sto := [mbox m]) (Nat.le_refl 1) rfl (Nat.lt_succ_self 0)
  unfold timeD at htm
  have hwy := timeM_le hm at_ si.place
  generalize timeM m at_ si.place = way at htm hgo hwy
  generalize inM m at_ si.place = wayb at htm
  have hwn : IntKind.i64.wrap (c + way) = c + way := wrap64 (by omega) (by omega)
  refine ⟨rfl, (by first | exact Nat.zero_le _ | exact Nat.le_refl _ | exact Nat.le_succ 1 | decide), (htm).mono ?_⟩
  rintro d l ⟨rfl, rfl⟩
  refine ⟨rfl, fun _ _ => rfl, rfl, ?_⟩
  refine ⟨st.length - (i + 1), by omega, i + 1, IntKind.i64.wrap (c + way), si.place, rfl, by omega, by rw [hwn]; omega, by rw [hwn]; omega, by rw [hwn]; exact hgo, ?_⟩
  unfold sCo
  rw [← hw]
  rfl
theorem costD_ok2 (m : Mp) (d : Drv) (os : List Ord) (st : List Stp) : partsOK (costD m d os st) = true ∧ nrB 0 (costD m d os st) = true := by
  unfold costD
  split <;> exact ⟨rfl, rfl⟩
theorem c_drayref6_Cost (m : Mp) (hm : okMp m) (d : Drv) (os : List Ord) (st : List Stp) (hsl : st.length ≤ 1000000000000000) {r b : Nat} {sto : List Ob} (hr : r ≤ sto.length) (hb : sto[b]? = some (mbox m)) (hbr : b < r) : Tri Try.prog 29 r [.gptr b 0, .agg (rowDr d), encOs os, .list .imm (st.map rowS)] sto (fun x k => x = costD m d os st ∧ k = sto) :=
  (c_drayref6_Cost_0 m hm d os st hsl).boxRO (nr_mcs m) rfl (nrBL_O (nrBL_S rfl)) (fun x h => by subst h; exact costD_ok2 m d os st) hr hb hbr
end Go.Lv

namespace Go.Lv
open Go.Proofs

noncomputable def sDr (os : List Drv) (id : Int) (i : Nat) : DS := ⟨[(0, encDs os), (1, .int .i64 id), (6, .int .i64 (i : Int)), (4, .lptr 4 0 0), (5, .bool false)], [(4, rowDr zeroDr)], [], mR 0⟩
set_option maxHeartbeats 4000000 in
theorem c_drayref9_driver_0 (os : List Drv) (hl : os.length ≤ 1000000000000000) (id : Int) : Tri Try.prog 45 0 [encDs os, .int .i64 id] [] (fun d k => d = drOfD id os ∧ k = []) := by
  refine Tri.walk2 (L := LT) (c := {n := 25, ko := [5], kb := [4]}) [] [0, 1, 4, 5, 6, 10, 19] hLT hmix Try.func45 rfl rfl ⟨rfl, rfl⟩ (by show 2 ≤ 25; decide) (by first | exact Nat.zero_le _ | exact Nat.le_refl _ | exact Nat.le_succ 1 | decide) ?_
  show Ok _ _ _ _ _
  refine Ok.loopN hLT hmix [] [0, 1, 4, 5, 6, 10, 19] [0,1,6,4,5] [4] (fun n s => ∃ i : Nat, n = os.length - i ∧ i ≤ os.length ∧ findDr id (os.drop i) = findDr id os ∧ s = sDr os id i) (n := os.length) ⟨0, rfl, Nat.zero_le _, rfl, by unfold sDr; rfl⟩ ?_
  rintro n s ⟨i, rfl, hi, hix, rfl⟩
  unfold drOfD drOf
  refine And.intro (fun h1 => ?_) (fun h1 => ?_)
  · have h1 : ((i : Nat) : Int) < ((os.map rowDr).length : Int) := of_decide_eq_true h1
    rw [List.length_map] at h1
    have hw := wrap_succ (i := i) (n := os.length) (by omega) hl
    rw [findDr_at (by omega)] at hix
    refine ⟨(os).map rowDr, rowDr ((os)[i]'(by omega)), rfl, by omega, row_at' rowDr (os) (by omega) (by omega), rfl, of_decide_eq_true rfl, ?_⟩
    refine And.intro (fun h2 => ?_) (fun h2 => ?_)
    · have h2 : os[i].id = id := of_decide_eq_true h2
      rw [if_pos h2] at hix
      rw [← hix]
      refine ⟨(os).map rowDr, rowDr ((os)[i]'(by omega)), rfl, by omega, row_at' rowDr (os) (by omega) (by omega), rfl, of_decide_eq_true rfl, ?_⟩
      exact And.intro rfl rfl
    · have h2 : ¬ os[i].id = id := of_decide_eq_false h2
      rw [if_neg h2] at hix
      refine ⟨os.length - (i + 1), by omega, i + 1, rfl, by omega, hix, ?_⟩
      unfold sDr
      rw [← hw]
      rfl
  · have h1 : ¬ ((i : Nat) : Int) < ((os.map rowDr).length : Int) := of_decide_eq_false h1
    rw [List.length_map] at h1
    rw [List.drop_eq_nil_of_le (by omega)] at hix
    rw [← hix]
    exact And.intro rfl rfl
theorem c_drayref9_driver (os : List Drv) (hl : os.length ≤ 1000000000000000) {xs : List (List D)} (hx : xs = os.map rowDr) (id : Int) {r : Nat} {sto : List Ob} (hr : r ≤ sto.length) : Tri Try.prog 45 r [.list .imm xs, .int .i64 id] sto (fun d k => d = drOfD id os ∧ k = sto) := by
  subst hx
  exact (c_drayref9_driver_0 os hl id).pure rfl (nrBL_Dr rfl) rfl rfl hr
noncomputable def ixDrA (id : Int) : Nat → List Drv → Int
  | _, [] => -1
  | i, o :: r => if o.id = id then (i : Int) else ixDrA id (i + 1) r
noncomputable def ixDr (id : Int) (ds : List Drv) : Int := ixDrA id 0 ds
theorem ixDrA_at {id : Int} {ds : List Drv} {i : Nat} (h : i < ds.length) : ixDrA id i (ds.drop i) = if ds[i].id = id then (i : Int) else ixDrA id (i + 1) (ds.drop (i + 1)) := by
  rw [List.drop_eq_getElem_cons h]
  rfl
theorem ixDrA_find {id : Int} : ∀ {ds : List Drv} {k : Nat}, (findDr id ds = none ∧ ixDrA id k ds = -1) ∨ ∃ (i : Nat) (h : i < ds.length), ixDrA id k ds = ((k + i : Nat) : Int) ∧ findDr id ds = some ds[i]
  | [], k => .inl ⟨rfl, rfl⟩
  | o :: r, k => by
    unfold findDr ixDrA
    split
    · exact .inr ⟨0, by simp, by simp, rfl⟩
    · rcases ixDrA_find (id := id) (ds := r) (k := k + 1) with h | ⟨i, h, h1, h2⟩
      · exact .inl h
      · exact .inr ⟨i + 1, by simp; omega, by rw [h1]; omega, by rw [h2]; rfl⟩
theorem ixDr_find (id : Int) (ds : List Drv) : (findDr id ds = none ∧ ixDr id ds = -1) ∨ ∃ (i : Nat) (h : i < ds.length), ixDr id ds = (i : Int) ∧ findDr id ds = some ds[i] := by
  rcases ixDrA_find (id := id) (ds := ds) (k := 0) with h | ⟨i, h, h1, h2⟩
  · exact .inl h
  · exact .inr ⟨i, h, by rw [← Nat.zero_add i]; exact h1, h2⟩
noncomputable def sDx (os : List Drv) (id : Int) (i : Nat) : DS := ⟨[(0, encDs os), (1, .int .i64 id), (5, .int .i64 (i : Int)), (4, .int .i64 0)], [], [], mR 0⟩
set_option maxHeartbeats 4000000 in
theorem c_drayref12_Driver_0 (os : List Drv) (hl : os.length ≤ 1000000000000000) (id : Int) : Tri Try.prog 30 0 [encDs os, .int .i64 id] [] (fun d k => d = .int .i64 (ixDr id os) ∧ k = []) := by
  refine Tri.walk2 (L := LT) (c := {n := 20, ko := [4]}) [] [0, 1, 4, 5, 9, 18] hLT hmix Try.func30 rfl rfl ⟨rfl, rfl⟩ (by show 2 ≤ 20; decide) (by first | exact Nat.zero_le _ | exact Nat.le_refl _ | exact Nat.le_succ 1 | decide) ?_
  show Ok _ _ _ _ _
  refine Ok.loopN hLT hmix [] [0, 1, 4, 5, 9, 18] [0,1,5,4] [] (fun n s => ∃ i : Nat, n = os.length - i ∧ i ≤ os.length ∧ ixDrA id i (os.drop i) = ixDr id os ∧ s = sDx os id i) (n := os.length) ⟨0, rfl, Nat.zero_le _, rfl, rfl⟩ ?_
  rintro n s ⟨i, rfl, hi, hix, rfl⟩
  refine And.intro (fun h1 => ?_) (fun h1 => ?_)
  · have h1 : ((i : Nat) : Int) < ((os.map rowDr).length : Int) := of_decide_eq_true h1
    rw [List.length_map] at h1
    have hw := wrap_succ (i := i) (n := os.length) (by omega) hl
    rw [ixDrA_at (by omega)] at hix
    refine ⟨(os).map rowDr, rowDr ((os)[i]'(by omega)), rfl, by omega, row_at' rowDr (os) (by omega) (by omega), rfl, of_decide_eq_true rfl, ?_⟩
    refine And.intro (fun h2 => ?_) (fun h2 => ?_)
    · have h2 : os[i].id = id := of_decide_eq_true h2
      rw [if_pos h2] at hix
      rw [← hix]
      exact And.intro rfl rfl
    · have h2 : ¬ os[i].id = id := of_decide_eq_false h2
      rw [if_neg h2] at hix
      refine ⟨os.length - (i + 1), by omega, i + 1, rfl, by omega, hix, ?_⟩
      unfold sDx
      rw [← hw]
      rfl
  · have h1 : ¬ ((i : Nat) : Int) < ((os.map rowDr).length : Int) := of_decide_eq_false h1
    rw [List.length_map] at h1
    rw [List.drop_eq_nil_of_le (by omega)] at hix
    rw [← hix]
    exact And.intro rfl rfl
theorem c_drayref12_Driver (os : List Drv) (hl : os.length ≤ 1000000000000000) (id : Int) {r : Nat} {sto : List Ob} (hr : r ≤ sto.length) : Tri Try.prog 30 r [encDs os, .int .i64 id] sto (fun d k => d = .int .i64 (ixDr id os) ∧ k = sto) :=
  (c_drayref12_Driver_0 os hl id).pure rfl (nrBL_Dr rfl) rfl rfl hr
noncomputable def sWe (m : Mp) (ds : List Drv) (os : List Ord) (p : Pln) (i : Nat) : DS := ⟨[(0, .gptr 0 0), (1, encDs ds), (9, .int .i64 (i : Int)), (8, .bool false)], [], [mbox m], mR 1⟩
noncomputable def sWe2 (m : Mp) (ds : List Drv) (os : List Ord) (p : Pln) (i j : Nat) : DS := ⟨[(0, .gptr 0 0), (1, encDs ds), (9, .int .i64 (i : Int)), (10, .int .i64 (j : Int)), (8, .bool false)], [], [mbox m], mR 1⟩
set_option maxHeartbeats 8000000 in
theorem c_drayref9_Well_0 (m : Mp) (hm : okMp m) (ds : List Drv) (os : List Ord) (p : Pln) : Tri Try.prog 44 1 [.gptr 0 0, encDs ds, encOs os, encP p] [mbox m] (fun x k => x = .bool (decide (togO m ds os p)) ∧ k = [mbox m]) := by
  refine Tri.walk2 (L := LT) (c := {n := 58, ko := [8]}) [] [0, 1, 2, 3, 8, 9, 10, 28, 32, 41, 44, 57] hLT hmix Try.func44 rfl rfl ⟨rfl, rfl⟩ (by show 4 ≤ 58; decide) (by first | exact Nat.zero_le _ | exact Nat.le_refl _ | exact Nat.le_succ 1 | decide) ?_
  repeat (first | refine And.intro (fun _ => ?_) (fun h => Bool.noConfusion h) | refine And.intro (fun h => Bool.noConfusion h) (fun _ => ?_))
  refine And.intro (fun h0 => ?_) (fun h0 => ?_)
  · have h0 : ((ds.map rowDr).length : Int) > 8 := of_decide_eq_true h0
    repeat (first | refine And.intro (fun _ => ?_) (fun h => Bool.noConfusion h) | refine And.intro (fun h => Bool.noConfusion h) (fun _ => ?_))
    rw [List.length_map] at h0
    rw [decide_eq_false (show ¬ togO m ds os p from fun h => by have := h.1; omega)]
    exact And.intro rfl rfl
  have h0 : ¬ ((ds.map rowDr).length : Int) > 8 := of_decide_eq_false h0
  rw [List.length_map] at h0
  repeat (first | refine And.intro (fun _ => ?_) (fun h => Bool.noConfusion h) | refine And.intro (fun h => Bool.noConfusion h) (fun _ => ?_))
  refine ⟨rfl, (by first | exact Nat.zero_le _ | exact Nat.le_refl _ | exact Nat.le_succ 1 | decide), (c_drayref6_Known m hm os (r := 1) (sto := [mbox m]) (Nat.le_refl 1) rfl (Nat.lt_succ_self 0)).mono ?_⟩
  rintro d l ⟨rfl, rfl⟩
  refine ⟨rfl, fun _ _ => rfl, rfl, ?_⟩
  cases h1 : decide (okOs m.n os) with
  | false =>
    repeat (first | refine And.intro (fun _ => ?_) (fun h => Bool.noConfusion h) | refine And.intro (fun h => Bool.noConfusion h) (fun _ => ?_))
    rw [decide_eq_false (show ¬ togO m ds os p from fun h => of_decide_eq_false h1 h.2.1)]
    exact And.intro rfl rfl
  | true =>
  have h1 := of_decide_eq_true h1
  repeat (first | refine And.intro (fun _ => ?_) (fun h => Bool.noConfusion h) | refine And.intro (fun h => Bool.noConfusion h) (fun _ => ?_))
  refine ⟨rfl, (by first | exact Nat.zero_le _ | exact Nat.le_refl _ | exact Nat.le_succ 1 | decide), (c_drayref9_Right p (r := 1) (sto := [mbox m]) (Nat.le_refl 1)).mono ?_⟩
  rintro d l ⟨rfl, rfl⟩
  refine ⟨rfl, fun _ _ => rfl, rfl, ?_⟩
  cases h2 : rightP p with
  | false =>
    repeat (first | refine And.intro (fun _ => ?_) (fun h => Bool.noConfusion h) | refine And.intro (fun h => Bool.noConfusion h) (fun _ => ?_))
    rw [decide_eq_false (show ¬ togO m ds os p from fun h => by rw [h.2.2.1] at h2; cases h2)]
    exact And.intro rfl rfl
  | true =>
  repeat (first | refine And.intro (fun _ => ?_) (fun h => Bool.noConfusion h) | refine And.intro (fun h => Bool.noConfusion h) (fun _ => ?_))
  show Ok _ _ _ _ _
  refine Ok.loopN hLT hmix [] [0, 1, 2, 3, 8, 9, 10, 28, 32, 41, 44, 57] [0,1,9,8] [] (fun n s => ∃ i : Nat, n = ds.length - i ∧ i ≤ ds.length ∧ (∀ o, o ∈ ds.take i → errD m.n o = 0) ∧ (ds.take i).Pairwise (fun a b => a.id ≠ b.id) ∧ s = sWe m ds os p i) (n := ds.length) ⟨0, rfl, Nat.zero_le _, by simp, by simp, rfl⟩ ?_
  rintro n s ⟨i, rfl, hi, hall, hpw, rfl⟩
  refine And.intro (fun h3 => ?_) (fun h3 => ?_)
  rotate_left
  · have h3 : ¬ ((i : Nat) : Int) < ((ds.map rowDr).length : Int) := of_decide_eq_false h3
    rw [List.length_map] at h3
    rw [List.take_of_length_le (by omega)] at hall hpw
    rw [decide_eq_true (show togO m ds os p from ⟨by omega, h1, h2, hall, hpw⟩)]
    exact And.intro rfl rfl
  have h3 : ((i : Nat) : Int) < ((ds.map rowDr).length : Int) := of_decide_eq_true h3
  rw [List.length_map] at h3
  have hil : i < ds.length := by omega
  have hw := wrap_succ (i := i) (n := ds.length) hil (by omega)
  refine ⟨(ds).map rowDr, rowDr ((ds)[i]'(by omega)), rfl, by omega, row_at' rowDr (ds) (by omega) (by omega), rfl, of_decide_eq_true rfl, ?_⟩
  refine ⟨rfl, (by first | exact Nat.zero_le _ | exact Nat.le_refl _ | exact Nat.le_succ 1 | decide), (c_drayref6_Driver m hm ds[i] (r := 1) (sto := [mbox m]) (Nat.le_refl 1) rfl (Nat.lt_succ_self 0)).mono ?_⟩
  rintro d l ⟨rfl, rfl⟩
  refine ⟨rfl, fun _ _ => rfl, rfl, ?_⟩
  refine And.intro (fun h4 => ?_) (fun h4 => ?_)
  · have h4 := nd_true h4
    rw [decide_eq_false (show ¬ togO m ds os p from fun h => h4 (h.2.2.2.1 _ (List.getElem_mem _)))]
    exact And.intro rfl rfl
  have h4 := nd_false h4
  show Ok _ _ _ _ _
  refine Ok.loopN hLT hmix [] [0, 1, 2, 3, 8, 9, 10, 28, 32, 41, 44, 57] [0,1,9,10,8] [] (fun n s => ∃ j : Nat, n = i - j ∧ j ≤ i ∧ (∀ x, x ∈ ds.take j → x.id ≠ ds[i].id) ∧ s = sWe2 m ds os p i j) (n := i) ⟨0, rfl, Nat.zero_le _, by simp, rfl⟩ ?_
  rintro n s ⟨j, rfl, hj, hne, rfl⟩
  refine And.intro (fun h5 => ?_) (fun h5 => ?_)
  · have h5 : ((j : Nat) : Int) < (i : Int) := of_decide_eq_true h5
    have hwj := wrap_succ (i := j) (n := i) (by omega) (by omega)
    refine ⟨⟨2047, [0, 0, 3, 4, 8, 0, 0, 96, 128, 256, 528], [1, 2, 7, 15, 31, 32, 64, 224, 480, 992, 2047]⟩, by kernel_rfl, ?_⟩
    refine ⟨(ds).map rowDr, rowDr ((ds)[j]'(by omega)), rfl, by omega, row_at' rowDr (ds) (by omega) (by omega), rfl, of_decide_eq_true rfl, ?_⟩
    refine And.intro rfl ?_
    refine ⟨(ds).map rowDr, rowDr ((ds)[i]'(by omega)), rfl, by omega, row_at' rowDr (ds) (by omega) (by omega), rfl, of_decide_eq_true rfl, ?_⟩
    refine And.intro rfl ?_
    refine And.intro (fun h6 => ?_) (fun h6 => ?_)
    · have h6 := of_decide_eq_true h6
      rw [decide_eq_false (show ¬ togO m ds os p from fun h => pwD_no hil (show j < i by omega) h6 h.2.2.2.2)]
      exact And.intro rfl rfl
    have h6 := of_decide_eq_false h6
    refine ⟨i - (j + 1), by omega, j + 1, rfl, by omega, fun x hx => ?_, ?_⟩
    · rw [List.take_succ_eq_append_getElem (by omega)] at hx
      rcases List.mem_append.1 hx with hx | hx
      · exact hne x hx
      · rw [List.mem_singleton.1 hx]
        exact h6
    · unfold sWe2
      rw [← hwj]
      rfl
  have h5 : ¬ ((j : Nat) : Int) < (i : Int) := of_decide_eq_false h5
  have hji : j = i := by omega
  subst hji
  refine ⟨ds.length - (j + 1), by omega, j + 1, rfl, by omega, fun x hx => ?_, pwD_snoc hil hpw hne, ?_⟩
  · rw [List.take_succ_eq_append_getElem hil] at hx
    rcases List.mem_append.1 hx with hx | hx
    · exact hall x hx
    · rw [List.mem_singleton.1 hx]
      exact h4
  · unfold sWe
    rw [← hw]
    rfl
theorem c_drayref9_Well (m : Mp) (hm : okMp m) (ds : List Drv) (os : List Ord) (p : Pln) {r b : Nat} {sto : List Ob} (hr : r ≤ sto.length) (hb : sto[b]? = some (mbox m)) (hbr : b < r) : Tri Try.prog 44 r [.gptr b 0, encDs ds, encOs os, encP p] sto (fun x k => x = .bool (decide (togO m ds os p)) ∧ k = sto) :=
  (c_drayref9_Well_0 m hm ds os p).boxRO (nr_mcs m) rfl (nrBL_Dr (nrBL_O (nrBL_P rfl))) (fun d h => by subst h; exact ⟨rfl, rfl⟩) hr hb hbr
end Go.Lv

namespace Go.Lv
open Go.Proofs

noncomputable def sMr (m : Mp) (ds : List Drv) (os : List Ord) (p : Pln) (c : List (List Vis)) (sz : Nat) (i : Nat) : DS := ⟨[(0, .gptr 0 0), (1, encDs ds), (2, encOs os), (3, encP p), (8, .list (.own 0) []), (9, .lptr 9 0 0), (10, .list (.own sz) (c.map rowCt)), (11, .int .i64 (i : Int))], [(9, [.int .i64 0, .int .i64 0])], [mbox m], mR 1⟩
set_option maxHeartbeats 8000000 in
theorem c_drayref9_Make_0 (m : Mp) (hm : okMp m) (ds : List Drv) (os : List Ord) (p : Pln) : Tri Try.prog 28 1 [.gptr 0 0, encDs ds, encOs os, encP p] [mbox m] (fun x k => isMk (makeR m ds os p) x ∧ k = [mbox m]) := by
  refine Tri.walk2 (L := LT) (c := {n := 68, ko := [8, 10], kb := [9], xf := [43, 62, 66]}) [] [0, 1, 2, 3, 8, 9, 10, 11, 12, 13, 14, 15, 21, 26, 40, 57] hLT hmix Try.func28 rfl rfl ⟨rfl, rfl⟩ (by show 4 ≤ 68; decide) (by first | exact Nat.zero_le _ | exact Nat.le_refl _ | exact Nat.le_succ 1 | decide) ?_
  refine ⟨rfl, (by first | exact Nat.zero_le _ | exact Nat.le_refl _ | exact Nat.le_succ 1 | decide), (c_drayref9_Well m hm ds os p (r := 1) (sto := [mbox m]) (Nat.le_refl 1) rfl (Nat.lt_succ_self 0)).mono ?_⟩
  rintro d l ⟨rfl, rfl⟩
  refine ⟨rfl, fun _ _ => rfl, rfl, ?_⟩
  unfold makeR
  cases h1 : decide (togO m ds os p) with
  | false =>
    repeat (first | refine And.intro (fun _ => ?_) (fun h => Bool.noConfusion h) | refine And.intro (fun h => Bool.noConfusion h) (fun _ => ?_))
    rw [if_neg (of_decide_eq_false h1)]
    exact And.intro ⟨0, .inl rfl, rfl⟩ rfl
  | true =>
  repeat (first | refine And.intro (fun _ => ?_) (fun h => Bool.noConfusion h) | refine And.intro (fun h => Bool.noConfusion h) (fun _ => ?_))
  have h1 := of_decide_eq_true h1
  rw [if_pos h1]
  have hpl := rightP_st h1.2.2.1
  have hdl := h1.1
  show Ok _ _ _ _ _
  refine Ok.loopN hLT hmix [] [0, 1, 2, 3, 8, 9, 10, 11, 12, 13, 14, 15, 21, 26, 40, 57] [0,1,2,3,8,9,10,11] [9] (fun n s => ∃ (i : Nat) (c : List (List Vis)) (sz : Nat), n = p.length - i ∧ i ≤ p.length ∧ (sz = 0 ∨ sz = 1) ∧ c.length = i ∧ goMk m ds os i c (p.drop i) = goMk m ds os 0 [] p ∧ s = sMr m ds os p c sz i) (n := p.length) ⟨0, [], 0, rfl, Nat.zero_le _, .inl rfl, rfl, rfl, rfl⟩ ?_
  rintro n s ⟨i, c, sz, rfl, hi, hsz, hc, hgo, rfl⟩
  refine And.intro (fun h3 => ?_) (fun h3 => ?_)
  rotate_left
  · have h3 : ¬ ((i : Nat) : Int) < ((p.map rowR).length : Int) := of_decide_eq_false h3
    rw [List.length_map] at h3
    rw [List.drop_eq_nil_of_le (by omega)] at hgo
    rw [← hgo]
    exact And.intro ⟨sz, hsz, rfl⟩ rfl
  have h3 : ((i : Nat) : Int) < ((p.map rowR).length : Int) := of_decide_eq_true h3
  rw [List.length_map] at h3
  have hil : i < p.length := by omega
  have hw := wrap_succ (i := i) (n := p.length) hil (by omega)
  have hrs := hpl.2 p[i] (List.getElem_mem _)
  rw [goMk_at hil] at hgo
  have hrow : (p.map rowR)[((i : Nat) : Int).toNat]? = some (rowR p[i]) := row_at' rowR p rfl hil
  generalize p[i] = r at hgo hrs hrow ⊢
  have hcl := c_drayref9_driver ds (by omega) rfl r.drv (r := 1) (sto := [mbox m]) (Nat.le_refl 1)
  unfold drOfD at hcl
  refine ⟨_, _, rfl, by omega, hrow, rfl, of_decide_eq_true rfl, ?_⟩
  cases hfd : findDr r.drv ds with
  | none =>
    rw [hfd] at hgo
    rw [(drOf_none hfd).1, (drOf_none hfd).2] at hcl
    refine ⟨rfl, (by first | exact Nat.zero_le _ | exact Nat.le_refl _ | exact Nat.le_succ 1 | decide), (hcl).mono ?_⟩
    rintro d l ⟨rfl, rfl⟩
    refine ⟨rfl, fun _ _ => rfl, rfl, ?_⟩
    repeat (first | refine And.intro (fun _ => ?_) (fun h => Bool.noConfusion h) | refine And.intro (fun h => Bool.noConfusion h) (fun _ => ?_))
    rw [← hgo]
    exact And.intro ⟨0, .inl rfl, rfl⟩ rfl
  | some d =>
  rw [hfd] at hgo
  replace hgo : (if (timed m d os r.st).2.2 ≠ 0 then (([], (i : Int), (timed m d os r.st).2.2) : List (List Vis) × Int × Int) else goMk m ds os (i + 1) (c ++ [(timed m d os r.st).1]) (p.drop (i + 1))) = goMk m ds os 0 [] p := hgo
  rw [(drOf_some hfd).1, (drOf_some hfd).2] at hcl
  have htd := c_drayref6_Drive m hm d os r.st (by omega) (r := 1) (sto := [mbox m]) (Nat.le_refl 1) rfl (Nat.lt_succ_self 0)
  have hdr : driveR m d os r.st = timed m d os r.st := if_pos ⟨h1.2.2.2.1 d (findDr_mem hfd).1, h1.2.1, hrs.1⟩
  rw [hdr] at htd
  generalize timed m d os r.st = x at hgo htd
  obtain ⟨vs, a, e⟩ := x
  replace hgo : (if e ≠ 0 then (([], (i : Int), e) : List (List Vis) × Int × Int) else goMk m ds os (i + 1) (c ++ [vs]) (p.drop (i + 1))) = goMk m ds os 0 [] p := hgo
  refine ⟨rfl, (by first | exact Nat.zero_le _ | exact Nat.le_refl _ | exact Nat.le_succ 1 | decide), (hcl).mono ?_⟩
  rintro d l ⟨rfl, rfl⟩
  refine ⟨rfl, fun _ _ => rfl, rfl, ?_⟩
  repeat (first | refine And.intro (fun _ => ?_) (fun h => Bool.noConfusion h) | refine And.intro (fun h => Bool.noConfusion h) (fun _ => ?_))
  refine ⟨⟨16383, [0, 0, 0, 0, 0, 24, 32, 64, 135, 256, 512, 512, 0, 6143, 16383], [1, 2, 4, 8, 16, 56, 120, 248, 511, 1023, 2047, 3071, 4096, 14335, 32767]⟩, by kernel_rfl, ?_⟩
  refine ⟨_, _, rfl, by omega, hrow, rfl, of_decide_eq_true rfl, ?_⟩
  refine And.intro rfl ?_
  refine (fun (hrest : ∀ (z2 : Nat), z2 = 0 ∨ z2 = 6 → _) => (by
      refine And.intro ?_ (And.intro ?_ trivial)
      · refine ⟨rfl, Nat.le_refl _, htd.mono ?_⟩
        rintro x l ⟨⟨sz2, hsz2, rfl⟩, rfl⟩
        refine ⟨rfl, fun _ _ => rfl, rfl, ?_⟩
        refine And.intro (by repeat (first | exact trivial | refine And.intro ⟨rfl, rfl⟩ ?_ | refine And.intro ⟨_, _, rfl, by omega, (by assumption), rfl, of_decide_eq_true rfl, And.intro rfl (And.intro rfl rfl)⟩ ?_)) ?_
        refine And.intro ?_ (And.intro ?_ trivial)
        · refine And.intro (by repeat (first | exact trivial | refine And.intro ⟨rfl, rfl⟩ ?_ | refine And.intro ⟨_, _, rfl, by omega, (by assumption), rfl, of_decide_eq_true rfl, And.intro rfl (And.intro rfl rfl)⟩ ?_)) ?_
          refine And.intro ?_ (And.intro ?_ (And.intro ?_ trivial))
          · refine And.intro (by repeat (first | exact trivial | refine And.intro ⟨rfl, rfl⟩ ?_ | refine And.intro ⟨_, _, rfl, by omega, (by assumption), rfl, of_decide_eq_true rfl, And.intro rfl (And.intro rfl rfl)⟩ ?_)) ?_
            refine And.intro ?_ trivial
            refine And.intro (by repeat (first | exact trivial | refine And.intro ⟨rfl, rfl⟩ ?_ | refine And.intro ⟨_, _, rfl, by omega, (by assumption), rfl, of_decide_eq_true rfl, And.intro rfl (And.intro rfl rfl)⟩ ?_)) ?_
            refine And.intro ?_ trivial
            refine And.intro (by repeat (first | exact trivial | refine And.intro ⟨rfl, rfl⟩ ?_ | refine And.intro ⟨_, _, rfl, by omega, (by assumption), rfl, of_decide_eq_true rfl, And.intro rfl (And.intro rfl rfl)⟩ ?_)) ?_
            refine And.intro ?_ trivial
            refine And.intro (by repeat (first | exact trivial | refine And.intro ⟨rfl, rfl⟩ ?_ | refine And.intro ⟨_, _, rfl, by omega, (by assumption), rfl, of_decide_eq_true rfl, And.intro rfl (And.intro rfl rfl)⟩ ?_)) ?_
            exact hrest sz2 hsz2
          · refine And.intro (by repeat (first | exact trivial | refine And.intro ⟨rfl, rfl⟩ ?_ | refine And.intro ⟨_, _, rfl, by omega, (by assumption), rfl, of_decide_eq_true rfl, And.intro rfl (And.intro rfl rfl)⟩ ?_)) ?_
            refine And.intro ?_ (And.intro ?_ trivial)
            · refine And.intro (by repeat (first | exact trivial | refine And.intro ⟨rfl, rfl⟩ ?_ | refine And.intro ⟨_, _, rfl, by omega, (by assumption), rfl, of_decide_eq_true rfl, And.intro rfl (And.intro rfl rfl)⟩ ?_)) ?_
              refine And.intro ?_ trivial
              refine And.intro (by repeat (first | exact trivial | refine And.intro ⟨rfl, rfl⟩ ?_ | refine And.intro ⟨_, _, rfl, by omega, (by assumption), rfl, of_decide_eq_true rfl, And.intro rfl (And.intro rfl rfl)⟩ ?_)) ?_
              refine And.intro ?_ trivial
              refine And.intro (by repeat (first | exact trivial | refine And.intro ⟨rfl, rfl⟩ ?_ | refine And.intro ⟨_, _, rfl, by omega, (by assumption), rfl, of_decide_eq_true rfl, And.intro rfl (And.intro rfl rfl)⟩ ?_)) ?_
              refine And.intro ?_ trivial
              refine And.intro (by repeat (first | exact trivial | refine And.intro ⟨rfl, rfl⟩ ?_ | refine And.intro ⟨_, _, rfl, by omega, (by assumption), rfl, of_decide_eq_true rfl, And.intro rfl (And.intro rfl rfl)⟩ ?_)) ?_
              exact hrest sz2 hsz2
            · refine And.intro (by repeat (first | exact trivial | refine And.intro ⟨rfl, rfl⟩ ?_ | refine And.intro ⟨_, _, rfl, by omega, (by assumption), rfl, of_decide_eq_true rfl, And.intro rfl (And.intro rfl rfl)⟩ ?_)) ?_
              refine And.intro ?_ trivial
              refine And.intro (by repeat (first | exact trivial | refine And.intro ⟨rfl, rfl⟩ ?_ | refine And.intro ⟨_, _, rfl, by omega, (by assumption), rfl, of_decide_eq_true rfl, And.intro rfl (And.intro rfl rfl)⟩ ?_)) ?_
              refine And.intro ?_ trivial
              refine And.intro (by repeat (first | exact trivial | refine And.intro ⟨rfl, rfl⟩ ?_ | refine And.intro ⟨_, _, rfl, by omega, (by assumption), rfl, of_decide_eq_true rfl, And.intro rfl (And.intro rfl rfl)⟩ ?_)) ?_
              refine And.intro ?_ trivial
              refine And.intro (by repeat (first | exact trivial | refine And.intro ⟨rfl, rfl⟩ ?_ | refine And.intro ⟨_, _, rfl, by omega, (by assumption), rfl, of_decide_eq_true rfl, And.intro rfl (And.intro rfl rfl)⟩ ?_)) ?_
              exact hrest sz2 hsz2
          · refine And.intro (by repeat (first | exact trivial | refine And.intro ⟨rfl, rfl⟩ ?_ | refine And.intro ⟨_, _, rfl, by omega, (by assumption), rfl, of_decide_eq_true rfl, And.intro rfl (And.intro rfl rfl)⟩ ?_)) ?_
            refine And.intro ?_ (And.intro ?_ trivial)
            · refine And.intro (by repeat (first | exact trivial | refine And.intro ⟨rfl, rfl⟩ ?_ | refine And.intro ⟨_, _, rfl, by omega, (by assumption), rfl, of_decide_eq_true rfl, And.intro rfl (And.intro rfl rfl)⟩ ?_)) ?_
              refine And.intro ?_ trivial
              refine And.intro (by repeat (first | exact trivial | refine And.intro ⟨rfl, rfl⟩ ?_ | refine And.intro ⟨_, _, rfl, by omega, (by assumption), rfl, of_decide_eq_true rfl, And.intro rfl (And.intro rfl rfl)⟩ ?_)) ?_
              refine And.intro ?_ trivial
              refine And.intro (by repeat (first | exact trivial | refine And.intro ⟨rfl, rfl⟩ ?_ | refine And.intro ⟨_, _, rfl, by omega, (by assumption), rfl, of_decide_eq_true rfl, And.intro rfl (And.intro rfl rfl)⟩ ?_)) ?_
              exact hrest sz2 hsz2
            · refine And.intro (by repeat (first | exact trivial | refine And.intro ⟨rfl, rfl⟩ ?_ | refine And.intro ⟨_, _, rfl, by omega, (by assumption), rfl, of_decide_eq_true rfl, And.intro rfl (And.intro rfl rfl)⟩ ?_)) ?_
              refine And.intro ?_ trivial
              refine And.intro (by repeat (first | exact trivial | refine And.intro ⟨rfl, rfl⟩ ?_ | refine And.intro ⟨_, _, rfl, by omega, (by assumption), rfl, of_decide_eq_true rfl, And.intro rfl (And.intro rfl rfl)⟩ ?_)) ?_
              refine And.intro ?_ trivial
              refine And.intro (by repeat (first | exact trivial | refine And.intro ⟨rfl, rfl⟩ ?_ | refine And.intro ⟨_, _, rfl, by omega, (by assumption), rfl, of_decide_eq_true rfl, And.intro rfl (And.intro rfl rfl)⟩ ?_)) ?_
              refine And.intro ?_ trivial
              refine And.intro (by repeat (first | exact trivial | refine And.intro ⟨rfl, rfl⟩ ?_ | refine And.intro ⟨_, _, rfl, by omega, (by assumption), rfl, of_decide_eq_true rfl, And.intro rfl (And.intro rfl rfl)⟩ ?_)) ?_
              exact hrest sz2 hsz2
        · refine And.intro (by repeat (first | exact trivial | refine And.intro ⟨rfl, rfl⟩ ?_ | refine And.intro ⟨_, _, rfl, by omega, (by assumption), rfl, of_decide_eq_true rfl, And.intro rfl (And.intro rfl rfl)⟩ ?_)) ?_
          refine And.intro ?_ trivial
          refine And.intro (by repeat (first | exact trivial | refine And.intro ⟨rfl, rfl⟩ ?_ | refine And.intro ⟨_, _, rfl, by omega, (by assumption), rfl, of_decide_eq_true rfl, And.intro rfl (And.intro rfl rfl)⟩ ?_)) ?_
          refine And.intro ?_ (And.intro ?_ trivial)
          · refine And.intro (by repeat (first | exact trivial | refine And.intro ⟨rfl, rfl⟩ ?_ | refine And.intro ⟨_, _, rfl, by omega, (by assumption), rfl, of_decide_eq_true rfl, And.intro rfl (And.intro rfl rfl)⟩ ?_)) ?_
            refine And.intro ?_ trivial
            refine And.intro (by repeat (first | exact trivial | refine And.intro ⟨rfl, rfl⟩ ?_ | refine And.intro ⟨_, _, rfl, by omega, (by assumption), rfl, of_decide_eq_true rfl, And.intro rfl (And.intro rfl rfl)⟩ ?_)) ?_
            refine And.intro ?_ trivial
            refine And.intro (by repeat (first | exact trivial | refine And.intro ⟨rfl, rfl⟩ ?_ | refine And.intro ⟨_, _, rfl, by omega, (by assumption), rfl, of_decide_eq_true rfl, And.intro rfl (And.intro rfl rfl)⟩ ?_)) ?_
            exact hrest sz2 hsz2
          · refine And.intro (by repeat (first | exact trivial | refine And.intro ⟨rfl, rfl⟩ ?_ | refine And.intro ⟨_, _, rfl, by omega, (by assumption), rfl, of_decide_eq_true rfl, And.intro rfl (And.intro rfl rfl)⟩ ?_)) ?_
            refine And.intro ?_ trivial
            refine And.intro (by repeat (first | exact trivial | refine And.intro ⟨rfl, rfl⟩ ?_ | refine And.intro ⟨_, _, rfl, by omega, (by assumption), rfl, of_decide_eq_true rfl, And.intro rfl (And.intro rfl rfl)⟩ ?_)) ?_
            refine And.intro ?_ trivial
            refine And.intro (by repeat (first | exact trivial | refine And.intro ⟨rfl, rfl⟩ ?_ | refine And.intro ⟨_, _, rfl, by omega, (by assumption), rfl, of_decide_eq_true rfl, And.intro rfl (And.intro rfl rfl)⟩ ?_)) ?_
            refine And.intro ?_ trivial
            refine And.intro (by repeat (first | exact trivial | refine And.intro ⟨rfl, rfl⟩ ?_ | refine And.intro ⟨_, _, rfl, by omega, (by assumption), rfl, of_decide_eq_true rfl, And.intro rfl (And.intro rfl rfl)⟩ ?_)) ?_
            exact hrest sz2 hsz2
      · refine And.intro (by repeat (first | exact trivial | refine And.intro ⟨rfl, rfl⟩ ?_ | refine And.intro ⟨_, _, rfl, by omega, (by assumption), rfl, of_decide_eq_true rfl, And.intro rfl (And.intro rfl rfl)⟩ ?_)) ?_
        refine And.intro ?_ trivial
        refine ⟨rfl, Nat.le_refl _, htd.mono ?_⟩
        rintro x l ⟨⟨sz2, hsz2, rfl⟩, rfl⟩
        refine ⟨rfl, fun _ _ => rfl, rfl, ?_⟩
        refine And.intro (by repeat (first | exact trivial | refine And.intro ⟨rfl, rfl⟩ ?_ | refine And.intro ⟨_, _, rfl, by omega, (by assumption), rfl, of_decide_eq_true rfl, And.intro rfl (And.intro rfl rfl)⟩ ?_)) ?_
        refine And.intro ?_ trivial
        refine And.intro (by repeat (first | exact trivial | refine And.intro ⟨rfl, rfl⟩ ?_ | refine And.intro ⟨_, _, rfl, by omega, (by assumption), rfl, of_decide_eq_true rfl, And.intro rfl (And.intro rfl rfl)⟩ ?_)) ?_
        refine And.intro ?_ (And.intro ?_ trivial)
        · refine And.intro (by repeat (first | exact trivial | refine And.intro ⟨rfl, rfl⟩ ?_ | refine And.intro ⟨_, _, rfl, by omega, (by assumption), rfl, of_decide_eq_true rfl, And.intro rfl (And.intro rfl rfl)⟩ ?_)) ?_
          refine And.intro ?_ trivial
          refine And.intro (by repeat (first | exact trivial | refine And.intro ⟨rfl, rfl⟩ ?_ | refine And.intro ⟨_, _, rfl, by omega, (by assumption), rfl, of_decide_eq_true rfl, And.intro rfl (And.intro rfl rfl)⟩ ?_)) ?_
          refine And.intro ?_ trivial
          refine And.intro (by repeat (first | exact trivial | refine And.intro ⟨rfl, rfl⟩ ?_ | refine And.intro ⟨_, _, rfl, by omega, (by assumption), rfl, of_decide_eq_true rfl, And.intro rfl (And.intro rfl rfl)⟩ ?_)) ?_
          exact hrest sz2 hsz2
        · refine And.intro (by repeat (first | exact trivial | refine And.intro ⟨rfl, rfl⟩ ?_ | refine And.intro ⟨_, _, rfl, by omega, (by assumption), rfl, of_decide_eq_true rfl, And.intro rfl (And.intro rfl rfl)⟩ ?_)) ?_
          refine And.intro ?_ trivial
          refine And.intro (by repeat (first | exact trivial | refine And.intro ⟨rfl, rfl⟩ ?_ | refine And.intro ⟨_, _, rfl, by omega, (by assumption), rfl, of_decide_eq_true rfl, And.intro rfl (And.intro rfl rfl)⟩ ?_)) ?_
          refine And.intro ?_ trivial
          refine And.intro (by repeat (first | exact trivial | refine And.intro ⟨rfl, rfl⟩ ?_ | refine And.intro ⟨_, _, rfl, by omega, (by assumption), rfl, of_decide_eq_true rfl, And.intro rfl (And.intro rfl rfl)⟩ ?_)) ?_
          refine And.intro ?_ trivial
          refine And.intro (by repeat (first | exact trivial | refine And.intro ⟨rfl, rfl⟩ ?_ | refine And.intro ⟨_, _, rfl, by omega, (by assumption), rfl, of_decide_eq_true rfl, And.intro rfl (And.intro rfl rfl)⟩ ?_)) ?_
          exact hrest sz2 hsz2)) ?_
  intro z2 hz2
  refine And.intro (fun h4 => ?_) (fun h4 => ?_)
  · have h4 := nd_true h4
    rw [if_pos h4] at hgo
    rw [← hgo]
    refine ⟨⟨31, [0, 0, 2, 5, 0, 31], [1, 2, 6, 15, 16, 63]⟩, by kernel_rfl, ?_⟩
    refine And.intro ?_ trivial
    refine And.intro (by repeat (first | exact trivial | refine And.intro ⟨rfl, rfl⟩ ?_)) ?_
    refine And.intro ?_ trivial
    refine And.intro (by repeat (first | exact trivial | refine And.intro ⟨rfl, rfl⟩ ?_)) ?_
    exact And.intro ⟨0, .inl rfl, rfl⟩ rfl
  have h4 := nd_false h4
  rw [if_neg (fun h => h h4)] at hgo
  have hszk : ((sz == 0 || sz == LT.size 86) && decide (0 < LT.size 86) && decide (0 < LT.bytes 86) && (LT.zero 86).isSome) = true := by rcases hsz with rfl | rfl <;> rfl
  have hrm : ((c.map rowCt).length + 1) * 24 ≤ 140737488355328 := by rw [List.length_map]; omega
  refine And.intro trivial (And.intro hszk (And.intro hrm (And.intro rfl ?_)))
  refine ⟨p.length - (i + 1), by omega, i + 1, c ++ [vs], 1, rfl, by omega, .inr rfl, by rw [List.length_append]; simp only [List.length_cons, List.length_nil]; omega, hgo, ?_⟩
  unfold sMr
  rw [← hw, List.map_append]
  rfl
theorem c_drayref9_Make (m : Mp) (hm : okMp m) (ds : List Drv) (os : List Ord) (p : Pln) {r b : Nat} {sto : List Ob} (hr : r ≤ sto.length) (hb : sto[b]? = some (mbox m)) (hbr : b < r) : Tri Try.prog 28 r [.gptr b 0, encDs ds, encOs os, encP p] sto (fun x k => isMk (makeR m ds os p) x ∧ k = sto) :=
  (c_drayref9_Make_0 m hm ds os p).boxRO (nr_mcs m) rfl (nrBL_Dr (nrBL_O (nrBL_P rfl))) (fun d h => isMk_ok h) hr hb hbr
end Go.Lv

namespace Go.Lv
open Go.Proofs

theorem goMk_ok {m : Mp} {ds : List Drv} {os : List Ord} : ∀ {p : Pln} {i : Nat} {c : List (List Vis)}, (goMk m ds os i c p).2.2 = 0 → ∀ r, r ∈ p → ∃ d, findDr r.drv ds = some d ∧ (timed m d os r.st).2.2 = 0
  | [], _, _, _, r, hr => by cases hr
  | x :: p, i, c, h, r, hr => by
    unfold goMk at h
    cases hf : findDr x.drv ds with
    | none =>
      rw [hf] at h
      exact absurd h (by show ¬ (8 : Int) = 0; decide)
    | some d =>
      rw [hf] at h
      replace h : (if (timed m d os x.st).2.2 ≠ 0 then (([], (i : Int), (timed m d os x.st).2.2) : List (List Vis) × Int × Int) else goMk m ds os (i + 1) (c ++ [(timed m d os x.st).1]) p).2.2 = 0 := h
      split at h
      · rename_i h1
        exact absurd h h1
      · rename_i h1
        rcases List.mem_cons.1 hr with rfl | hr
        · exact ⟨d, hf, Decidable.of_not_not h1⟩
        · exact goMk_ok h r hr
theorem makeR_ok {m : Mp} {ds : List Drv} {os : List Ord} {p : Pln} (h : (makeR m ds os p).2.2 = 0) : togO m ds os p ∧ ∀ r, r ∈ p → ∃ d, findDr r.drv ds = some d ∧ d ∈ ds ∧ (timed m d os r.st).2.2 = 0 ∧ (driveR m d os r.st).2.2 = 0 := by
  have ht := makeR_tog h
  refine ⟨ht, fun r hr => ?_⟩
  unfold makeR at h
  rw [if_pos ht] at h
  obtain ⟨d, hd, h1⟩ := goMk_ok h r hr
  have hm := (findDr_mem hd).1
  refine ⟨d, hd, hm, h1, ?_⟩
  unfold driveR
  rw [if_pos ⟨ht.2.2.2.1 d hm, ht.2.1, ((rightP_st ht.2.2.1).2 r hr).1⟩]
  exact h1
noncomputable def sTr (m : Mp) (ds : List Drv) (os : List Ord) (p : Pln) (n : Int) (i : Nat) : DS := ⟨[(0, .gptr 0 0), (1, encDs ds), (2, encOs os), (3, encP p), (8, .int .i64 0), (9, .bool false), (12, .int .i64 n), (13, .int .i64 (i : Int))], [], [mbox m], mR 1⟩
set_option maxHeartbeats 8000000 in
theorem c_drayref12_Total_0 (m : Mp) (hm : okMp m) (ds : List Drv) (os : List Ord) (p : Pln) : Tri Try.prog 15 1 [.gptr 0 0, encDs ds, encOs os, encP p] [mbox m] (fun x k => x = totalD m ds os p ∧ k = [mbox m]) := by
  refine Tri.walk2 (L := LT) (c := {n := 58, ko := [8, 9], xf := [16]}) [] [0, 1, 2, 3, 8, 9, 11, 12, 13, 14, 26, 30] hLT hmix Try.func15 rfl rfl ⟨rfl, rfl⟩ (by show 4 ≤ 58; decide) (by first | exact Nat.zero_le _ | exact Nat.le_refl _ | exact Nat.le_succ 1 | decide) ?_
  unfold totalD
  have htg := makeR_ok (m := m) (ds := ds) (os := os) (p := p)
  have hmk := c_drayref9_Make m hm ds os p (r := 1) (sto := [mbox m]) (Nat.le_refl 1) rfl (Nat.lt_succ_self 0)
  generalize makeR m ds os p = x at htg hmk ⊢
  obtain ⟨c, a, e⟩ := x
  refine ⟨rfl, Nat.le_refl _, hmk.mono ?_⟩
  rintro x l ⟨⟨sz, hsz, rfl⟩, rfl⟩
  refine ⟨rfl, fun _ _ => rfl, rfl, ?_⟩
  refine And.intro (fun h1 => ?_) (fun h1 => ?_)
  · have h1 := nd_true h1
    rw [if_neg (show ¬ e = 0 from h1)]
    exact And.intro rfl rfl
  have h1 : e = 0 := nd_false h1
  rw [if_pos h1]
  have hg := htg h1
  have hpl := rightP_st hg.1.2.2.1
  have hdl := hg.1.1
  show Ok _ _ _ _ _
  refine Ok.loopN hLT hmix [] [0, 1, 2, 3, 8, 9, 11, 12, 13, 14, 26, 30] [0,1,2,3,8,9,12,13] [] (fun k s => ∃ (i : Nat) (n : Int), k = p.length - i ∧ i ≤ p.length ∧ 0 ≤ n ∧ n ≤ 80000000 * (i : Int) ∧ totG m ds os n (p.drop i) = totP m ds os p ∧ s = sTr m ds os p n i) (n := p.length) ⟨0, 0, rfl, Nat.zero_le _, by omega, by omega, rfl, rfl⟩ ?_
  rintro k s ⟨i, n, rfl, hi, hn0, hn1, hgo, rfl⟩
  refine And.intro (fun h2 => ?_) (fun h2 => ?_)
  rotate_left
  · have h2 : ¬ ((i : Nat) : Int) < ((p.map rowR).length : Int) := of_decide_eq_false h2
    rw [List.length_map] at h2
    rw [List.drop_eq_nil_of_le (by omega)] at hgo
    rw [← hgo]
    exact And.intro rfl rfl
  have h2 : ((i : Nat) : Int) < ((p.map rowR).length : Int) := of_decide_eq_true h2
  rw [List.length_map] at h2
  have hil : i < p.length := by omega
  have hw := wrap_succ (i := i) (n := p.length) hil (by omega)
  rw [totG_at hil] at hgo
  have hst := (hpl.2 p[i] (List.getElem_mem _)).1
  have hrow : (p.map rowR)[((i : Nat) : Int).toNat]? = some (rowR p[i]) := row_at' rowR p rfl hil
  obtain ⟨d, hfd, hdm, htd, hdv⟩ := hg.2 p[i] (List.getElem_mem _)
  generalize p[i] = r at hgo hst hrow hfd htd hdv ⊢
  have hcl := c_drayref12_Driver ds (by omega) r.drv (r := 1) (sto := [mbox m]) (Nat.le_refl 1)
  rcases ixDr_find r.drv ds with ⟨hfn, hix⟩ | ⟨k, hkl, hix, hfn⟩
  · rw [hfn] at hfd
    cases hfd
  rw [hix] at hcl
  have hkd : ds[k] = d := by rw [hfd] at hfn; exact (Option.some.inj hfn).symm
  have hrow2 : (ds.map rowDr)[((k : Nat) : Int).toNat]? = some (rowDr d) := by rw [← hkd]; exact row_at' rowDr ds rfl hkl
  have hdo : drOf r.drv ds = d := (drOf_some hfd).1
  rw [hdo] at hgo
  have hco := c_drayref6_Cost m hm d os r.st (by omega) (r := 1) (sto := [mbox m]) (Nat.le_refl 1) rfl (Nat.lt_succ_self 0)
  unfold costD at hco
  rw [if_pos hdv] at hco
  have hwl := wayP_le hm (d := d) (os := os) hst
  generalize wayP m d os r.st = way at hco hwl hgo
  have hws : IntKind.i64.wrap (n + way) = n + way := wrap64 (by omega) (by omega)
  refine ⟨⟨8388607, [0, 0, 0, 0, 0, 24, 32, 64, 132, 258, 512, 0, 0, 0, 12288, 16384, 32768, 68865, 131072, 262144, 262144, 1048575, 4194303], [1, 2, 4, 8, 16, 56, 120, 248, 508, 1022, 2046, 2048, 4096, 8192, 28672, 61440, 126976, 262143, 524287, 1048575, 1572863, 3145727, 8388607]⟩, by kernel_rfl, ?_⟩
  refine ⟨_, _, rfl, by omega, hrow, rfl, of_decide_eq_true rfl, ?_⟩
  refine And.intro rfl ?_
  refine ⟨_, _, rfl, by omega, hrow, rfl, of_decide_eq_true rfl, ?_⟩
  refine And.intro rfl ?_
  refine And.intro ?_ trivial
  refine ⟨rfl, (by first | exact Nat.zero_le _ | exact Nat.le_refl _ | exact Nat.le_succ 1 | decide), (hcl).mono ?_⟩
  rintro d l ⟨rfl, rfl⟩
  refine ⟨rfl, fun _ _ => rfl, rfl, ?_⟩
  refine And.intro (by repeat (first | exact trivial | refine And.intro ⟨rfl, rfl⟩ ?_ | refine And.intro ⟨_, _, rfl, by omega, (by assumption), rfl, of_decide_eq_true rfl, And.intro rfl (And.intro rfl rfl)⟩ ?_)) ?_
  refine ⟨_, _, rfl, by omega, hrow2, rfl, of_decide_eq_true rfl, ?_⟩
  refine And.intro rfl ?_
  refine And.intro ?_ trivial
  refine ⟨rfl, (by first | exact Nat.zero_le _ | exact Nat.le_refl _ | exact Nat.le_succ 1 | decide), (hco).mono ?_⟩
  rintro d l ⟨rfl, rfl⟩
  refine ⟨rfl, fun _ _ => rfl, rfl, ?_⟩
  refine And.intro (by repeat (first | exact trivial | refine And.intro ⟨rfl, rfl⟩ ?_ | refine And.intro ⟨_, _, rfl, by omega, (by assumption), rfl, of_decide_eq_true rfl, And.intro rfl (And.intro rfl rfl)⟩ ?_)) ?_
  repeat (first | refine And.intro (fun _ => ?_) (fun h => Bool.noConfusion h) | refine And.intro (fun h => Bool.noConfusion h) (fun _ => ?_))
  refine And.intro ?_ trivial
  refine And.intro (by repeat (first | exact trivial | refine And.intro ⟨rfl, rfl⟩ ?_ | refine And.intro ⟨_, _, rfl, by omega, (by assumption), rfl, of_decide_eq_true rfl, And.intro rfl (And.intro rfl rfl)⟩ ?_)) ?_
  repeat (first | refine And.intro (fun _ => ?_) (fun h => Bool.noConfusion h) | refine And.intro (fun h => Bool.noConfusion h) (fun _ => ?_))
  refine And.intro ?_ trivial
  refine And.intro (by repeat (first | exact trivial | refine And.intro ⟨rfl, rfl⟩ ?_ | refine And.intro ⟨_, _, rfl, by omega, (by assumption), rfl, of_decide_eq_true rfl, And.intro rfl (And.intro rfl rfl)⟩ ?_)) ?_
  refine ⟨p.length - (i + 1), by omega, i + 1, IntKind.i64.wrap (n + way), rfl, by omega, by rw [hws]; omega, by rw [hws]; omega, by rw [hws]; exact hgo, ?_⟩
  unfold sTr
  rw [← hw]
  rfl
theorem c_drayref12_Total (m : Mp) (hm : okMp m) (ds : List Drv) (os : List Ord) (p : Pln) {r b : Nat} {sto : List Ob} (hr : r ≤ sto.length) (hb : sto[b]? = some (mbox m)) (hbr : b < r) : Tri Try.prog 15 r [.gptr b 0, encDs ds, encOs os, encP p] sto (fun x k => x = totalD m ds os p ∧ k = sto) :=
  (c_drayref12_Total_0 m hm ds os p).boxRO (nr_mcs m) rfl (nrBL_Dr (nrBL_O (nrBL_P rfl))) (fun d h => by subst h; exact totalD_ok m ds os p) hr hb hbr
set_option maxHeartbeats 4000000 in
theorem c_cert_Together_nil_0 (ds : List Drv) (os : List Ord) (p : Pln) : Tri Try.prog 31 0 [.nil, encDs ds, encOs os, encP p] [] (fun x k => x = .bool false ∧ k = []) := by
  refine Tri.walk2 (L := LT) (c := {n := 55, ko := [8]}) [] [0, 1, 2, 3, 8, 9, 10, 12, 30, 31, 32, 33, 34, 53] hLT hmix Try.func31 rfl rfl ⟨rfl, rfl⟩ (by show 4 ≤ 55; decide) (by first | exact Nat.zero_le _ | exact Nat.le_refl _ | exact Nat.le_succ 1 | decide) ?_
  repeat (first | refine And.intro (fun _ => ?_) (fun h => Bool.noConfusion h) | refine And.intro (fun h => Bool.noConfusion h) (fun _ => ?_))
  exact And.intro rfl rfl
set_option maxHeartbeats 4000000 in
theorem c_cert_Make_nil_0 (ds : List Drv) (os : List Ord) (p : Pln) : Tri Try.prog 17 0 [.nil, encDs ds, encOs os, encP p] [] (fun x k => x = .tup [.list (.own 0) [], fltD 0 1] ∧ k = []) := by
  refine Tri.walk2 (L := LT) (c := {n := 65, ko := [8, 10], kb := [9], xf := [42, 58, 63]}) [] [0, 1, 2, 3, 8, 9, 10, 11, 12, 13, 14, 15, 16, 22, 24, 25, 26, 27, 39, 53] hLT hmix Try.func17 rfl rfl ⟨rfl, rfl⟩ (by show 4 ≤ 65; decide) (by first | exact Nat.zero_le _ | exact Nat.le_refl _ | exact Nat.le_succ 1 | decide) ?_
  refine ⟨rfl, (by first | exact Nat.zero_le _ | exact Nat.le_refl _ | exact Nat.le_succ 1 | decide), (c_cert_Together_nil_0 ds os p).mono ?_⟩
  rintro d l ⟨rfl, rfl⟩
  refine ⟨rfl, fun _ _ => rfl, rfl, ?_⟩
  repeat (first | refine And.intro (fun _ => ?_) (fun h => Bool.noConfusion h) | refine And.intro (fun h => Bool.noConfusion h) (fun _ => ?_))
  exact And.intro rfl rfl
set_option maxHeartbeats 4000000 in
theorem c_repair_Total_nil_0 (ds : List Drv) (os : List Ord) (p : Pln) : Tri Try.prog 9 0 [.nil, encDs ds, encOs os, encP p] [] (fun x k => x = .tup [.int .i64 0, .bool false] ∧ k = []) := by
  refine Tri.walk2 (L := LT) (c := {n := 28, ko := [8, 9]}) [] [0, 1, 2, 3, 8, 9, 11, 22] hLT hmix Try.func9 rfl rfl ⟨rfl, rfl⟩ (by show 4 ≤ 28; decide) (by first | exact Nat.zero_le _ | exact Nat.le_refl _ | exact Nat.le_succ 1 | decide) ?_
  refine ⟨rfl, (by first | exact Nat.zero_le _ | exact Nat.le_refl _ | exact Nat.le_succ 1 | decide), (c_cert_Make_nil_0 ds os p).mono ?_⟩
  rintro d l ⟨rfl, rfl⟩
  refine ⟨rfl, fun _ _ => rfl, rfl, ?_⟩
  refine ⟨rfl, (by first | exact Nat.zero_le _ | exact Nat.le_refl _ | exact Nat.le_succ 1 | decide), (c_api_Good 0 1 (r := 0) (sto := []) (Nat.le_refl 0)).mono ?_⟩
  rintro d l ⟨rfl, rfl⟩
  refine ⟨rfl, fun _ _ => rfl, rfl, ?_⟩
  repeat (first | refine And.intro (fun _ => ?_) (fun h => Bool.noConfusion h) | refine And.intro (fun h => Bool.noConfusion h) (fun _ => ?_))
  exact And.intro rfl rfl
set_option maxHeartbeats 4000000 in
theorem c_drayref9_Well_nil_0 (ds : List Drv) (os : List Ord) (p : Pln) : Tri Try.prog 44 0 [.nil, encDs ds, encOs os, encP p] [] (fun x k => x = .bool false ∧ k = []) := by
  refine Tri.walk2 (L := LT) (c := {n := 58, ko := [8]}) [] [0, 1, 2, 3, 8, 9, 10, 28, 32, 41, 44, 57] hLT hmix Try.func44 rfl rfl ⟨rfl, rfl⟩ (by show 4 ≤ 58; decide) (by first | exact Nat.zero_le _ | exact Nat.le_refl _ | exact Nat.le_succ 1 | decide) ?_
  repeat (first | refine And.intro (fun _ => ?_) (fun h => Bool.noConfusion h) | refine And.intro (fun h => Bool.noConfusion h) (fun _ => ?_))
  exact And.intro rfl rfl
set_option maxHeartbeats 4000000 in
theorem c_drayref9_Make_nil_0 (ds : List Drv) (os : List Ord) (p : Pln) : Tri Try.prog 28 0 [.nil, encDs ds, encOs os, encP p] [] (fun x k => x = .tup [.list (.own 0) [], fltD 0 1] ∧ k = []) := by
  refine Tri.walk2 (L := LT) (c := {n := 68, ko := [8, 10], kb := [9], xf := [43, 62, 66]}) [] [0, 1, 2, 3, 8, 9, 10, 11, 12, 13, 14, 15, 21, 26, 40, 57] hLT hmix Try.func28 rfl rfl ⟨rfl, rfl⟩ (by show 4 ≤ 68; decide) (by first | exact Nat.zero_le _ | exact Nat.le_refl _ | exact Nat.le_succ 1 | decide) ?_
  refine ⟨rfl, (by first | exact Nat.zero_le _ | exact Nat.le_refl _ | exact Nat.le_succ 1 | decide), (c_drayref9_Well_nil_0 ds os p).mono ?_⟩
  rintro d l ⟨rfl, rfl⟩
  refine ⟨rfl, fun _ _ => rfl, rfl, ?_⟩
  repeat (first | refine And.intro (fun _ => ?_) (fun h => Bool.noConfusion h) | refine And.intro (fun h => Bool.noConfusion h) (fun _ => ?_))
  exact And.intro rfl rfl
set_option maxHeartbeats 4000000 in
theorem c_drayref12_Total_nil_0 (ds : List Drv) (os : List Ord) (p : Pln) : Tri Try.prog 15 0 [.nil, encDs ds, encOs os, encP p] [] (fun x k => x = .tup [.int .i64 0, .bool false] ∧ k = []) := by
  refine Tri.walk2 (L := LT) (c := {n := 58, ko := [8, 9], xf := [16]}) [] [0, 1, 2, 3, 8, 9, 11, 12, 13, 14, 26, 30] hLT hmix Try.func15 rfl rfl ⟨rfl, rfl⟩ (by show 4 ≤ 58; decide) (by first | exact Nat.zero_le _ | exact Nat.le_refl _ | exact Nat.le_succ 1 | decide) ?_
  refine ⟨rfl, (by first | exact Nat.zero_le _ | exact Nat.le_refl _ | exact Nat.le_succ 1 | decide), (c_drayref9_Make_nil_0 ds os p).mono ?_⟩
  rintro d l ⟨rfl, rfl⟩
  refine ⟨rfl, fun _ _ => rfl, rfl, ?_⟩
  repeat (first | refine And.intro (fun _ => ?_) (fun h => Bool.noConfusion h) | refine And.intro (fun h => Bool.noConfusion h) (fun _ => ?_))
  exact And.intro rfl rfl
theorem c_repair_Total_nil (ds : List Drv) (os : List Ord) (p : Pln) {r : Nat} {sto : List Ob} (hr : r ≤ sto.length) : Tri Try.prog 9 r [.nil, encDs ds, encOs os, encP p] sto (fun x k => x = .tup [.int .i64 0, .bool false] ∧ k = sto) :=
  (c_repair_Total_nil_0 ds os p).pure rfl (nrBL_Dr (nrBL_O (nrBL_P rfl))) rfl rfl hr
theorem c_drayref12_Total_nil (ds : List Drv) (os : List Ord) (p : Pln) {r : Nat} {sto : List Ob} (hr : r ≤ sto.length) : Tri Try.prog 15 r [.nil, encDs ds, encOs os, encP p] sto (fun x k => x = .tup [.int .i64 0, .bool false] ∧ k = sto) :=
  (c_drayref12_Total_nil_0 ds os p).pure rfl (nrBL_Dr (nrBL_O (nrBL_P rfl))) rfl rfl hr
end Go.Lv

namespace Go.Lv
open Go.Proofs

noncomputable def sdrayref4_New1 (n : Int) (l : List Int) (i : Nat) : DS := ⟨[(0, .int .i64 n), (1, .list .imm (l.map rowI)), (4, .nil), (5, .int .i64 0), (6, .int .i64 (i : Int))], [], [], mR 0⟩
noncomputable def sdrayref4_New2 (n : Int) (l : List Int) (i : Nat) : DS := ⟨[(0, .int .i64 n), (1, .list .imm (l.map rowI)), (4, .nil), (5, .int .i64 0), (7, .int .i64 (i : Int))], [], [], mR 0⟩
set_option maxHeartbeats 8000000 in
theorem c_drayref4_New_0 (n : Int) (l : List Int) (hl : l.length ≤ 1000000000000000) : Tri Try.prog 27 0 [.int .i64 n, .list .imm (l.map rowI)] [] (fun d k => isNew n l 0 [] d k) := by
  refine Tri.walk2 (L := LT) (c := {n := 58, gl := [57], ko := [4, 5]}) [] [0, 1, 4, 5, 6, 7, 13, 19, 23, 37, 40, 51] hLT hmix Try.func27 rfl rfl ⟨rfl, rfl⟩ (by show 2 ≤ 58; decide) (by first | exact Nat.zero_le _ | exact Nat.le_refl _ | exact Nat.le_succ 1 | decide) ?_
  refine And.intro (fun h0 => ?_) (fun h0 => ?_)
  · have h0 : n < 1 := of_decide_eq_true h0
    repeat (first | refine And.intro (fun _ => ?_) (fun h => Bool.noConfusion h) | refine And.intro (fun h => Bool.noConfusion h) (fun _ => ?_))
    exact isNew_no (show newE n l = 1 by unfold newE; rw [if_pos (.inl h0)]) (by decide)
  have h0 : ¬ n < 1 := of_decide_eq_false h0
  repeat (first | refine And.intro (fun _ => ?_) (fun h => Bool.noConfusion h) | refine And.intro (fun h => Bool.noConfusion h) (fun _ => ?_))
  refine And.intro (fun h1 => ?_) (fun h1 => ?_)
  · have h1 : n > 12 := of_decide_eq_true h1
    repeat (first | refine And.intro (fun _ => ?_) (fun h => Bool.noConfusion h) | refine And.intro (fun h => Bool.noConfusion h) (fun _ => ?_))
    exact isNew_no (show newE n l = 1 by unfold newE; rw [if_pos (.inr h1)]) (by decide)
  have h1 : ¬ n > 12 := of_decide_eq_false h1
  repeat (first | refine And.intro (fun _ => ?_) (fun h => Bool.noConfusion h) | refine And.intro (fun h => Bool.noConfusion h) (fun _ => ?_))
  have hnn : n * n ≤ 12 * 12 := Int.mul_le_mul (by omega) (by omega) (by omega) (by decide)
  have hn0 : 0 ≤ n * n := Int.mul_nonneg (by omega) (by omega)
  have hwm : IntKind.i64.wrap (n * n) = n * n := wrap64 (by omega) (by omega)
  have hi0 : ¬ (n < 1 ∨ n > 12) := by omega
  refine And.intro (fun h2 => ?_) (fun h2 => ?_)
  · have h2 : ¬ ((l.map rowI).length : Int) = IntKind.i64.wrap (n * n) := nd_true h2
    rw [List.length_map, hwm] at h2
    exact isNew_no (show newE n l = 2 by unfold newE; rw [if_neg hi0, if_pos h2]) (by decide)
  have h2 : ((l.map rowI).length : Int) = IntKind.i64.wrap (n * n) := nd_false h2
  rw [List.length_map, hwm] at h2
  show Ok _ _ _ _ _
  refine Ok.loopN hLT hmix [] [0, 1, 4, 5, 6, 7, 13, 19, 23, 37, 40, 51] [0,1,4,5,6] [] (fun k s => ∃ i : Nat, k = l.length - i ∧ i ≤ l.length ∧ timesO (l.take i) ∧ s = sdrayref4_New1 n l i) (n := l.length) ⟨0, rfl, Nat.zero_le _, (fun t ht => by simp at ht), by unfold sdrayref4_New1; rfl⟩ ?_
  rintro k s ⟨i, rfl, hi, hti, rfl⟩
  refine And.intro (fun h3 => ?_) (fun h3 => ?_)
  · have h3 : ((i : Nat) : Int) < ((l.map rowI).length : Int) := of_decide_eq_true h3
    rw [List.length_map] at h3
    have hil : i < l.length := by omega
    have hw := wrap_succ (i := i) (n := l.length) hil hl
    refine ⟨(l).map rowI, rowI ((l)[i]'(by omega)), rfl, by omega, row_at' rowI (l) (by omega) (by omega), rfl, of_decide_eq_true rfl, ?_⟩
    refine And.intro (fun h4 => ?_) (fun h4 => ?_)
    · have h4 : l[i] < 0 := of_decide_eq_true h4
      repeat (first | refine And.intro (fun _ => ?_) (fun h => Bool.noConfusion h) | refine And.intro (fun h => Bool.noConfusion h) (fun _ => ?_))
      exact isNew_no (show newE n l = 7 by unfold newE; rw [if_neg hi0, if_neg (fun h => h h2), if_pos (fun h => by have := h l[i] (List.getElem_mem _); omega)]) (by decide)
    have h4 : ¬ l[i] < 0 := of_decide_eq_false h4
    repeat (first | refine And.intro (fun _ => ?_) (fun h => Bool.noConfusion h) | refine And.intro (fun h => Bool.noConfusion h) (fun _ => ?_))
    refine ⟨(l).map rowI, rowI ((l)[i]'(by omega)), rfl, by omega, row_at' rowI (l) (by omega) (by omega), rfl, of_decide_eq_true rfl, ?_⟩
    refine And.intro (fun h5 => ?_) (fun h5 => ?_)
    · have h5 : l[i] > 1000000 := of_decide_eq_true h5
      repeat (first | refine And.intro (fun _ => ?_) (fun h => Bool.noConfusion h) | refine And.intro (fun h => Bool.noConfusion h) (fun _ => ?_))
      exact isNew_no (show newE n l = 7 by unfold newE; rw [if_neg hi0, if_neg (fun h => h h2), if_pos (fun h => by have := h l[i] (List.getElem_mem _); omega)]) (by decide)
    have h5 : ¬ l[i] > 1000000 := of_decide_eq_false h5
    repeat (first | refine And.intro (fun _ => ?_) (fun h => Bool.noConfusion h) | refine And.intro (fun h => Bool.noConfusion h) (fun _ => ?_))
    refine ⟨l.length - (i + 1), by omega, i + 1, rfl, by omega, fun t ht => ?_, ?_⟩
    · rw [List.take_succ_eq_append_getElem hil] at ht
      rcases List.mem_append.1 ht with ht | ht
      · exact hti t ht
      · rw [List.mem_singleton.1 ht]
        omega
    · unfold sdrayref4_New1
      rw [← hw]
      rfl
  have h3 : ¬ ((i : Nat) : Int) < ((l.map rowI).length : Int) := of_decide_eq_false h3
  rw [List.length_map] at h3
  rw [List.take_of_length_le (by omega)] at hti
  show Ok _ _ _ _ _
  refine Ok.loopN hLT hmix [] [0, 1, 4, 5, 6, 7, 13, 19, 23, 37, 40, 51] [0,1,4,5,7] [] (fun k s => ∃ i : Nat, k = n.toNat - i ∧ i ≤ n.toNat ∧ diagO n l i ∧ s = sdrayref4_New2 n l i) (n := n.toNat) ⟨0, rfl, Nat.zero_le _, (fun a ha => absurd ha (Nat.not_lt_zero _)), rfl⟩ ?_
  rintro k s ⟨i, rfl, hi, hdi, rfl⟩
  refine And.intro (fun h3 => ?_) (fun h3 => ?_)
  · have h3 : ((i : Nat) : Int) < n := of_decide_eq_true h3
    have hw := wrap_succ (i := i) (n := n.toNat) (by omega) (by omega)
    obtain ⟨q1, q2⟩ := diag_idx (a := i) (by omega) (by omega) h3 h2
    refine ⟨(l).map rowI, rowI ((l)[i * n.toNat + i]'q2), rfl, by rw [q1]; exact Int.natCast_nonneg _, row_at' rowI l q1 q2, rfl, of_decide_eq_true rfl, ?_⟩
    have hgd : l.getD (i * n.toNat + i) 0 = l[i * n.toNat + i] := by rw [List.getD_eq_getElem?_getD, List.getElem?_eq_getElem q2]; rfl
    refine And.intro (fun h4 => ?_) (fun h4 => ?_)
    · have h4 := nd_true h4
      exact isNew_no (show newE n l = 4 by unfold newE; rw [if_neg hi0, if_neg (fun h => h h2), if_neg (fun h => h hti), if_pos (fun h => h4 (by rw [← hgd]; exact h i (by omega)))]) (by decide)
    have h4 := nd_false h4
    refine ⟨n.toNat - (i + 1), by omega, i + 1, rfl, by omega, fun a ha => ?_, ?_⟩
    · rcases Nat.lt_or_ge a i with h | h
      · exact hdi a h
      · rw [show a = i by omega, hgd]
        exact h4
    · unfold sdrayref4_New2
      rw [← hw]
      rfl
  have h3 : ¬ ((i : Nat) : Int) < n := of_decide_eq_false h3
  have hdn : diagO n l n.toNat := by rw [show n.toNat = i by omega]; exact hdi
  have hnew : newE n l = 0 := by unfold newE; rw [if_neg hi0, if_neg (fun h => h h2), if_neg (fun h => h hti), if_neg (fun h => h hdn)]
  have hok : okMp ⟨n, l⟩ := ⟨by show 1 ≤ n; omega, by show n ≤ 12; omega, h2, hti⟩
  have hrm : (0 + (l.map rowI).length) * 8 ≤ 140737488355328 := by rw [List.length_map]; omega
  have hal : allLen 1 (l.map rowI) = true := by simp [allLen, rowI]
  refine And.intro trivial (And.intro rfl (And.intro hrm (And.intro hal ?_)))
  exact .inl ⟨hnew, hok, rfl, rfl⟩
theorem c_drayref4_New (n : Int) (l : List Int) (hl : l.length ≤ 1000000000000000) {r : Nat} {sto : List Ob} (hr : r ≤ sto.length) : Tri Try.prog 27 r [.int .i64 n, .list .imm (l.map rowI)] sto (fun d k => isNew n l sto.length sto d k) :=
  (c_drayref4_New_0 n l hl).newAny rfl (by show (true && (nrBLL 0 (l.map rowI) && true)) = true; rw [nrBLL_I]; rfl) hr

end Go.Lv

namespace Go.Lv
open Go.Proofs

noncomputable def encW (n : Int) (l : List Int) (ds : List Drv) (os : List Ord) (p : Pln) : List D := [.int .i64 n, .list .imm (l.map rowI), encDs ds, encOs os, encP p]
noncomputable def isMaps (n : Int) (l : List Int) (d : D) (k : List Ob) : Prop := (d = .tup [.nil, .nil, .bool true] ∧ k = []) ∨ (okMp ⟨n, l⟩ ∧ d = .tup [.gptr 0 0, .gptr 1 0, .bool true] ∧ k = [mbox ⟨n, l⟩, mbox ⟨n, l⟩])
set_option maxHeartbeats 4000000 in
theorem c_draykeep_Maps_0 (n : Int) (l : List Int) (hl : l.length ≤ 1000000000000000) (ds : List Drv) (os : List Ord) (p : Pln) : Tri Try.prog 14 0 [.agg (encW n l ds os p)] [] (fun d k => isMaps n l d k) := by
  refine Tri.walk2 (L := LT) (c := {n := 37, ko := [2, 3, 4]}) [] [0, 1, 2, 3, 4, 5, 6, 7, 8] hLT hmix Try.func14 rfl rfl ⟨rfl, rfl⟩ (by show 1 ≤ 37; decide) (by first | exact Nat.zero_le _ | exact Nat.le_refl _ | exact Nat.le_succ 1 | decide) ?_
  have h1 := c_geo_New n l hl (r := 0) (sto := []) (Nat.le_refl 0)
  refine ⟨rfl, Nat.le_refl _, h1.mono ?_⟩
  rintro d k (⟨he, hm, rfl, rfl⟩ | ⟨he, rfl, rfl⟩)
  · refine ⟨rfl, fun k hk => absurd hk (Nat.not_lt_zero k), rfl, ?_⟩
    have h2 := c_drayref4_New n l hl (r := 1) (sto := [mbox ⟨n, l⟩]) (Nat.le_refl 1)
    refine ⟨rfl, Nat.zero_le _, h2.mono ?_⟩
    rintro d k (⟨_, _, rfl, rfl⟩ | ⟨he2, rfl, rfl⟩)
    · refine ⟨rfl, fun k hk => List.getElem?_append_left hk, rfl, ?_⟩
      repeat (first | refine And.intro (fun _ => ?_) (fun h => Bool.noConfusion h) | refine And.intro (fun h => Bool.noConfusion h) (fun _ => ?_))
      exact .inr ⟨hm, rfl, rfl⟩
    · exact absurd he he2
  · refine ⟨rfl, fun k hk => absurd hk (Nat.not_lt_zero k), rfl, ?_⟩
    have h2 := c_drayref4_New n l hl (r := 0) (sto := []) (Nat.zero_le _)
    refine ⟨rfl, Nat.le_refl _, h2.mono ?_⟩
    rintro d k (⟨he2, _, rfl, rfl⟩ | ⟨_, rfl, rfl⟩)
    · exact absurd he2 he
    · refine ⟨rfl, fun k hk => absurd hk (Nat.not_lt_zero k), rfl, ?_⟩
      refine And.intro (fun h3 => ?_) (fun h3 => ?_)
      · repeat (first | refine And.intro (fun _ => ?_) (fun h => Bool.noConfusion h) | refine And.intro (fun h => Bool.noConfusion h) (fun _ => ?_))
        exact .inl ⟨rfl, rfl⟩
      · exact absurd rfl (of_decide_eq_false h3)
end Go.Lv

namespace Go.Lv
open Go.Proofs

theorem okInts {n : Nat} {x : List D} (h : OkD LT (n + 2) 52 x) : ∃ l : List Int, x = [.list .imm (l.map rowI)] := by
  obtain ⟨xs, rfl, _, h⟩ := h
  have key : ∀ xs : List (List D), (∀ r, r ∈ xs → r.length = LT.size 3 ∧ OkD LT (n + 1) 3 r) → ∃ l : List Int, xs = l.map rowI := by
    intro xs
    induction xs with
    | nil => intro _; exact ⟨[], rfl⟩
    | cons x r ih =>
      intro h
      obtain ⟨s, rfl, _⟩ := (h x (by simp)).2
      obtain ⟨l, rfl⟩ := ih fun y hy => h y (by simp [hy])
      exact ⟨s :: l, rfl⟩
  obtain ⟨l, rfl⟩ := key xs h
  exact ⟨l, rfl⟩
theorem okWin {n : Nat} {x : List D} (h : OkD LT (n + 2) 27 x) : ∃ w : Win, x = rowW w := by
  obtain ⟨x1, y1, rfl, _, h1, x2, y2, rfl, _, h2, rfl⟩ := h
  obtain ⟨i1, rfl, _⟩ := h1
  obtain ⟨i2, rfl, _⟩ := h2
  exact ⟨⟨i1, i2⟩, rfl⟩
theorem okSit {n : Nat} {x : List D} (h : OkD LT (n + 3) 29 x) : ∃ s : Sit, x = rowSi s := by
  obtain ⟨x1, y1, rfl, _, h1, x2, y2, rfl, _, h2, x3, y3, rfl, _, h3, rfl⟩ := h
  obtain ⟨i1, rfl, _⟩ := h1
  obtain ⟨w, rfl⟩ := okWin h2
  obtain ⟨i3, rfl, _⟩ := h3
  exact ⟨⟨i1, w, i3⟩, rfl⟩
theorem okOrd {n : Nat} {x : List D} (h : OkD LT (n + 4) 31 x) : ∃ o : Ord, x = rowO o := by
  obtain ⟨x1, y1, rfl, _, h1, x2, y2, rfl, _, h2, x3, y3, rfl, _, h3, x4, y4, rfl, _, h4, rfl⟩ := h
  obtain ⟨i1, rfl, _⟩ := h1
  obtain ⟨i2, rfl, _⟩ := h2
  obtain ⟨a, rfl⟩ := okSit h3
  obtain ⟨b, rfl⟩ := okSit h4
  exact ⟨⟨i1, i2, a, b⟩, rfl⟩
theorem okDrv {n : Nat} {x : List D} (h : OkD LT (n + 3) 33 x) : ∃ d : Drv, x = rowDr d := by
  obtain ⟨x1, y1, rfl, _, h1, x2, y2, rfl, _, h2, x3, y3, rfl, _, h3, x4, y4, rfl, _, h4, x5, y5, rfl, _, h5, rfl⟩ := h
  obtain ⟨i1, rfl, _⟩ := h1
  obtain ⟨i2, rfl, _⟩ := h2
  obtain ⟨i3, rfl, _⟩ := h3
  obtain ⟨w, rfl⟩ := okWin h4
  obtain ⟨b, rfl⟩ := h5
  exact ⟨⟨i1, i2, i3, w, b⟩, rfl⟩
theorem okOrds {n : Nat} {x : List D} (h : OkD LT (n + 5) 35 x) : ∃ l : List Ord, x = [encOs l] := by
  obtain ⟨xs, rfl, _, h⟩ := h
  have key : ∀ xs : List (List D), (∀ r, r ∈ xs → r.length = LT.size 31 ∧ OkD LT (n + 4) 31 r) → ∃ l : List Ord, xs = l.map rowO := by
    intro xs
    induction xs with
    | nil => intro _; exact ⟨[], rfl⟩
    | cons x r ih =>
      intro h
      obtain ⟨s, rfl⟩ := okOrd (h x (by simp)).2
      obtain ⟨l, rfl⟩ := ih fun y hy => h y (by simp [hy])
      exact ⟨s :: l, rfl⟩
  obtain ⟨l, rfl⟩ := key xs h
  exact ⟨l, rfl⟩
theorem okDrvs {n : Nat} {x : List D} (h : OkD LT (n + 4) 34 x) : ∃ l : List Drv, x = [encDs l] := by
  obtain ⟨xs, rfl, _, h⟩ := h
  have key : ∀ xs : List (List D), (∀ r, r ∈ xs → r.length = LT.size 33 ∧ OkD LT (n + 3) 33 r) → ∃ l : List Drv, xs = l.map rowDr := by
    intro xs
    induction xs with
    | nil => intro _; exact ⟨[], rfl⟩
    | cons x r ih =>
      intro h
      obtain ⟨s, rfl⟩ := okDrv (h x (by simp)).2
      obtain ⟨l, rfl⟩ := ih fun y hy => h y (by simp [hy])
      exact ⟨s :: l, rfl⟩
  obtain ⟨l, rfl⟩ := key xs h
  exact ⟨l, rfl⟩
theorem okStopN {n : Nat} {x : List D} (h : OkD LT (n + 2) 37 x) : ∃ s : Stp, x = rowS s := by
  obtain ⟨x1, y1, rfl, _, h1, x2, y2, rfl, _, h2, rfl⟩ := h
  obtain ⟨i1, rfl, _⟩ := h1
  obtain ⟨b, rfl⟩ := h2
  exact ⟨⟨i1, b⟩, rfl⟩
theorem okStopsN {n : Nat} {x : List D} (h : OkD LT (n + 3) 38 x) : ∃ l : List Stp, x = [.list .imm (l.map rowS)] := by
  obtain ⟨xs, rfl, _, h⟩ := h
  have key : ∀ xs : List (List D), (∀ r, r ∈ xs → r.length = LT.size 37 ∧ OkD LT (n + 2) 37 r) → ∃ l : List Stp, xs = l.map rowS := by
    intro xs
    induction xs with
    | nil => intro _; exact ⟨[], rfl⟩
    | cons x r ih =>
      intro h
      obtain ⟨s, rfl⟩ := okStopN (h x (by simp)).2
      obtain ⟨l, rfl⟩ := ih fun y hy => h y (by simp [hy])
      exact ⟨s :: l, rfl⟩
  obtain ⟨l, rfl⟩ := key xs h
  exact ⟨l, rfl⟩
theorem okRouteN {n : Nat} {x : List D} (h : OkD LT (n + 4) 40 x) : ∃ r : Rte, x = rowR r := by
  obtain ⟨x1, y1, rfl, _, h1, x2, y2, rfl, _, h2, x3, y3, rfl, _, h3, rfl⟩ := h
  obtain ⟨i1, rfl, _⟩ := h1
  obtain ⟨i2, rfl, _⟩ := h2
  obtain ⟨l, rfl⟩ := okStopsN h3
  exact ⟨⟨i1, i2, l⟩, rfl⟩
theorem okPlanN {n : Nat} {x : List D} (h : OkD LT (n + 5) 42 x) : ∃ p : Pln, x = [encP p] := by
  obtain ⟨xs, rfl, _, h⟩ := h
  have key : ∀ xs : List (List D), (∀ r, r ∈ xs → r.length = LT.size 40 ∧ OkD LT (n + 4) 40 r) → ∃ p : Pln, xs = p.map rowR := by
    intro xs
    induction xs with
    | nil => intro _; exact ⟨[], rfl⟩
    | cons x r ih =>
      intro h
      obtain ⟨s, rfl⟩ := okRouteN (h x (by simp)).2
      obtain ⟨l, rfl⟩ := ih fun y hy => h y (by simp [hy])
      exact ⟨s :: l, rfl⟩
  obtain ⟨p, rfl⟩ := key xs h
  exact ⟨p, rfl⟩
theorem okWorld {n m : Nat} {x : List D} (h : OkD LT (n + 6) 54 x) (z : SzD LT (m + 2) 54 x) : ∃ (k : Int) (l : List Int) (ds : List Drv) (os : List Ord) (p : Pln), x = encW k l ds os p ∧ l.length ≤ 1000000000000000 := by
  obtain ⟨x1, y1, rfl, _, h1, x2, y2, rfl, _, h2, x3, y3, rfl, _, h3, x4, y4, rfl, _, h4, x5, y5, rfl, _, h5, rfl⟩ := h
  obtain ⟨k, rfl, _⟩ := h1
  obtain ⟨l, rfl⟩ := okInts h2
  obtain ⟨ds, rfl⟩ := okDrvs h3
  obtain ⟨os, rfl⟩ := okOrds h4
  obtain ⟨p, rfl⟩ := okPlanN h5
  obtain ⟨a1, b1, e1, k1, _, a2, b2, e2, k2, z2, _⟩ := z
  have k1' : a1.length = 1 := k1
  have k2' : a2.length = 1 := k2
  obtain ⟨d1, rfl⟩ : ∃ c, a1 = [c] := List.length_eq_one_iff.1 k1'
  obtain ⟨d2, rfl⟩ : ∃ c, a2 = [c] := List.length_eq_one_iff.1 k2'
  subst e2
  simp only [List.cons_append, List.nil_append, List.cons.injEq] at e1
  obtain ⟨_, e, _⟩ := e1
  subst e
  obtain ⟨xs', e, z2, _⟩ := z2
  cases e
  have z2 : (l.map rowI).length * 8 ≤ 140737488351232 := z2
  rw [List.length_map] at z2
  exact ⟨k, l, ds, os, p, rfl, by omega⟩
end Go.Lv

namespace Go.Lv
open Go.Proofs
theorem tRunsR {r : Nat} {sto : List Ob} (hr : r ≤ sto.length) : Tri Try.prog 3 r [] sto (fun d l => d = .bool true ∧ l = sto) :=
  tRuns.pureR rfl rfl (fun d h => by subst h; exact ⟨rfl, rfl⟩) hr
end Go.Lv

namespace Go.Lv
open Go.Proofs

theorem totalD_is (m : Mp) (ds : List Drv) (os : List Ord) (p : Pln) : ∃ t b, totalD m ds os p = .tup [.int .i64 t, .bool b] := by
  unfold totalD
  split <;> exact ⟨_, _, rfl⟩
set_option maxHeartbeats 8000000 in
theorem l_Tells (n : Int) (l : List Int) (hl : l.length ≤ 1000000000000000) (ds : List Drv) (os : List Ord) (p : Pln) : Tri Try.prog 4 0 [.agg (encW n l ds os p)] [] (fun d _ => d = .bool true) := by
  refine Tri.walk2 (L := LT) (c := {n := 51, ko := [2]}) [] [0, 1, 2, 3, 4, 5, 6, 7, 8, 9, 17] hLT hmix Try.func4 rfl rfl ⟨rfl, rfl⟩ (by show 1 ≤ 51; decide) (by first | exact Nat.zero_le _ | exact Nat.le_refl _ | exact Nat.le_succ 1 | decide) ?_
  refine ⟨rfl, Nat.le_refl _, (c_draykeep_Maps_0 n l hl ds os p).mono ?_⟩
  rintro d k (⟨rfl, rfl⟩ | ⟨hm, rfl, rfl⟩)
  · refine ⟨rfl, fun k hk => absurd hk (Nat.not_lt_zero k), rfl, ?_⟩
    repeat (first | refine And.intro (fun _ => ?_) (fun h => Bool.noConfusion h) | refine And.intro (fun h => Bool.noConfusion h) (fun _ => ?_))
    refine ⟨rfl, (by first | exact Nat.zero_le _ | exact Nat.le_refl _ | exact Nat.le_succ 1 | decide), (c_repair_Total_nil ds os p (r := 0) (sto := []) (Nat.le_refl 0)).mono ?_⟩
    rintro d l ⟨rfl, rfl⟩
    refine ⟨rfl, fun _ _ => rfl, rfl, ?_⟩
    refine ⟨rfl, (by first | exact Nat.zero_le _ | exact Nat.le_refl _ | exact Nat.le_succ 1 | decide), (c_drayref12_Total_nil ds os p (r := 0) (sto := []) (Nat.le_refl 0)).mono ?_⟩
    rintro d l ⟨rfl, rfl⟩
    refine ⟨rfl, fun _ _ => rfl, rfl, ?_⟩
    repeat (first | refine And.intro (fun _ => ?_) (fun h => Bool.noConfusion h) | refine And.intro (fun h => Bool.noConfusion h) (fun _ => ?_))
    refine ⟨rfl, (by first | exact Nat.zero_le _ | exact Nat.le_refl _ | exact Nat.le_succ 1 | decide), (tRunsR (r := 0) (sto := []) (Nat.le_refl 0)).mono ?_⟩
    rintro d l ⟨rfl, rfl⟩
    refine ⟨rfl, fun _ _ => rfl, rfl, ?_⟩
    repeat (first | refine And.intro (fun _ => ?_) (fun h => Bool.noConfusion h) | refine And.intro (fun h => Bool.noConfusion h) (fun _ => ?_))
    exact rfl
  · refine ⟨rfl, fun k hk => absurd hk (Nat.not_lt_zero k), rfl, ?_⟩
    repeat (first | refine And.intro (fun _ => ?_) (fun h => Bool.noConfusion h) | refine And.intro (fun h => Bool.noConfusion h) (fun _ => ?_))
    obtain ⟨t, b, hT⟩ := totalD_is ⟨n, l⟩ ds os p
    have h1 := c_repair_Total ⟨n, l⟩ hm ds os p (r := 2) (b := 0) (sto := [mbox ⟨n, l⟩, mbox ⟨n, l⟩]) (Nat.le_refl 2) rfl (by decide)
    have h2 := c_drayref12_Total ⟨n, l⟩ hm ds os p (r := 2) (b := 1) (sto := [mbox ⟨n, l⟩, mbox ⟨n, l⟩]) (Nat.le_refl 2) rfl (by decide)
    rw [hT] at h1 h2
    refine ⟨rfl, (by first | exact Nat.zero_le _ | exact Nat.le_refl _ | exact Nat.le_succ 1 | decide), (h1).mono ?_⟩
    rintro d l ⟨rfl, rfl⟩
    refine ⟨rfl, fun _ _ => rfl, rfl, ?_⟩
    refine ⟨rfl, (by first | exact Nat.zero_le _ | exact Nat.le_refl _ | exact Nat.le_succ 1 | decide), (h2).mono ?_⟩
    rintro d l ⟨rfl, rfl⟩
    refine ⟨rfl, fun _ _ => rfl, rfl, ?_⟩
    refine And.intro (fun h3 => ?_) (fun h3 => ?_)
    · cases b
      all_goals
        repeat (first | refine And.intro (fun _ => ?_) (fun h => Bool.noConfusion h) | refine And.intro (fun h => Bool.noConfusion h) (fun _ => ?_))
        refine ⟨rfl, (by first | exact Nat.zero_le _ | exact Nat.le_refl _ | exact Nat.le_succ 1 | decide), (tRunsR (r := 2) (sto := [mbox ⟨n, l⟩, mbox ⟨n, l⟩]) (Nat.le_refl 2)).mono ?_⟩
        rintro d l ⟨rfl, rfl⟩
        refine ⟨rfl, fun _ _ => rfl, rfl, ?_⟩
        repeat (first | refine And.intro (fun _ => ?_) (fun h => Bool.noConfusion h) | refine And.intro (fun h => Bool.noConfusion h) (fun _ => ?_))
        exact rfl
    · exact absurd rfl (of_decide_eq_false h3)
end Go.Lv
