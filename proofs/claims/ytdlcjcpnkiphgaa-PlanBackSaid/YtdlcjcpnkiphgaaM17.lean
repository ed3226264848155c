/-
  Part 17 of the texts under the proof: an abstract run of loaded code on data, and what the functions do. No condition.
-/
import Derived.Test.YtdlcjcpnkiphgaaM16
set_option linter.all false
set_option maxRecDepth 100000
namespace Go.Lv
open Go.Proofs

structure szQ (p : Pln) : Prop where
  len : p.length * 40 ≤ 140737488351232
  st : ∀ r, r ∈ p → r.st.length * 16 ≤ 140737488351232
theorem szQ.P {p : Pln} (h : szQ p) : szP p := ⟨by have := h.len; omega, fun r hr => by have := h.st r hr; omega⟩
theorem take_ext {α : Type} {a b : List α} {i : Nat} (h : a.length = b.length) (hi : i < a.length) (ht : a.take i = b.take i) (he : a[i] = b[i]'(by omega)) : a.take (i + 1) = b.take (i + 1) := by
  rw [List.take_succ_eq_append_getElem hi, List.take_succ_eq_append_getElem (by omega), ht, he]
noncomputable def sSs (al bl : List Stp) (i : Nat) : DS := ⟨[(0, .list .imm (al.map rowS)), (1, .list .imm (bl.map rowS)), (5, .int .i64 (i : Int)), (4, .bool false)], [], [], mR 0⟩
set_option maxHeartbeats 4000000 in
theorem c_draybook_Same_Stop_0 (al bl : List Stp) (ha : al.length ≤ 1000000000000000) (hb : bl.length ≤ 1000000000000000) :
    Tri Try.prog 16 0 [.list .imm (al.map rowS), .list .imm (bl.map rowS)] [] (fun d l => d = .bool (decide (al = bl)) ∧ l = []) := by
  refine Tri.walk2 (L := LT) (c := {n := 26, ko := [4]}) [] [0, 1, 4, 5, 10, 14, 25] hLT hmix Try.func16 rfl rfl ⟨rfl, rfl⟩ (by show 2 ≤ 26; decide) (by first | exact Nat.zero_le _ | exact Nat.le_refl _ | decide) ?_
  refine And.intro (fun h0 => ?_) (fun h0 => ?_)
  · have h0 := nd_true h0
    rw [List.length_map, List.length_map] at h0
    rw [decide_eq_false (fun e => h0 (by rw [e]))]
    exact And.intro rfl rfl
  have h0 := nd_false h0
  rw [List.length_map, List.length_map] at h0
  have h0 : al.length = bl.length := by omega
  show Ok _ _ _ _ _
  refine Ok.loopN hLT hmix [] [0, 1, 4, 5, 10, 14, 25] [0,1,5,4] [] (fun n s => ∃ i : Nat, n = al.length - i ∧ i ≤ al.length ∧ al.take i = bl.take i ∧ s = sSs al bl i) (n := al.length) ⟨0, rfl, Nat.zero_le _, by simp, rfl⟩ ?_
  rintro n s ⟨i, rfl, hi, ht, rfl⟩
  refine And.intro (fun h1 => ?_) (fun h1 => ?_)
  · have h1 : ((i : Nat) : Int) < ((al.map rowS).length : Int) := of_decide_eq_true h1
    rw [List.length_map] at h1
    have hw := wrap_succ (i := i) (n := al.length) (by omega) ha
    refine ⟨⟨511, [0, 0, 3, 4, 0, 0, 48, 64, 136], [1, 2, 7, 15, 16, 32, 112, 240, 511]⟩, by kernel_rfl, ?_⟩
    refine ⟨(al).map rowS, rowS ((al)[i]'(by omega)), rfl, by omega, row_at' rowS (al) (by omega) (by omega), rfl, of_decide_eq_true rfl, ?_⟩
    refine And.intro rfl ?_
    refine ⟨(bl).map rowS, rowS ((bl)[i]'(by omega)), rfl, by omega, row_at' rowS (bl) (by omega) (by omega), rfl, of_decide_eq_true rfl, ?_⟩
    refine And.intro rfl ?_
    refine And.intro (fun h2 => ?_) (fun h2 => ?_)
    · have h2 := stp_ne (a := al[i]) (b := bl[i]) (by rw [Bool.not_eq_true'] at h2; exact h2)
      rw [decide_eq_false (fun e => h2 (by subst e; rfl))]
      exact And.intro rfl rfl
    · have h2 := stp_eq (a := al[i]) (b := bl[i]) (by rw [Bool.not_eq_false'] at h2; exact h2)
      refine ⟨al.length - (i + 1), by omega, i + 1, rfl, by omega, take_ext h0 (by omega) ht h2, ?_⟩
      unfold sSs
      rw [← hw]
      rfl
  · have h1 : ¬ ((i : Nat) : Int) < ((al.map rowS).length : Int) := of_decide_eq_false h1
    rw [List.length_map] at h1
    rw [List.take_of_length_le (by omega), List.take_of_length_le (by omega)] at ht
    rw [decide_eq_true ht]
    exact And.intro rfl rfl
theorem c_draybook_Same_Stop (al bl : List Stp) (ha : al.length ≤ 1000000000000000) (hb : bl.length ≤ 1000000000000000) {r : Nat} {sto : List Ob} (hr : r ≤ sto.length) :
    Tri Try.prog 16 r [.list .imm (al.map rowS), .list .imm (bl.map rowS)] sto (fun d l => d = .bool (decide (al = bl)) ∧ l = sto) :=
  (c_draybook_Same_Stop_0 al bl ha hb).pure rfl (nrBL_S (nrBL_S rfl)) rfl rfl hr
noncomputable def sRs (p q : Pln) (i : Nat) : DS := ⟨[(0, encP p), (1, encP q), (5, .int .i64 (i : Int)), (4, .bool false)], [], [], mR 0⟩
set_option maxHeartbeats 8000000 in
theorem c_draykeep_Routes_0 (p q : Pln) (hp : szP p) (hq : szP q) : Tri Try.prog 17 0 [encP p, encP q] [] (fun d l => d = .bool (decide (p = q)) ∧ l = []) := by
  refine Tri.walk2 (L := LT) (c := {n := 55, ko := [4]}) [] [0, 1, 4, 5, 10, 14, 54] hLT hmix Try.func17 rfl rfl ⟨rfl, rfl⟩ (by show 2 ≤ 55; decide) (by first | exact Nat.zero_le _ | exact Nat.le_refl _ | decide) ?_
  refine And.intro (fun h0 => ?_) (fun h0 => ?_)
  · have h0 := nd_true h0
    rw [List.length_map, List.length_map] at h0
    rw [decide_eq_false (fun e => h0 (by rw [e]))]
    exact And.intro rfl rfl
  have h0 := nd_false h0
  rw [List.length_map, List.length_map] at h0
  have h0 : p.length = q.length := by omega
  show Ok _ _ _ _ _
  refine Ok.loopN hLT hmix [] [0, 1, 4, 5, 10, 14, 54] [0,1,5,4] [] (fun n s => ∃ i : Nat, n = p.length - i ∧ i ≤ p.length ∧ p.take i = q.take i ∧ s = sRs p q i) (n := p.length) ⟨0, rfl, Nat.zero_le _, by simp, rfl⟩ ?_
  rintro n s ⟨i, rfl, hi, ht, rfl⟩
  refine And.intro (fun h1 => ?_) (fun h1 => ?_)
  · have h1 : ((i : Nat) : Int) < ((p.map rowR).length : Int) := of_decide_eq_true h1
    rw [List.length_map] at h1
    have hip : i < p.length := by omega
    have hiq : i < q.length := by omega
    have hw := wrap_succ (i := i) (n := p.length) (by omega) hp.len
    have hps := hp.st p[i] (List.getElem_mem _)
    have hqs := hq.st q[i] (List.getElem_mem _)
    have hne : p[i] ≠ q[i] → .bool false = D.bool (decide (p = q)) := fun h => by rw [decide_eq_false (fun e => h (by subst e; rfl))]
    refine ⟨⟨274877906943, [0, 0, 3, 4, 8, 0, 0, 96, 128, 256, 528, 1024, 2048, 2048, 14336, 18432, 34816, 2048, 2048, 395264, 526336, 1050624, 2164736, 4196352, 8390656, 16777216, 16777216, 117440512, 150994944, 285212672, 16777216, 16777216, 3238002688, 4311744512, 8606711808, 17733517312, 34376515584, 68736253952], [1, 2, 7, 15, 31, 32, 64, 224, 480, 992, 2047, 4095, 8191, 12287, 32767, 65535, 131071, 135167, 266239, 921599, 1970175, 4067327, 8388607, 16777215, 33554431, 67108863, 100663295, 268435455, 536870911, 1073741823, 1107296255, 2181038079, 7549747199, 16139681791, 33319550975, 68719476735, 137438953471, 274877906943]⟩, by kernel_rfl, ?_⟩
    refine ⟨(p).map rowR, rowR ((p)[i]'(by omega)), rfl, by omega, row_at' rowR (p) (by omega) (by omega), rfl, of_decide_eq_true rfl, ?_⟩
    refine And.intro rfl ?_
    refine ⟨(q).map rowR, rowR ((q)[i]'(by omega)), rfl, by omega, row_at' rowR (q) (by omega) (by omega), rfl, of_decide_eq_true rfl, ?_⟩
    refine And.intro rfl ?_
    refine And.intro (fun h2 => ?_) (fun h2 => ?_)
    · repeat (first | refine And.intro (fun _ => ?_) (fun h => Bool.noConfusion h) | refine And.intro (fun h => Bool.noConfusion h) (fun _ => ?_))
      exact And.intro (hne (fun e => nd_true h2 (by rw [e]))) rfl
    have h2 : p[i].drv = q[i].drv := nd_false h2
    repeat (first | refine And.intro (fun _ => ?_) (fun h => Bool.noConfusion h) | refine And.intro (fun h => Bool.noConfusion h) (fun _ => ?_))
    refine ⟨(p).map rowR, rowR ((p)[i]'(by omega)), rfl, by omega, row_at' rowR (p) (by omega) (by omega), rfl, of_decide_eq_true rfl, ?_⟩
    refine And.intro rfl ?_
    refine ⟨(q).map rowR, rowR ((q)[i]'(by omega)), rfl, by omega, row_at' rowR (q) (by omega) (by omega), rfl, of_decide_eq_true rfl, ?_⟩
    refine And.intro rfl ?_
    refine And.intro (fun h3 => ?_) (fun h3 => ?_)
    · repeat (first | refine And.intro (fun _ => ?_) (fun h => Bool.noConfusion h) | refine And.intro (fun h => Bool.noConfusion h) (fun _ => ?_))
      exact And.intro (hne (fun e => nd_true h3 (by rw [e]))) rfl
    have h3 : p[i].srv = q[i].srv := nd_false h3
    repeat (first | refine And.intro (fun _ => ?_) (fun h => Bool.noConfusion h) | refine And.intro (fun h => Bool.noConfusion h) (fun _ => ?_))
    refine ⟨(p).map rowR, rowR ((p)[i]'(by omega)), rfl, by omega, row_at' rowR (p) (by omega) (by omega), rfl, of_decide_eq_true rfl, ?_⟩
    refine And.intro rfl ?_
    refine ⟨(q).map rowR, rowR ((q)[i]'(by omega)), rfl, by omega, row_at' rowR (q) (by omega) (by omega), rfl, of_decide_eq_true rfl, ?_⟩
    refine And.intro rfl ?_
    refine And.intro ?_ trivial
    refine ⟨rfl, (by first | exact Nat.zero_le _ | decide), (c_draybook_Same_Stop_0 p[i].st q[i].st hps hqs).mono ?_⟩
    rintro d l ⟨rfl, rfl⟩
    refine ⟨rfl, fun _ _ => rfl, rfl, ?_⟩
    by_cases h4 : p[i].st = q[i].st
    · rw [decide_eq_true h4]
      refine And.intro (by repeat (first | exact trivial | refine And.intro ⟨rfl, rfl⟩ ?_ | refine And.intro ⟨_, _, rfl, by omega, row_at' _ _ rfl (by omega), rfl, of_decide_eq_true rfl, And.intro rfl (And.intro rfl rfl)⟩ ?_)) ?_
      repeat (first | refine And.intro (fun _ => ?_) (fun h => Bool.noConfusion h) | refine And.intro (fun h => Bool.noConfusion h) (fun _ => ?_))
      have he : p[i] = q[i] := by
        have e1 : p[i] = ⟨p[i].drv, p[i].srv, p[i].st⟩ := rfl
        rw [e1, h2, h3, h4]
      refine ⟨p.length - (i + 1), by omega, i + 1, rfl, by omega, take_ext h0 hip ht he, ?_⟩
      unfold sRs
      rw [← hw]
      rfl
    · rw [decide_eq_false h4]
      refine And.intro (by repeat (first | exact trivial | refine And.intro ⟨rfl, rfl⟩ ?_ | refine And.intro ⟨_, _, rfl, by omega, row_at' _ _ rfl (by omega), rfl, of_decide_eq_true rfl, And.intro rfl (And.intro rfl rfl)⟩ ?_)) ?_
      repeat (first | refine And.intro (fun _ => ?_) (fun h => Bool.noConfusion h) | refine And.intro (fun h => Bool.noConfusion h) (fun _ => ?_))
      exact And.intro (hne (fun e => h4 (by rw [e]))) rfl
  · have h1 : ¬ ((i : Nat) : Int) < ((p.map rowR).length : Int) := of_decide_eq_false h1
    rw [List.length_map] at h1
    rw [List.take_of_length_le (by omega), List.take_of_length_le (by omega)] at ht
    rw [decide_eq_true ht]
    exact And.intro rfl rfl
theorem c_draykeep_Routes (p q : Pln) (hp : szP p) (hq : szP q) {r : Nat} {sto : List Ob} (hr : r ≤ sto.length) : Tri Try.prog 17 r [encP p, encP q] sto (fun d l => d = .bool (decide (p = q)) ∧ l = sto) :=
  (c_draykeep_Routes_0 p q hp hq).pure rfl (nrBL_P (nrBL_P rfl)) rfl rfl hr
theorem allLenS (l : List Stp) : allLen 2 (l.map rowS) = true := by simp [allLen, rowS]
noncomputable def sCp (p : Pln) (sz i : Nat) : DS := ⟨[(0, encP p), (3, .list (.own sz) ((p.take i).map rowR)), (4, .int .i64 (i : Int)), (2, .list (.own 0) [])], [], [], mR 0⟩
noncomputable def copD (p : Pln) (d : D) : Prop := ∃ sz, d = .list (.own sz) (p.map rowR) ∧ (sz = 0 ∨ sz = 3)
set_option maxHeartbeats 8000000 in
theorem c_draykeep_Copy_0 (p : Pln) (hp : szQ p) : Tri Try.prog 25 0 [encP p] [] (fun d l => copD p d ∧ l = []) := by
  refine Tri.walk2 (L := LT) (c := {n := 33, ko := [2, 3], xf := [11, 32]}) [] [0, 2, 3, 4, 8] hLT hmix Try.func25 rfl rfl ⟨rfl, rfl⟩ (by show 1 ≤ 33; decide) (by first | exact Nat.zero_le _ | exact Nat.le_refl _ | decide) ?_
  show Ok _ _ _ _ _
  refine Ok.loopN hLT hmix [] [0, 2, 3, 4, 8] [0,3,4,2] [] (fun n s => ∃ i sz : Nat, n = p.length - i ∧ i ≤ p.length ∧ (sz = 0 ∨ sz = 3) ∧ s = sCp p sz i) (n := p.length) ⟨0, 0, rfl, Nat.zero_le _, .inl rfl, rfl⟩ ?_
  rintro n s ⟨i, sz, rfl, hi, hsz, rfl⟩
  have hpl := hp.len
  refine And.intro (fun h1 => ?_) (fun h1 => ?_)
  · have h1 : ((i : Nat) : Int) < ((p.map rowR).length : Int) := of_decide_eq_true h1
    rw [List.length_map] at h1
    have hip : i < p.length := by omega
    have hw := wrap_succ (i := i) (n := p.length) (by omega) (by omega)
    have hps := hp.st p[i] (List.getElem_mem _)
    refine ⟨⟨2097151, [0, 0, 0, 6, 8, 16, 0, 0, 192, 256, 512, 0, 0, 0, 12288, 16384, 32768, 67584, 132128, 262144, 655361, 2097151], [1, 2, 4, 14, 30, 62, 64, 128, 448, 960, 1984, 2048, 4096, 8192, 28672, 61440, 126976, 260096, 524286, 1048574, 2097151, 4194303]⟩, by kernel_rfl, ?_⟩
    refine ⟨(p).map rowR, rowR ((p)[i]'(by omega)), rfl, by omega, row_at' rowR (p) (by omega) (by omega), rfl, of_decide_eq_true rfl, ?_⟩
    refine And.intro rfl ?_
    refine ⟨(p).map rowR, rowR ((p)[i]'(by omega)), rfl, by omega, row_at' rowR (p) (by omega) (by omega), rfl, of_decide_eq_true rfl, ?_⟩
    refine And.intro rfl ?_
    refine ⟨(p).map rowR, rowR ((p)[i]'(by omega)), rfl, by omega, row_at' rowR (p) (by omega) (by omega), rfl, of_decide_eq_true rfl, ?_⟩
    refine And.intro rfl ?_
    have hrm1 : (0 + (p[i].st.map rowS).length) * 16 ≤ 140737488355328 := by
      rw [List.length_map]
      omega
    have hrm2 : (((p.take i).map rowR).length + 1) * 40 ≤ 140737488355328 := by
      rw [List.length_map, List.length_take]
      omega
    have hszk : ((sz == 0 || sz == LT.size 26) && decide (0 < LT.size 26) && decide (0 < LT.bytes 26) && (LT.zero 26).isSome) = true := by rcases hsz with rfl | rfl <;> rfl
    refine And.intro ?_ (And.intro ?_ trivial)
    · refine And.intro (by repeat (first | exact trivial | refine And.intro ⟨rfl, rfl⟩ ?_ | refine And.intro ⟨_, _, rfl, by omega, row_at' _ _ rfl (by omega), rfl, of_decide_eq_true rfl, And.intro rfl (And.intro rfl rfl)⟩ ?_)) ?_
      refine And.intro ?_ trivial
      refine And.intro (by repeat (first | exact trivial | refine And.intro ⟨rfl, rfl⟩ ?_ | refine And.intro ⟨_, _, rfl, by omega, row_at' _ _ rfl (by omega), rfl, of_decide_eq_true rfl, And.intro rfl (And.intro rfl rfl)⟩ ?_)) ?_
      refine And.intro ?_ trivial
      refine And.intro trivial (And.intro rfl (And.intro hrm1 (And.intro (allLenS _) ?_)))
      refine And.intro (by repeat (first | exact trivial | refine And.intro ⟨rfl, rfl⟩ ?_ | refine And.intro ⟨_, _, rfl, by omega, row_at' _ _ rfl (by omega), rfl, of_decide_eq_true rfl, And.intro rfl (And.intro rfl rfl)⟩ ?_)) ?_
      refine And.intro ?_ trivial
      refine And.intro (by repeat (first | exact trivial | refine And.intro ⟨rfl, rfl⟩ ?_ | refine And.intro ⟨_, _, rfl, by omega, row_at' _ _ rfl (by omega), rfl, of_decide_eq_true rfl, And.intro rfl (And.intro rfl rfl)⟩ ?_)) ?_
      refine And.intro ?_ trivial
      refine And.intro (by repeat (first | exact trivial | refine And.intro ⟨rfl, rfl⟩ ?_ | refine And.intro ⟨_, _, rfl, by omega, row_at' _ _ rfl (by omega), rfl, of_decide_eq_true rfl, And.intro rfl (And.intro rfl rfl)⟩ ?_)) ?_
      refine And.intro ?_ trivial
      refine And.intro trivial (And.intro hszk (And.intro hrm2 (And.intro rfl ?_)))
      refine And.intro (by repeat (first | exact trivial | refine And.intro ⟨rfl, rfl⟩ ?_ | refine And.intro ⟨_, _, rfl, by omega, row_at' _ _ rfl (by omega), rfl, of_decide_eq_true rfl, And.intro rfl (And.intro rfl rfl)⟩ ?_)) ?_
      refine And.intro ?_ trivial
      refine And.intro (by repeat (first | exact trivial | refine And.intro ⟨rfl, rfl⟩ ?_ | refine And.intro ⟨_, _, rfl, by omega, row_at' _ _ rfl (by omega), rfl, of_decide_eq_true rfl, And.intro rfl (And.intro rfl rfl)⟩ ?_)) ?_
      refine ⟨p.length - (i + 1), by omega, i + 1, 3, rfl, by omega, .inr rfl, ?_⟩
      unfold sCp
      rw [← hw, List.take_succ_eq_append_getElem hip, List.map_append]
      rfl
    refine And.intro (by repeat (first | exact trivial | refine And.intro ⟨rfl, rfl⟩ ?_ | refine And.intro ⟨_, _, rfl, by omega, row_at' _ _ rfl (by omega), rfl, of_decide_eq_true rfl, And.intro rfl (And.intro rfl rfl)⟩ ?_)) ?_
    refine And.intro ?_ (And.intro ?_ trivial)
    · refine And.intro (by repeat (first | exact trivial | refine And.intro ⟨rfl, rfl⟩ ?_ | refine And.intro ⟨_, _, rfl, by omega, row_at' _ _ rfl (by omega), rfl, of_decide_eq_true rfl, And.intro rfl (And.intro rfl rfl)⟩ ?_)) ?_
      refine And.intro ?_ trivial
      refine And.intro trivial (And.intro rfl (And.intro hrm1 (And.intro (allLenS _) ?_)))
      refine And.intro (by repeat (first | exact trivial | refine And.intro ⟨rfl, rfl⟩ ?_ | refine And.intro ⟨_, _, rfl, by omega, row_at' _ _ rfl (by omega), rfl, of_decide_eq_true rfl, And.intro rfl (And.intro rfl rfl)⟩ ?_)) ?_
      refine And.intro ?_ trivial
      refine And.intro (by repeat (first | exact trivial | refine And.intro ⟨rfl, rfl⟩ ?_ | refine And.intro ⟨_, _, rfl, by omega, row_at' _ _ rfl (by omega), rfl, of_decide_eq_true rfl, And.intro rfl (And.intro rfl rfl)⟩ ?_)) ?_
      refine And.intro ?_ trivial
      refine And.intro (by repeat (first | exact trivial | refine And.intro ⟨rfl, rfl⟩ ?_ | refine And.intro ⟨_, _, rfl, by omega, row_at' _ _ rfl (by omega), rfl, of_decide_eq_true rfl, And.intro rfl (And.intro rfl rfl)⟩ ?_)) ?_
      refine And.intro ?_ trivial
      refine And.intro trivial (And.intro hszk (And.intro hrm2 (And.intro rfl ?_)))
      refine And.intro (by repeat (first | exact trivial | refine And.intro ⟨rfl, rfl⟩ ?_ | refine And.intro ⟨_, _, rfl, by omega, row_at' _ _ rfl (by omega), rfl, of_decide_eq_true rfl, And.intro rfl (And.intro rfl rfl)⟩ ?_)) ?_
      refine And.intro ?_ trivial
      refine And.intro (by repeat (first | exact trivial | refine And.intro ⟨rfl, rfl⟩ ?_ | refine And.intro ⟨_, _, rfl, by omega, row_at' _ _ rfl (by omega), rfl, of_decide_eq_true rfl, And.intro rfl (And.intro rfl rfl)⟩ ?_)) ?_
      refine ⟨p.length - (i + 1), by omega, i + 1, 3, rfl, by omega, .inr rfl, ?_⟩
      unfold sCp
      rw [← hw, List.take_succ_eq_append_getElem hip, List.map_append]
      rfl
    refine And.intro trivial (And.intro rfl (And.intro hrm1 (And.intro (allLenS _) ?_)))
    refine And.intro (by repeat (first | exact trivial | refine And.intro ⟨rfl, rfl⟩ ?_ | refine And.intro ⟨_, _, rfl, by omega, row_at' _ _ rfl (by omega), rfl, of_decide_eq_true rfl, And.intro rfl (And.intro rfl rfl)⟩ ?_)) ?_
    refine And.intro ?_ (And.intro ?_ trivial)
    · refine And.intro (by repeat (first | exact trivial | refine And.intro ⟨rfl, rfl⟩ ?_ | refine And.intro ⟨_, _, rfl, by omega, row_at' _ _ rfl (by omega), rfl, of_decide_eq_true rfl, And.intro rfl (And.intro rfl rfl)⟩ ?_)) ?_
      refine And.intro ?_ trivial
      refine And.intro (by repeat (first | exact trivial | refine And.intro ⟨rfl, rfl⟩ ?_ | refine And.intro ⟨_, _, rfl, by omega, row_at' _ _ rfl (by omega), rfl, of_decide_eq_true rfl, And.intro rfl (And.intro rfl rfl)⟩ ?_)) ?_
      refine And.intro ?_ trivial
      refine And.intro (by repeat (first | exact trivial | refine And.intro ⟨rfl, rfl⟩ ?_ | refine And.intro ⟨_, _, rfl, by omega, row_at' _ _ rfl (by omega), rfl, of_decide_eq_true rfl, And.intro rfl (And.intro rfl rfl)⟩ ?_)) ?_
      refine And.intro ?_ trivial
      refine And.intro trivial (And.intro hszk (And.intro hrm2 (And.intro rfl ?_)))
      refine And.intro (by repeat (first | exact trivial | refine And.intro ⟨rfl, rfl⟩ ?_ | refine And.intro ⟨_, _, rfl, by omega, row_at' _ _ rfl (by omega), rfl, of_decide_eq_true rfl, And.intro rfl (And.intro rfl rfl)⟩ ?_)) ?_
      refine And.intro ?_ trivial
      refine And.intro (by repeat (first | exact trivial | refine And.intro ⟨rfl, rfl⟩ ?_ | refine And.intro ⟨_, _, rfl, by omega, row_at' _ _ rfl (by omega), rfl, of_decide_eq_true rfl, And.intro rfl (And.intro rfl rfl)⟩ ?_)) ?_
      refine ⟨p.length - (i + 1), by omega, i + 1, 3, rfl, by omega, .inr rfl, ?_⟩
      unfold sCp
      rw [← hw, List.take_succ_eq_append_getElem hip, List.map_append]
      rfl
    refine And.intro (by repeat (first | exact trivial | refine And.intro ⟨rfl, rfl⟩ ?_ | refine And.intro ⟨_, _, rfl, by omega, row_at' _ _ rfl (by omega), rfl, of_decide_eq_true rfl, And.intro rfl (And.intro rfl rfl)⟩ ?_)) ?_
    refine And.intro ?_ (And.intro ?_ trivial)
    · refine And.intro (by repeat (first | exact trivial | refine And.intro ⟨rfl, rfl⟩ ?_ | refine And.intro ⟨_, _, rfl, by omega, row_at' _ _ rfl (by omega), rfl, of_decide_eq_true rfl, And.intro rfl (And.intro rfl rfl)⟩ ?_)) ?_
      refine And.intro ?_ trivial
      refine And.intro (by repeat (first | exact trivial | refine And.intro ⟨rfl, rfl⟩ ?_ | refine And.intro ⟨_, _, rfl, by omega, row_at' _ _ rfl (by omega), rfl, of_decide_eq_true rfl, And.intro rfl (And.intro rfl rfl)⟩ ?_)) ?_
      refine And.intro ?_ trivial
      refine And.intro trivial (And.intro hszk (And.intro hrm2 (And.intro rfl ?_)))
      refine And.intro (by repeat (first | exact trivial | refine And.intro ⟨rfl, rfl⟩ ?_ | refine And.intro ⟨_, _, rfl, by omega, row_at' _ _ rfl (by omega), rfl, of_decide_eq_true rfl, And.intro rfl (And.intro rfl rfl)⟩ ?_)) ?_
      refine And.intro ?_ trivial
      refine And.intro (by repeat (first | exact trivial | refine And.intro ⟨rfl, rfl⟩ ?_ | refine And.intro ⟨_, _, rfl, by omega, row_at' _ _ rfl (by omega), rfl, of_decide_eq_true rfl, And.intro rfl (And.intro rfl rfl)⟩ ?_)) ?_
      refine ⟨p.length - (i + 1), by omega, i + 1, 3, rfl, by omega, .inr rfl, ?_⟩
      unfold sCp
      rw [← hw, List.take_succ_eq_append_getElem hip, List.map_append]
      rfl
    refine And.intro (by repeat (first | exact trivial | refine And.intro ⟨rfl, rfl⟩ ?_ | refine And.intro ⟨_, _, rfl, by omega, row_at' _ _ rfl (by omega), rfl, of_decide_eq_true rfl, And.intro rfl (And.intro rfl rfl)⟩ ?_)) ?_
    refine And.intro ?_ trivial
    refine And.intro (by repeat (first | exact trivial | refine And.intro ⟨rfl, rfl⟩ ?_ | refine And.intro ⟨_, _, rfl, by omega, row_at' _ _ rfl (by omega), rfl, of_decide_eq_true rfl, And.intro rfl (And.intro rfl rfl)⟩ ?_)) ?_
    refine And.intro ?_ trivial
    refine And.intro trivial (And.intro hszk (And.intro hrm2 (And.intro rfl ?_)))
    refine And.intro (by repeat (first | exact trivial | refine And.intro ⟨rfl, rfl⟩ ?_ | refine And.intro ⟨_, _, rfl, by omega, row_at' _ _ rfl (by omega), rfl, of_decide_eq_true rfl, And.intro rfl (And.intro rfl rfl)⟩ ?_)) ?_
    refine And.intro ?_ trivial
    refine And.intro (by repeat (first | exact trivial | refine And.intro ⟨rfl, rfl⟩ ?_ | refine And.intro ⟨_, _, rfl, by omega, row_at' _ _ rfl (by omega), rfl, of_decide_eq_true rfl, And.intro rfl (And.intro rfl rfl)⟩ ?_)) ?_
    refine ⟨p.length - (i + 1), by omega, i + 1, 3, rfl, by omega, .inr rfl, ?_⟩
    unfold sCp
    rw [← hw, List.take_succ_eq_append_getElem hip, List.map_append]
    rfl
  · have h1 : ¬ ((i : Nat) : Int) < ((p.map rowR).length : Int) := of_decide_eq_false h1
    rw [List.length_map] at h1
    rw [List.take_of_length_le (by omega)]
    exact And.intro ⟨sz, rfl, hsz⟩ rfl
theorem copD_ok {p : Pln} {d : D} (h : copD p d) : partsOK d = true ∧ nrB 0 d = true := by
  obtain ⟨sz, rfl, _⟩ := h
  exact ⟨rfl, nrBLL_P p⟩
theorem c_draykeep_Copy (p : Pln) (hp : szQ p) {r : Nat} {sto : List Ob} (hr : r ≤ sto.length) : Tri Try.prog 25 r [encP p] sto (fun d l => copD p d ∧ l = sto) :=
  (c_draykeep_Copy_0 p hp).pureR rfl (nrBL_P rfl) (fun d h => copD_ok h) hr
end Go.Lv

namespace Go.Lv
open Go.Proofs

theorem okStop {n : Nat} {x : List D} (h : OkD LT (n + 2) 23 x) : ∃ s : Stp, x = rowS s := by
  obtain ⟨x1, y1, rfl, _, h1, x2, y2, rfl, _, h2, rfl⟩ := h
  obtain ⟨i1, rfl, _⟩ := h1
  obtain ⟨b, rfl⟩ := h2
  exact ⟨⟨i1, b⟩, rfl⟩
theorem okStops {n m : Nat} {x : List D} (h : OkD LT (n + 3) 24 x) (z : SzD LT (m + 1) 24 x) : ∃ l : List Stp, x = [.list .imm (l.map rowS)] ∧ l.length * 16 ≤ 140737488351232 := by
  obtain ⟨xs, rfl, _, h⟩ := h
  obtain ⟨xs', e, z, _⟩ := z
  cases e
  have key : ∀ xs : List (List D), (∀ r, r ∈ xs → r.length = LT.size 23 ∧ OkD LT (n + 2) 23 r) → ∃ l : List Stp, xs = l.map rowS := by
    intro xs
    induction xs with
    | nil => intro _; exact ⟨[], rfl⟩
    | cons x r ih =>
      intro h
      obtain ⟨s, rfl⟩ := okStop (h x (by simp)).2
      obtain ⟨l, rfl⟩ := ih fun y hy => h y (by simp [hy])
      exact ⟨s :: l, rfl⟩
  obtain ⟨l, rfl⟩ := key xs h
  have z : (l.map rowS).length * 16 ≤ 140737488351232 := z
  rw [List.length_map] at z
  exact ⟨l, rfl, z⟩
theorem okRoute {n m : Nat} {x : List D} (h : OkD LT (n + 4) 26 x) (z : SzD LT (m + 2) 26 x) : ∃ r : Rte, x = rowR r ∧ r.st.length * 16 ≤ 140737488351232 := by
  obtain ⟨x1, y1, rfl, l1, h1, x2, y2, rfl, l2, h2, x3, y3, rfl, l3, h3, rfl⟩ := h
  obtain ⟨i1, rfl, _⟩ := h1
  obtain ⟨i2, rfl, _⟩ := h2
  obtain ⟨a1, b1, e1, k1, _, a2, b2, e2, k2, _, a3, b3, e3, k3, z3, e4⟩ := z
  have l3' : x3.length = 1 := l3
  obtain ⟨c, rfl⟩ : ∃ c, x3 = [c] := List.length_eq_one_iff.1 l3'
  have k1' : a1.length = 1 := k1
  have k2' : a2.length = 1 := k2
  have k3' : a3.length = 1 := k3
  obtain ⟨d1, rfl⟩ : ∃ c, a1 = [c] := List.length_eq_one_iff.1 k1'
  obtain ⟨d2, rfl⟩ : ∃ c, a2 = [c] := List.length_eq_one_iff.1 k2'
  obtain ⟨d3, rfl⟩ : ∃ c, a3 = [c] := List.length_eq_one_iff.1 k3'
  subst e4; subst e3; subst e2
  simp only [List.cons_append, List.nil_append, List.cons.injEq] at e1
  obtain ⟨_, _, e, _⟩ := e1
  subst e
  obtain ⟨l, e, hl⟩ := okStops h3 z3
  cases e
  exact ⟨⟨i1, i2, l⟩, rfl, hl⟩
theorem okPlan {n m : Nat} {x : List D} (h : OkD LT (n + 5) 28 x) (z : SzD LT (m + 3) 28 x) : ∃ p : Pln, x = [encP p] ∧ szQ p := by
  obtain ⟨xs, rfl, _, h⟩ := h
  obtain ⟨xs', e, z, z2⟩ := z
  cases e
  have key : ∀ xs : List (List D), (∀ r, r ∈ xs → r.length = LT.size 26 ∧ OkD LT (n + 4) 26 r) → (∀ r, r ∈ xs → SzD LT (m + 2) 26 r) → ∃ p : Pln, xs = p.map rowR ∧ ∀ r, r ∈ p → r.st.length * 16 ≤ 140737488351232 := by
    intro xs
    induction xs with
    | nil => intro _ _; exact ⟨[], rfl, fun r hr => by cases hr⟩
    | cons x r ih =>
      intro h z
      obtain ⟨s, rfl, hs⟩ := okRoute (h x (by simp)).2 (z x (by simp))
      obtain ⟨l, rfl, hl⟩ := ih (fun y hy => h y (by simp [hy])) (fun y hy => z y (by simp [hy]))
      exact ⟨s :: l, rfl, fun r hr => by
        rcases List.mem_cons.1 hr with e | hr
        · rw [e]; exact hs
        · exact hl r hr⟩
  obtain ⟨p, rfl, hp⟩ := key xs h z2
  have z : (p.map rowR).length * 40 ≤ 140737488351232 := z
  rw [List.length_map] at z
  exact ⟨p, rfl, z, hp⟩
end Go.Lv

namespace Go.Lv
open Go.Proofs

set_option maxHeartbeats 8000000 in
theorem l9 (p : Pln) (hp : szQ p) (bs : List Int) (hb : bs.length ≤ 140737488351232) (hby : byteL bs) : Tri Try.prog 9 0 [encP p, .list .imm (bs.map rowB)] [] (fun d l => d = .bool true) := by
  refine Tri.walk2 (L := LT) (c := {n := 59, ko := [4], xf := [12, 35, 50]}) [] [0, 1, 4, 5, 6, 7, 8, 9, 18, 31, 34, 41] hLT hmix Try.func9 rfl rfl ⟨rfl, rfl⟩ (by show 2 ≤ 59; decide) (by first | exact Nat.zero_le _ | exact Nat.le_refl _ | decide) ?_
  have ce := c_plan_Encode_0 p
  have cr := c_plan_Right_0 p
  have hro := c_draykeep_Routes_0 p p hp.P hp.P
  rw [decide_eq_true rfl] at hro
  have e0 : decE [] ≠ 0 := fun h => plnB_pos _ (by rw [(plnB_plnR (bs := []) (fun c hc => by cases hc) h).2]; rfl)
  have cx := c_plan_Decode_0 bs hb
  have hback := plnB_plnR (bs := bs) hby
  unfold decD at cx
  have hcr := c_plan_Right_0 (plnR bs ⟨0, 0, 0⟩).2
  have hce := c_plan_Encode_0 (plnR bs ⟨0, 0, 0⟩).2
  unfold encD at hce
  have hsm := c_draybook_Same_byte_0 bs bs (by omega) (by omega)
  rw [decide_eq_true rfl] at hsm
  generalize plnR bs ⟨0, 0, 0⟩ = y at cx hback hcr hce
  generalize decE bs = de at cx hback
  obtain ⟨rd, q⟩ := y
  simp only at cx hback hcr hce
  unfold encD at ce
  by_cases hr : rightP p = true
  · rw [if_pos hr] at ce
    rw [hr] at cr
    obtain ⟨h8, hrow⟩ := rightP_ok hr
    have hpb : (plnB p).length ≤ 10000 := by
      have h2 := numB_len (p.length : Int)
      have h3 := rtsB_len p hrow
      simp only [plnB, List.length_append]
      omega
    have cd := c_plan_Decode_0 (plnB p) (by omega)
    unfold decD at cd
    rw [if_pos (decE_pln hr), plnR_pln hr] at cd
    refine ⟨rfl, (by first | exact Nat.zero_le _ | decide), (ce).mono ?_⟩
    rintro d l ⟨rfl, rfl⟩
    refine ⟨rfl, fun _ _ => rfl, rfl, ?_⟩
    refine ⟨rfl, (by first | exact Nat.zero_le _ | decide), (cd).mono ?_⟩
    rintro d l ⟨rfl, rfl⟩
    refine ⟨rfl, fun _ _ => rfl, rfl, ?_⟩
    refine ⟨rfl, (by first | exact Nat.zero_le _ | decide), (cr).mono ?_⟩
    rintro d l ⟨rfl, rfl⟩
    refine ⟨rfl, fun _ _ => rfl, rfl, ?_⟩
    repeat (first | refine And.intro (fun _ => ?_) (fun h => Bool.noConfusion h) | refine And.intro (fun h => Bool.noConfusion h) (fun _ => ?_))
    refine ⟨rfl, (by first | exact Nat.zero_le _ | decide), (hro).mono ?_⟩
    rintro d l ⟨rfl, rfl⟩
    refine ⟨rfl, fun _ _ => rfl, rfl, ?_⟩
    repeat (first | refine And.intro (fun _ => ?_) (fun h => Bool.noConfusion h) | refine And.intro (fun h => Bool.noConfusion h) (fun _ => ?_))
    refine And.intro (fun h => absurd (of_decide_eq_true h) (by rw [List.length_map]; have := plnB_pos p; omega)) (fun _ => ?_)
    repeat (first | refine And.intro (fun _ => ?_) (fun h => Bool.noConfusion h) | refine And.intro (fun h => Bool.noConfusion h) (fun _ => ?_))
    by_cases hd : de = 0
    · rw [if_pos hd] at cx
      obtain ⟨hq, hqb⟩ := hback hd
      rw [hq] at hcr
      rw [if_pos hq, hqb] at hce
      refine ⟨rfl, (by first | exact Nat.zero_le _ | decide), (cx).mono ?_⟩
      rintro d l ⟨rfl, rfl⟩
      refine ⟨rfl, fun _ _ => rfl, rfl, ?_⟩
      repeat (first | refine And.intro (fun _ => ?_) (fun h => Bool.noConfusion h) | refine And.intro (fun h => Bool.noConfusion h) (fun _ => ?_))
      refine ⟨rfl, (by first | exact Nat.zero_le _ | decide), (hcr).mono ?_⟩
      rintro d l ⟨rfl, rfl⟩
      refine ⟨rfl, fun _ _ => rfl, rfl, ?_⟩
      repeat (first | refine And.intro (fun _ => ?_) (fun h => Bool.noConfusion h) | refine And.intro (fun h => Bool.noConfusion h) (fun _ => ?_))
      refine ⟨rfl, (by first | exact Nat.zero_le _ | decide), (hce).mono ?_⟩
      rintro d l ⟨rfl, rfl⟩
      refine ⟨rfl, fun _ _ => rfl, rfl, ?_⟩
      refine ⟨rfl, (by first | exact Nat.zero_le _ | decide), (hsm).mono ?_⟩
      rintro d l ⟨rfl, rfl⟩
      refine ⟨rfl, fun _ _ => rfl, rfl, ?_⟩
      repeat (first | refine And.intro (fun _ => ?_) (fun h => Bool.noConfusion h) | refine And.intro (fun h => Bool.noConfusion h) (fun _ => ?_))
      refine ⟨rfl, (by first | exact Nat.zero_le _ | decide), (tRuns).mono ?_⟩
      rintro d l ⟨rfl, rfl⟩
      refine ⟨rfl, fun _ _ => rfl, rfl, ?_⟩
      exact rfl
    · rw [if_neg hd] at cx
      refine ⟨rfl, (by first | exact Nat.zero_le _ | decide), (cx).mono ?_⟩
      rintro d l ⟨rfl, rfl⟩
      refine ⟨rfl, fun _ _ => rfl, rfl, ?_⟩
      refine And.intro (fun _ => ?_) (fun h => absurd (nd_false h) hd)
      repeat (first | refine And.intro (fun _ => ?_) (fun h => Bool.noConfusion h) | refine And.intro (fun h => Bool.noConfusion h) (fun _ => ?_))
      refine ⟨rfl, (by first | exact Nat.zero_le _ | decide), (tRuns).mono ?_⟩
      rintro d l ⟨rfl, rfl⟩
      refine ⟨rfl, fun _ _ => rfl, rfl, ?_⟩
      exact rfl
  · rw [if_neg hr] at ce
    have hrf : rightP p = false := by simpa using hr
    rw [hrf] at cr
    have cd := c_plan_Decode_0 [] (by simp)
    unfold decD at cd
    rw [if_neg e0] at cd
    refine ⟨rfl, (by first | exact Nat.zero_le _ | decide), (ce).mono ?_⟩
    rintro d l ⟨rfl, rfl⟩
    refine ⟨rfl, fun _ _ => rfl, rfl, ?_⟩
    refine ⟨rfl, (by first | exact Nat.zero_le _ | decide), (cd).mono ?_⟩
    rintro d l ⟨rfl, rfl⟩
    refine ⟨rfl, fun _ _ => rfl, rfl, ?_⟩
    refine ⟨rfl, (by first | exact Nat.zero_le _ | decide), (cr).mono ?_⟩
    rintro d l ⟨rfl, rfl⟩
    refine ⟨rfl, fun _ _ => rfl, rfl, ?_⟩
    repeat (first | refine And.intro (fun _ => ?_) (fun h => Bool.noConfusion h) | refine And.intro (fun h => Bool.noConfusion h) (fun _ => ?_))
    by_cases hd : de = 0
    · rw [if_pos hd] at cx
      obtain ⟨hq, hqb⟩ := hback hd
      rw [hq] at hcr
      rw [if_pos hq, hqb] at hce
      refine ⟨rfl, (by first | exact Nat.zero_le _ | decide), (cx).mono ?_⟩
      rintro d l ⟨rfl, rfl⟩
      refine ⟨rfl, fun _ _ => rfl, rfl, ?_⟩
      repeat (first | refine And.intro (fun _ => ?_) (fun h => Bool.noConfusion h) | refine And.intro (fun h => Bool.noConfusion h) (fun _ => ?_))
      refine ⟨rfl, (by first | exact Nat.zero_le _ | decide), (hcr).mono ?_⟩
      rintro d l ⟨rfl, rfl⟩
      refine ⟨rfl, fun _ _ => rfl, rfl, ?_⟩
      repeat (first | refine And.intro (fun _ => ?_) (fun h => Bool.noConfusion h) | refine And.intro (fun h => Bool.noConfusion h) (fun _ => ?_))
      refine ⟨rfl, (by first | exact Nat.zero_le _ | decide), (hce).mono ?_⟩
      rintro d l ⟨rfl, rfl⟩
      refine ⟨rfl, fun _ _ => rfl, rfl, ?_⟩
      refine ⟨rfl, (by first | exact Nat.zero_le _ | decide), (hsm).mono ?_⟩
      rintro d l ⟨rfl, rfl⟩
      refine ⟨rfl, fun _ _ => rfl, rfl, ?_⟩
      repeat (first | refine And.intro (fun _ => ?_) (fun h => Bool.noConfusion h) | refine And.intro (fun h => Bool.noConfusion h) (fun _ => ?_))
      refine ⟨rfl, (by first | exact Nat.zero_le _ | decide), (tRuns).mono ?_⟩
      rintro d l ⟨rfl, rfl⟩
      refine ⟨rfl, fun _ _ => rfl, rfl, ?_⟩
      exact rfl
    · rw [if_neg hd] at cx
      refine ⟨rfl, (by first | exact Nat.zero_le _ | decide), (cx).mono ?_⟩
      rintro d l ⟨rfl, rfl⟩
      refine ⟨rfl, fun _ _ => rfl, rfl, ?_⟩
      refine And.intro (fun _ => ?_) (fun h => absurd (nd_false h) hd)
      repeat (first | refine And.intro (fun _ => ?_) (fun h => Bool.noConfusion h) | refine And.intro (fun h => Bool.noConfusion h) (fun _ => ?_))
      refine ⟨rfl, (by first | exact Nat.zero_le _ | decide), (tRuns).mono ?_⟩
      rintro d l ⟨rfl, rfl⟩
      refine ⟨rfl, fun _ _ => rfl, rfl, ?_⟩
      exact rfl
end Go.Lv
