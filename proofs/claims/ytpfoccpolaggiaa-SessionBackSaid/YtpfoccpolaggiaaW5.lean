/-
  Chapter 18: tables and rows say the same; SessionPlays answers true on all data.
-/
import Derived.Test.YtpfoccpolaggiaaW4
import Derived.Test.YtpfoccpolaggiaaW2
import Derived.Test.YtpfoccpolaggiaaHk
set_option linter.all false
set_option maxRecDepth 100000
namespace Go.Lv
open Go.Proofs

noncomputable def rise (l : Tbl) : Prop := l.Pairwise fun x y => x.1 < y.1
/-- A table and rows that rise have the same entries. -/
structure RT (m l : Tbl) : Prop where
  perm : m.Perm l
  rise : rise l
noncomputable def keysND (m : Tbl) : Prop := (m.map Prod.fst).Nodup
theorem rise_nd {l : Tbl} (h : rise l) : keysND l := by
  unfold keysND rise at *
  rw [List.Nodup, List.pairwise_map]
  exact h.imp fun h e => by omega
theorem RT.nd {m l : Tbl} (h : RT m l) : keysND m := (h.perm.map Prod.fst).nodup_iff.2 (rise_nd h.rise)
theorem getT_iff {k : Int} {e : Ent} : ∀ {m : Tbl}, keysND m → (getT k m = some e ↔ (k, e) ∈ m)
  | [], _ => by simp [getT]
  | x :: r, h => by
    unfold keysND at h
    rw [List.map_cons, List.nodup_cons] at h
    unfold getT
    split
    · rename_i hk
      constructor
      · intro h'
        cases h'
        rw [hk]
        exact List.mem_cons_self
      · intro h'
        rcases List.mem_cons.1 h' with h' | h'
        · rw [← h']
        · exact absurd (hk ▸ List.mem_map_of_mem (f := Prod.fst) h') h.1
    · rename_i hk
      rw [getT_iff (m := r) h.2]
      constructor
      · exact fun h' => List.mem_cons_of_mem _ h'
      · intro h'
        rcases List.mem_cons.1 h' with h' | h'
        · exact absurd (by rw [← h']) hk
        · exact h'
theorem RT.get {m l : Tbl} (h : RT m l) (k : Int) : getT k m = getT k l := by
  have h1 := h.nd
  have h2 := rise_nd h.rise
  cases hm : getT k m with
  | some e =>
    have := (getT_iff h2).2 (h.perm.mem_iff.1 ((getT_iff h1).1 hm))
    rw [this]
  | none =>
    cases hl : getT k l with
    | none => rfl
    | some e =>
      have := (getT_iff h1).2 (h.perm.mem_iff.2 ((getT_iff h2).1 hl))
      rw [this] at hm
      cases hm
theorem RT.len {m l : Tbl} (h : RT m l) : m.length = l.length := h.perm.length_eq
theorem RT.ask {m l : Tbl} (h : RT m l) (k q : Int) : askZ k q m = askZ k q l := by
  unfold askZ
  rw [h.get k, h.len]
theorem RT.seq {m l : Tbl} (h : RT m l) (k : Int) : seqOf k m = seqOf k l := by
  unfold seqOf
  rw [h.get k]
theorem setT_perm (k : Int) (e : Ent) : ∀ {m : Tbl}, keysND m → (setT k e m).Perm ((k, e) :: m.filter fun x => x.1 != k)
  | [], _ => by simp [setT]
  | x :: r, h => by
    unfold keysND at h
    rw [List.map_cons, List.nodup_cons] at h
    unfold setT
    split
    · rename_i hk
      have : r.filter (fun x => x.1 != k) = r := List.filter_eq_self.2 fun y hy => by
        have : y.1 ≠ k := fun e => h.1 (by rw [← hk, ← e]; exact List.mem_map_of_mem hy)
        simp [this]
      rw [List.filter_cons]
      have hx : (x.1 != k) = false := by simp [hk]
      rw [hx, this, ← hk]
      exact .refl _
    · rename_i hk
      rw [List.filter_cons]
      have hx : (x.1 != k) = true := by
        have : x.1 ≠ k := fun e => hk e.symm
        simp [this]
      rw [hx]
      exact ((setT_perm k e (m := r) h.2).cons x).trans (List.Perm.swap _ _ _)
theorem insR_perm (k : Int) (e : Ent) : ∀ {l : Tbl}, rise l → (insR k e l).Perm ((k, e) :: l.filter fun x => x.1 != k)
  | [], _ => by simp [insR]
  | x :: r, h => by
    unfold rise at h
    rw [List.pairwise_cons] at h
    unfold insR
    rw [List.filter_cons]
    split
    · rename_i hk
      have hx : (x.1 != k) = true := by
        have : x.1 ≠ k := by omega
        simp [this]
      rw [hx]
      exact ((insR_perm k e (l := r) h.2).cons x).trans (List.Perm.swap _ _ _)
    · rename_i hk
      have hr : r.filter (fun x => x.1 != k) = r := List.filter_eq_self.2 fun y hy => by
        have := h.1 y hy
        have : y.1 ≠ k := by omega
        simp [this]
      split
      · rename_i hk2
        have hx : (x.1 != k) = false := by simp [hk2]
        rw [hx, hr]
        exact .refl _
      · rename_i hk2
        have hx : (x.1 != k) = true := by simp [hk2]
        rw [hx, hr]
        exact .refl _
theorem insR_rise (k : Int) (e : Ent) {l : Tbl} (h : rise l) : rise (insR k e l) := by
  induction l with
  | nil => exact List.pairwise_singleton _ _
  | cons x r ih =>
    unfold rise at h
    rw [List.pairwise_cons] at h
    unfold insR
    split
    · rename_i hk
      unfold rise
      rw [List.pairwise_cons]
      refine ⟨fun y hy => ?_, ih h.2⟩
      rcases List.mem_cons.1 ((insR_perm k e h.2).mem_iff.1 hy) with e' | hy
      · rw [e']; exact hk
      · exact h.1 y (List.mem_filter.1 hy).1
    · rename_i hk
      split
      · rename_i hk2
        unfold rise
        rw [List.pairwise_cons]
        exact ⟨fun y hy => by have := h.1 y hy; show k < y.1; omega, h.2⟩
      · rename_i hk2
        unfold rise
        rw [List.pairwise_cons, List.pairwise_cons]
        refine ⟨fun y hy => ?_, h⟩
        show k < y.1
        rcases List.mem_cons.1 hy with e' | hy
        · rw [e']; omega
        · have := h.1 y hy; omega
theorem RT.done {m l : Tbl} (h : RT m l) (k q : Int) (r : Rep) : (doneZ k q r m).1 = (doneR k q r l).1 ∧ RT (doneZ k q r m).2 (doneR k q r l).2 := by
  unfold doneZ doneR
  rw [h.ask k q]
  split
  · exact ⟨rfl, (setT_perm k ⟨q, r⟩ h.nd).trans (((h.perm.filter _).cons _).trans (insR_perm k ⟨q, r⟩ h.rise).symm), insR_rise k ⟨q, r⟩ h.rise⟩
  · exact ⟨rfl, h⟩
theorem RT.keys {m l : Tbl} (h : RT m l) : sortI (m.map Prod.fst) = l.map Prod.fst := by
  refine List.Perm.eq_of_pairwise (le := fun x y => x ≤ y) (fun x y _ _ h1 h2 => by omega) (sortI_sorted _) ?_ ((sortI_perm _).trans (h.perm.map Prod.fst))
  rw [List.pairwise_map]
  exact h.rise.imp fun h => by omega
theorem RT.tab {m l : Tbl} (h : RT m l) : tabR m = l := by
  unfold tabR tabK
  rw [h.keys, List.map_map]
  have : ∀ x, x ∈ l → ((fun k => (k, (getT k m).getD ⟨0, rep0⟩)) ∘ Prod.fst) x = x := fun x hx => by
    have hg := (getT_iff h.nd).2 (h.perm.mem_iff.2 (show (x.1, x.2) ∈ l from hx))
    show (x.1, (getT x.1 m).getD ⟨0, rep0⟩) = x
    rw [hg]
    rfl
  rw [List.map_congr_left this]
  simp
theorem done_in {k q : Int} {r : Rep} {m : Tbl} (h : inTbl m) (hk : in64' k) (hq : in64' q) (hr : inRep r) (hnd : keysND m) : inTbl (doneZ k q r m).2 := by
  unfold doneZ
  split
  · intro x hx
    rcases List.mem_cons.1 ((setT_perm k ⟨q, r⟩ hnd).mem_iff.1 hx) with e | hx
    · rw [e]; exact ⟨hk, hq, hr⟩
    · exact h x (List.mem_filter.1 hx).1
  · exact h
theorem done_len {k q : Int} {r : Rep} {m : Tbl} (hm : m.length ≤ 16) : (doneZ k q r m).2.length ≤ 16 := by
  rcases once k q r m hm with ⟨m', hz, hm', _⟩ | ⟨hz, _⟩
  · rw [hz]; exact hm'
  · rw [hz]; exact hm
theorem RT.nil : RT [] [] := ⟨.refl _, List.Pairwise.nil⟩
end Go.Lv

namespace Go.Lv
open Go.Proofs

theorem nrBLL_T : ∀ l : Tbl, nrBLL 0 (l.map rowT) = true
  | [] => rfl
  | b :: r => by
    show (nrBL 0 (rowT b) && nrBLL 0 (r.map rowT)) = true
    rw [nrBLL_T r]
    rfl
theorem nrBLL_I : ∀ l : List Int, nrBLL 0 (l.map rowI) = true
  | [] => rfl
  | b :: r => by
    show (nrBL 0 (rowI b) && nrBLL 0 (r.map rowI)) = true
    rw [nrBLL_I r]
    rfl
theorem nrBL_T1 {l : Tbl} {ds : List D} (hd : nrBL 0 ds = true) : nrBL 0 (.list .imm (l.map rowT) :: ds) = true := by
  show (nrBLL 0 (l.map rowT) && nrBL 0 ds) = true
  rw [nrBLL_T, hd]
  rfl
theorem t52 (l : Tbl) (hl : l.length ≤ 1000000000000) (k q : Int) {r : Nat} {sto : List Ob} (hr : r ≤ sto.length) : Tri Try.prog 52 r [.list .imm (l.map rowT), .int .i64 k, .int .i64 q] sto (fun d l' => d = askD k q l ∧ l' = sto) :=
  (t52_0 l hl k q).pure rfl (nrBL_T1 rfl) rfl rfl hr
theorem t34 (l : Tbl) (hl : l.length ≤ 1000000000000) (k : Int) {r : Nat} {sto : List Ob} (hr : r ≤ sto.length) : Tri Try.prog 34 r [.list .imm (l.map rowT), .int .i64 k] sto (fun d l' => d = .int .i64 (seqOf k l) ∧ l' = sto) :=
  (t34_0 l hl k).pure rfl (nrBL_T1 rfl) rfl rfl hr
theorem t53 (l : Tbl) (hl : l.length ≤ 1000000000) (k q : Int) (p : Rep) {r : Nat} {sto : List Ob} (hr : r ≤ sto.length) :
    Tri Try.prog 53 r [.list .imm (l.map rowT), .int .i64 k, .int .i64 q, encR p] sto (fun d l' => (∃ kd, d = .tup [.list kd ((doneR k q p l).2.map rowT), .int .i64 (doneR k q p l).1] ∧ (kd = .own 6 ∨ kd = .imm)) ∧ l' = sto) :=
  (t53_0 l hl k q p).pureR rfl (nrBL_T1 rfl) (fun d ⟨kd, h, hk⟩ => by
    subst h
    rcases hk with rfl | rfl
    · exact ⟨rfl, by show (nrBLL 0 ((doneR k q p l).2.map rowT) && (true && true)) = true; rw [nrBLL_T]; rfl⟩
    · exact ⟨rfl, by show (nrBLL 0 ((doneR k q p l).2.map rowT) && (true && true)) = true; rw [nrBLL_T]; rfl⟩) hr
theorem t36 (l : Tbl) (hl : l.length ≤ 1000000000000) {r : Nat} {sto : List Ob} (hr : r ≤ sto.length) : Tri Try.prog 36 r [.list .imm (l.map rowT)] sto (fun d l' => (∃ sz, d = .list (.own sz) ((l.map Prod.fst).map rowI) ∧ (sz = 0 ∨ sz = 1)) ∧ l' = sto) :=
  (t36_0 l hl).pureR rfl (nrBL_T1 rfl) (fun d ⟨sz, h, hk⟩ => by subst h; exact ⟨rfl, nrBLL_I _⟩) hr
theorem t20 (bs : List Int) (hb : bs.length ≤ 10000000000000) (l : Tbl) (hl : l.length ≤ 1000000000) {r : Nat} {sto : List Ob} (hr : r ≤ sto.length) :
    Tri Try.prog 20 r [.list .imm (bs.map rowB), .list .imm (l.map rowT)] sto (fun d l' => d = .list .imm ((bs ++ tblB l).map rowB) ∧ l' = sto) :=
  (t20_0 bs hb l hl).pure rfl (by
    show (nrBLL 0 (bs.map rowB) && (nrBLL 0 (l.map rowT) && true)) = true
    rw [nrBLL_B, nrBLL_T]
    rfl) rfl (nrBLL_B _) hr
theorem t35 (al bl : List Int) (ha : al.length ≤ 1000000000000000) (hb : bl.length ≤ 1000000000000000) {r : Nat} {sto : List Ob} (hr : r ≤ sto.length) :
    Tri Try.prog 35 r [.list .imm (al.map rowI), .list .imm (bl.map rowI)] sto (fun d l => d = .bool (decide (al = bl)) ∧ l = sto) :=
  (t35_0 al bl ha hb).pure rfl (by
    show (nrBLL 0 (al.map rowI) && (nrBLL 0 (bl.map rowI) && true)) = true
    rw [nrBLL_I, nrBLL_I]
    rfl) rfl rfl hr
theorem t19 (al bl : List Int) (ha : al.length ≤ 1000000000000000) (hb : bl.length ≤ 1000000000000000) {r : Nat} {sto : List Ob} (hr : r ≤ sto.length) :
    Tri Try.prog 19 r [.list .imm (al.map rowB), .list .imm (bl.map rowB)] sto (fun d l => d = .bool (decide (al = bl)) ∧ l = sto) :=
  (t19_0 al bl ha hb).pure rfl (by
    show (nrBLL 0 (al.map rowB) && (nrBLL 0 (bl.map rowB) && true)) = true
    rw [nrBLL_B, nrBLL_B]
    rfl) rfl rfl hr
noncomputable def inAsk (a : AskR) : Prop := in64' a.sess ∧ in64' a.seq ∧ inRep a.rp
/-- What holds of a table and its rows. -/
structure TR (m l : Tbl) : Prop where
  rt : RT m l
  len : m.length ≤ 16
  rng : inTbl m
set_option maxHeartbeats 4000000 in
/-- call. -/
theorem t33 (m l : Tbl) (h : TR m l) (a : AskR) (ha : inAsk a) :
    Tri Try.prog 33 0 [.gptr 1 0, .list .imm (l.map rowT), .agg (encA a)] (stT m) (fun d l' => ∃ m' lr, d = .tup [.list .imm (lr.map rowT), .bool true] ∧ l' = stT m' ∧ TR m' lr) := by
  refine Tri.walk2 (L := LT) (c := {n := 67, ko := [6, 7], xf := [52]}) [(12, 1, [])] [0, 1, 5, 6, 7, 8, 9, 10, 11, 12, 13, 16] hLT hmix Try.func33 rfl rfl ⟨rfl, rfl⟩ (by show 3 ≤ 67; decide) (Nat.zero_le _) ?_
  have hll : l.length ≤ 16 := by rw [← h.rt.len]; exact h.len
  refine And.intro (fun _ => ?_) (fun _ => ?_)
  · refine ⟨rfl, Nat.zero_le 2, (t11 m a.sess a.seq).mono ?_⟩
    rintro d l' ⟨hd, rfl⟩
    obtain ⟨⟨pw, ps, pd, pt⟩, fb, hz⟩ : ∃ p b, askZ a.sess a.seq m = (p, b) := ⟨_, _, rfl⟩
    have hz2 := hz
    rw [h.rt.ask] at hz2
    rw [show askD a.sess a.seq m = .tup [.agg [.int .i64 pw, .int .i64 ps, .int .i64 pd, .int .i64 pt], .bool fb] by simp only [askD, hz, encR]] at hd
    subst hd
    refine ⟨rfl, fun _ _ => rfl, rfl, ?_⟩
    refine ⟨rfl, Nat.zero_le 2, (t52 l (by omega) a.sess a.seq (r := 2) (sto := stT m) (Nat.le_refl 2)).mono ?_⟩
    rintro d l' ⟨hd, rfl⟩
    rw [show askD a.sess a.seq l = .tup [.agg [.int .i64 pw, .int .i64 ps, .int .i64 pd, .int .i64 pt], .bool fb] by simp only [askD, hz2, encR]] at hd
    subst hd
    refine ⟨rfl, fun _ _ => rfl, rfl, ?_⟩
    refine And.intro (fun _ => ?_) (fun h => by simp at h)
    cases fb with
    | true =>
      refine And.intro (fun _ => ?_) (fun h => by cases h)
      exact ⟨m, l, rfl, rfl, h⟩
    | false =>
      refine And.intro (fun _ => ?_) (fun h => by cases h)
      exact ⟨m, l, rfl, rfl, h⟩
  · refine ⟨rfl, Nat.le_refl 0, (t12 m a.sess a.seq a.rp).mono ?_⟩
    rintro d l' ⟨rfl, rfl⟩
    refine ⟨rfl, fun k hk => absurd hk (Nat.not_lt_zero k), rfl, ?_⟩
    obtain ⟨he, hrt⟩ := h.rt.done a.sess a.seq a.rp
    have hlen := done_len (k := a.sess) (q := a.seq) (r := a.rp) h.len
    have hrng := done_in h.rng ha.1 ha.2.1 ha.2.2 h.rt.nd
    refine ⟨rfl, Nat.zero_le 2, (t53 l (by omega) a.sess a.seq a.rp (r := 2) (sto := stT (doneZ a.sess a.seq a.rp m).2) (Nat.le_refl 2)).mono ?_⟩
    rintro d l' ⟨⟨kd, rfl, hkd⟩, rfl⟩
    refine ⟨by rcases hkd with rfl | rfl <;> rfl, fun _ _ => rfl, rfl, ?_⟩
    rcases hkd with rfl | rfl
    · refine And.intro (fun _ => ?_) (fun h => absurd he (of_decide_eq_false h))
      exact ⟨_, _, rfl, rfl, hrt, hlen, hrng⟩
    · refine And.intro (fun _ => ?_) (fun h => absurd he (of_decide_eq_false h))
      exact ⟨_, _, rfl, rfl, hrt, hlen, hrng⟩
end Go.Lv

namespace Go.Lv
open Go.Proofs

/-- same. -/
theorem t16 (m l : Tbl) (h : TR m l) : Tri Try.prog 16 2 [.gptr 1 0, .list .imm (l.map rowT)] (stT m) (fun d l' => d = .bool true ∧ l' = stT m) := by
  refine Tri.walk2 (L := LT) (c := {n := 17, ko := [4]}) [] [0, 1, 4] hLT hmix Try.func16 rfl rfl ⟨rfl, rfl⟩ (by show 2 ≤ 17; decide) (by show 2 ≤ 2; decide) ?_
  have hll : l.length ≤ 16 := by rw [← h.rt.len]; exact h.len
  have hm := h.len
  refine ⟨rfl, Nat.le_refl 2, (t14 sortC m (by omega)).mono ?_⟩
  rintro d l' ⟨⟨sz, rfl, hsz⟩, rfl⟩
  refine ⟨rfl, fun _ _ => rfl, rfl, ?_⟩
  have hk := h.rt.keys
  have hlk : (sortI (m.map Prod.fst)).length ≤ 16 := by rw [(sortI_perm _).length_eq, List.length_map]; exact hm
  rcases hsz with rfl | rfl
  all_goals
    refine ⟨rfl, Nat.le_refl 2, (t36 l (by omega) (r := 2) (sto := stT m) (Nat.le_refl 2)).mono ?_⟩
    rintro d l' ⟨⟨sz, rfl, hsz⟩, rfl⟩
    refine ⟨rfl, fun _ _ => rfl, rfl, ?_⟩
    rcases hsz with rfl | rfl
    all_goals
      refine ⟨rfl, Nat.le_refl 2, (t35 (sortI (m.map Prod.fst)) (l.map Prod.fst) (by omega) (by simp only [List.length_map]; omega) (r := 2) (sto := stT m) (Nat.le_refl 2)).mono ?_⟩
      rintro d l' ⟨hd, rfl⟩
      rw [decide_eq_true hk] at hd
      subst hd
      refine ⟨rfl, fun _ _ => rfl, rfl, ?_⟩
      refine ⟨rfl, Nat.le_refl 2, (t18 sortC m (by omega) h.rng [] (by simp)).mono ?_⟩
      rintro d l' ⟨rfl, rfl⟩
      refine ⟨rfl, fun _ _ => rfl, rfl, ?_⟩
      refine ⟨rfl, Nat.le_refl 2, (t20 [] (by simp) l (by omega) (r := 2) (sto := stT m) (Nat.le_refl 2)).mono ?_⟩
      rintro d l' ⟨rfl, rfl⟩
      refine ⟨rfl, fun _ _ => rfl, rfl, ?_⟩
      have e : [] ++ (numB (m.length : Int) ++ rowsB (tabR m)) = [] ++ tblB l := by
        unfold tblB
        rw [h.rt.tab, h.rt.len]
      have h1 := numB_len (l.length : Int)
      have h2 := rowsB_len l
      have hb : ([] ++ tblB l).length ≤ 1000000000000000 := by
        simp only [tblB, List.nil_append, List.length_append]
        omega
      refine ⟨rfl, Nat.le_refl 2, (t19 ([] ++ (numB (m.length : Int) ++ rowsB (tabR m))) ([] ++ tblB l) (by rw [e]; exact hb) hb (r := 2) (sto := stT m) (Nat.le_refl 2)).mono ?_⟩
      rintro d l' ⟨hd, rfl⟩
      rw [decide_eq_true e] at hd
      subst hd
      refine ⟨rfl, fun _ _ => rfl, rfl, ?_⟩
      exact And.intro rfl rfl
set_option maxHeartbeats 4000000 in
theorem t15 (al : List AskR) (hal : ∀ a, a ∈ al → inAsk a) (hlen : al.length ≤ 9223372036854775807) :
    Tri Try.prog 15 0 [.list .imm (al.map encA)] [] (fun d l' => ∃ m l, d = .tup [.gptr 1 0, .list .imm (l.map rowT), .bool true] ∧ l' = stT m ∧ TR m l) := by
  refine Tri.walk2 (L := LT) (c := {n := 56, ko := [2, 3, 4]}) [(10, 1, []), (33, 1, [])] [0, 2, 3, 4, 5, 6, 7, 8, 11, 22] hLT hmix Try.func15 rfl rfl ⟨rfl, rfl⟩ (by show 1 ≤ 56; decide) (Nat.le_refl _) ?_
  refine ⟨rfl, Nat.le_refl 0, t10.mono ?_⟩
  rintro d l' ⟨rfl, rfl⟩
  refine ⟨rfl, fun k hk => absurd hk (Nat.not_lt_zero k), rfl, ?_⟩
  refine And.intro (fun h => by cases h) (fun _ => ?_)
  show Ok _ _ _ _ _
  refine Ok.loopN hLT hmix [(10, 1, []), (33, 1, [])] [0, 2, 3, 4, 5, 6, 7, 8, 11, 22] [0, 5, 6, 7, 8, 2, 3, 4] [] (fun n s => ∃ (i : Nat) (m l : Tbl), n = 60 - i ∧ i ≤ 60 ∧ TR m l ∧ s = ⟨[(0, .list .imm (al.map encA)), (5, .gptr 1 0), (6, .list .imm (l.map rowT)), (7, .bool true), (8, .int .i64 (i : Int)), (2, .nil), (3, .list (.own 0) []), (4, .bool false)], [], stT m, mR 0⟩) (n := 60) ⟨0, [], [], rfl, by omega, ⟨RT.nil, by simp, fun x hx => by cases hx⟩, rfl⟩ ?_
  rintro n s ⟨i, m, l, rfl, hi, h, rfl⟩
  refine And.intro (fun h1 => ?_) (fun h1 => ?_)
  · refine And.intro (fun h2 => ?_) (fun h2 => ?_)
    · have hi1 : i < al.length := by
        have : ((i : Nat) : Int) < ((al.map encA).length : Int) := of_decide_eq_true h1
        rw [List.length_map] at this
        omega
      have hi2 : i < 60 := by have := of_decide_eq_true h2; omega
      have hrow := row_at (f := encA) al hi1
      have hw : IntKind.i64.wrap ((i : Int) + 1) = ((i + 1 : Nat) : Int) := wrap_succ hi2 (by omega)
      have ha := hal al[i] (List.getElem_mem hi1)
      generalize al[i] = a at hrow ha
      refine ⟨al.map encA, encA a, rfl, by omega, hrow, rfl, by decide, ?_⟩
      refine ⟨rfl, Nat.le_refl 0, (t33 m l h a ha).mono ?_⟩
      rintro d l' ⟨m', lr, rfl, rfl, h'⟩
      refine ⟨rfl, fun k hk => absurd hk (Nat.not_lt_zero k), rfl, ?_⟩
      have hll : lr.length ≤ 16 := by rw [← h'.rt.len]; exact h'.len
      refine ⟨⟨262143, [0, 1, 2, 2, 2, 26, 34, 66, 134, 2, 2, 2, 3074, 4098, 8194, 17154, 33026, 65538, 262143], [1, 3, 7, 11, 19, 59, 123, 251, 511, 515, 1027, 2051, 7171, 15363, 31747, 65535, 131071, 262143, 524287]⟩, by kernel_rfl, ?_⟩
      refine And.intro (fun _ => ?_) (fun h => by cases h)
      refine And.intro (fun _ => ?_) (fun h => by cases h)
      refine ⟨al.map encA, encA a, rfl, by omega, hrow, rfl, (by show 0 < 7; decide), ?_⟩
      refine And.intro rfl ?_
      refine ⟨al.map encA, encA a, rfl, by omega, hrow, rfl, (by show 0 < 7; decide), ?_⟩
      refine And.intro rfl ?_
      refine And.intro ?_ trivial
      refine ⟨rfl, Nat.zero_le 2, (t13 m' a.sess).mono ?_⟩
      rintro d l' ⟨rfl, rfl⟩
      refine ⟨rfl, fun _ _ => rfl, rfl, ?_⟩
      refine And.intro (And.intro ⟨rfl, rfl⟩ (And.intro ⟨rfl, rfl⟩ (And.intro ⟨al.map encA, encA a, rfl, by omega, hrow, rfl, (by show 0 < 7; decide), And.intro rfl (And.intro rfl rfl)⟩ (And.intro ⟨rfl, rfl⟩ (And.intro ⟨rfl, rfl⟩ (And.intro ⟨rfl, rfl⟩ trivial)))))) ?_
      refine And.intro ?_ trivial
      refine ⟨rfl, Nat.zero_le 2, (t34 lr (by omega) a.sess (r := 2) (sto := stT m') (Nat.le_refl 2)).mono ?_⟩
      rintro d l' ⟨rfl, rfl⟩
      refine ⟨rfl, fun _ _ => rfl, rfl, ?_⟩
      refine And.intro trivial ?_
      refine And.intro (fun _ => ?_) (fun h => absurd (h'.rt.seq a.sess) (of_decide_eq_false h))
      refine And.intro (fun _ => ?_) (fun h => by cases h)
      refine And.intro ?_ trivial
      refine And.intro trivial ?_
      refine ⟨60 - (i + 1), by omega, i + 1, m', lr, rfl, by omega, h', ?_⟩
      rw [← hw]
      rfl
    · exact ⟨m, l, rfl, rfl, h⟩
  · exact ⟨m, l, rfl, rfl, h⟩
/-- The law. -/
theorem t5 (al : List AskR) (hal : ∀ a, a ∈ al → inAsk a) (hlen : al.length ≤ 9223372036854775807) : Tri Try.prog 5 0 [.list .imm (al.map encA)] [] (fun d l => d = .bool true) := by
  refine Tri.walk2 (L := LT) (c := {n := 21, ko := [2]}) [(15, 1, [])] [0, 2, 3, 4, 5] hLT hmix Try.func5 rfl rfl ⟨rfl, rfl⟩ (by show 1 ≤ 21; decide) (Nat.le_refl _) ?_
  refine ⟨rfl, Nat.le_refl 0, (t15 al hal hlen).mono ?_⟩
  rintro d l' ⟨m, l, rfl, rfl, h⟩
  refine ⟨rfl, fun k hk => absurd hk (Nat.not_lt_zero k), rfl, ?_⟩
  refine ⟨rfl, Nat.zero_le 2, (t16 m l h).mono ?_⟩
  rintro d l' ⟨rfl, rfl⟩
  refine ⟨rfl, fun _ _ => rfl, rfl, ?_⟩
  refine ⟨rfl, Nat.zero_le 2, (t3.pure rfl rfl rfl rfl (r := 2) (sto := stT m) (Nat.le_refl 2)).mono ?_⟩
  rintro d l' ⟨rfl, rfl⟩
  refine ⟨rfl, fun _ _ => rfl, rfl, ?_⟩
  exact rfl
/-! ### The law's arguments, with what a row lets in -/
theorem okRepF {n : Nat} {x : List D} (h : OkD LT (n + 2) 26 x) : ∃ r : Rep, x = [.int .i64 r.why, .int .i64 r.st, .int .i64 r.dr, .int .i64 r.tm] ∧ inRep r := by
  obtain ⟨x1, y1, rfl, _, h1, x2, y2, rfl, _, h2, x3, y3, rfl, _, h3, x4, y4, rfl, _, h4, rfl⟩ := h
  obtain ⟨i1, rfl, q1⟩ := okI24 h1
  obtain ⟨i2, rfl, q2⟩ := okI3 h2
  obtain ⟨i3, rfl, q3⟩ := okI3 h3
  obtain ⟨i4, rfl, q4⟩ := okI3 h4
  exact ⟨⟨i1, i2, i3, i4⟩, rfl, q1, q2, q3, q4⟩
theorem okAskF {n : Nat} {x : List D} (h : OkD LT (n + 3) 34 x) : ∃ a : AskR, x = encA a ∧ inAsk a := by
  obtain ⟨x1, y1, rfl, _, h1, x2, y2, rfl, _, h2, x3, y3, rfl, _, h3, x4, y4, rfl, _, h4, rfl⟩ := h
  obtain ⟨i1, rfl, _⟩ := okI3 h1
  obtain ⟨i2, rfl, q2⟩ := okI3 h2
  obtain ⟨i3, rfl, q3⟩ := okI3 h3
  obtain ⟨r, rfl, q4⟩ := okRepF h4
  exact ⟨⟨i1, i2, i3, r⟩, rfl, q2, q3, q4⟩
theorem okAsksF {n : Nat} {x : List D} (h : OkD LT (n + 4) 32 x) : ∃ al : List AskR, x = [.list .imm (al.map encA)] ∧ (∀ a, a ∈ al → inAsk a) ∧ al.length ≤ 9223372036854775807 := by
  obtain ⟨xs, rfl, hl, h⟩ := h
  have key : ∀ xs : List (List D), (∀ r, r ∈ xs → r.length = LT.size 34 ∧ OkD LT (n + 3) 34 r) → ∃ al : List AskR, xs = al.map encA ∧ ∀ a, a ∈ al → inAsk a := by
    intro xs
    induction xs with
    | nil => intro _; exact ⟨[], rfl, fun a ha => by cases ha⟩
    | cons x r ih =>
      intro h
      obtain ⟨a, rfl, ha⟩ := okAskF (h x (by simp)).2
      obtain ⟨al, rfl, has⟩ := ih fun y hy => h y (by simp [hy])
      exact ⟨a :: al, rfl, fun b hb => by
        rcases List.mem_cons.1 hb with e | hb
        · rw [e]; exact ha
        · exact has b hb⟩
  obtain ⟨al, rfl, has⟩ := key xs h
  exact ⟨al, rfl, has, by simpa using hl⟩
end Go.Lv
