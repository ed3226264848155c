/-
  Chapter 18: SessionApart answers true on all data.
-/
import Derived.Test.YtpfoccpolaggiaaW7
set_option linter.all false
set_option maxRecDepth 100000
namespace Go.Lv
open Go.Proofs

/-- A table as calls leave it. -/
structure TV (m : Tbl) : Prop where
  nd : keysND m
  len : m.length ≤ 16
  rng : inTbl m
  ok : ∀ x, x ∈ m → rightZ x.1 x.2.seq = true
theorem TV.nil : TV [] := ⟨List.nodup_nil, by simp, fun x hx => (by cases hx), fun x hx => (by cases hx)⟩
theorem setT_keys {k : Int} {e : Ent} {m : Tbl} (h : keysND m) : keysND (setT k e m) := by
  have hp := (setT_perm k e h).map Prod.fst
  unfold keysND
  rw [hp.nodup_iff, List.map_cons, List.nodup_cons]
  refine ⟨fun hm => ?_, List.Pairwise.sublist (List.filter_sublist.map _) h⟩
  obtain ⟨x, hx, he⟩ := List.mem_map.1 hm
  have := (List.mem_filter.1 hx).2
  rw [he] at this
  simp at this
theorem ask_right {k q : Int} {m : Tbl} (h : (askZ k q m).2 = true) : rightZ k q = true := by
  cases hr : rightZ k q with
  | true => rfl
  | false => simp [askZ, hr] at h
theorem TV.done {m : Tbl} (h : TV m) {k q : Int} {r : Rep} (hk : in64' k) (hq : in64' q) (hr : inRep r) : TV (doneZ k q r m).2 := by
  refine ⟨?_, done_len h.len, done_in h.rng hk hq hr h.nd, ?_⟩
  · unfold doneZ
    split
    · exact setT_keys h.nd
    · exact h.nd
  · unfold doneZ
    split
    · rename_i hf
      intro x hx
      rcases List.mem_cons.1 ((setT_perm k ⟨q, r⟩ h.nd).mem_iff.1 hx) with e | hx
      · rw [e]; exact ask_right hf
      · exact h.ok x (List.mem_filter.1 hx).1
    · exact h.ok
theorem getT_perm {m m' : Tbl} (hp : m'.Perm m) (h : keysND m) (k : Int) : getT k m' = getT k m := by
  have h' : keysND m' := (hp.map Prod.fst).nodup_iff.2 h
  cases hm : getT k m' with
  | some e => rw [(getT_iff h).2 (hp.mem_iff.1 ((getT_iff h').1 hm))]
  | none =>
    cases hl : getT k m with
    | none => rfl
    | some e => rw [(getT_iff h').2 (hp.mem_iff.2 ((getT_iff h).1 hl))] at hm; cases hm
theorem getT_setne {k s : Int} {e : Ent} (h : s ≠ k) : ∀ m : Tbl, getT s (setT k e m) = getT s m
  | [] => by simp [setT, getT, h]
  | x :: r => by
    unfold setT
    split
    · rename_i hk
      have : ¬ s = x.1 := fun e => h (e.trans hk.symm)
      simp [getT, this]
    · simp only [getT, getT_setne h r]
theorem getT_done {k q s : Int} {r : Rep} (h : s ≠ k) (m : Tbl) : getT s (doneZ k q r m).2 = getT s m := by
  unfold doneZ
  split
  · exact getT_setne h m
  · rfl
theorem ask_own {s : Int} {e : Ent} {m : Tbl} (hg : getT s m = some e) (hr : rightZ s e.seq = true) : askZ s e.seq m = (e.rp, false) := by
  simp [askZ, hr, hg]
noncomputable def bytT (m : Tbl) : List Int := [] ++ (numB (m.length : Int) ++ rowsB (tabR m))
theorem bytT_len {m : Tbl} (h : m.length ≤ 1000) : (bytT m).length ≤ 100000 := by
  have h1 := numB_len (m.length : Int)
  have h2 := rowsB_len (tabR m)
  have h3 : (tabR m).length = m.length := by simp [tabR, tabK, (sortI_perm _).length_eq]
  simp only [bytT, List.nil_append, List.length_append]
  omega
noncomputable def sA (al : List AskR) (a : AskR) (i : Nat) (m : Tbl) : DS := ⟨[(0, .list .imm (al.map encA)), (3, .lptr 3 0 0), (5, .gptr 1 0), (6, .int .i64 (i : Int)), (4, .bool false)], [(3, encA a)], stT m, mR 0⟩
noncomputable def sB (a : AskR) (bs ks : List Int) (i : Nat) (m m2 : Tbl) : DS := ⟨[(3, .lptr 3 0 0), (5, .gptr 1 0), (7, .list .imm (bs.map rowB)), (8, .gptr 3 0), (9, .list .imm (ks.map rowI)), (10, .int .i64 (i : Int)), (4, .bool false)], [(3, encA a)], st2 m m2, mR 0⟩
noncomputable def M7 : Ms := [(10, 1, []), (12, 1, [])]
noncomputable def lv7 : List Nat := [0, 3, 4, 5, 6, 7, 8, 9, 10, 11, 12, 13, 14, 15, 18, 26, 51, 65, 74, 123]
set_option maxHeartbeats 8000000 in
theorem t7 (al : List AskR) (hal : ∀ a, a ∈ al → inAsk a) (a : AskR) (ha : inAsk a) :
    Tri Try.prog 7 0 [.list .imm (al.map encA), .agg (encA a)] [] (fun d l => d = .bool true) := by
  refine Tri.walk2 (L := LT) (c := {n := 131, ko := [4]}) M7 lv7 hLT hmix Try.func7 rfl rfl ⟨rfl, rfl⟩ (by show 2 ≤ 131; decide) (Nat.le_refl _) ?_
  refine ⟨rfl, Nat.le_refl 0, t10.mono ?_⟩
  rintro d l' ⟨rfl, rfl⟩
  refine ⟨rfl, fun k hk => absurd hk (Nat.not_lt_zero k), rfl, ?_⟩
  refine And.intro (fun h => by cases h) (fun _ => ?_)
  show Ok _ _ _ _ _
  refine Ok.loopN hLT hmix M7 lv7 [0, 3, 5, 6, 4] [3] (fun n s => ∃ (i : Nat) (m : Tbl), n = 40 - i ∧ i ≤ 40 ∧ TV m ∧ s = sA al a i m) (n := 40) ⟨0, [], rfl, by omega, TV.nil, rfl⟩ ?_
  rintro n s ⟨i, m, rfl, hi, hm, rfl⟩
  refine And.intro (fun h1 => ?_) (fun h1 => ?_)
  · refine And.intro (fun h2 => ?_) (fun h2 => ?_)
    · have hi1 : i < al.length := by
        have : ((i : Nat) : Int) < ((al.map encA).length : Int) := of_decide_eq_true h1
        rw [List.length_map] at this
        omega
      have hi2 : i < 40 := by have := of_decide_eq_true h2; omega
      have hrow := row_at (f := encA) al hi1
      have hw : IntKind.i64.wrap ((i : Int) + 1) = ((i + 1 : Nat) : Int) := wrap_succ hi2 (by omega)
      have hb := hal al[i] (List.getElem_mem hi1)
      generalize al[i] = b at hrow hb
      refine ⟨⟨131071, [0, 0, 0, 6, 8, 16, 0, 0, 192, 256, 512, 0, 0, 6144, 8192, 16384, 33825], [1, 2, 4, 14, 30, 62, 64, 128, 448, 960, 1984, 2048, 4096, 14336, 30720, 63488, 131071]⟩, by kernel_rfl, ?_⟩
      refine ⟨al.map encA, encA b, rfl, by omega, hrow, rfl, (by show 0 < 7; decide), ?_⟩
      refine And.intro rfl ?_
      refine ⟨al.map encA, encA b, rfl, by omega, hrow, rfl, (by show 0 < 7; decide), ?_⟩
      refine And.intro rfl ?_
      refine ⟨al.map encA, encA b, rfl, by omega, hrow, rfl, (by show 0 < 7; decide), ?_⟩
      refine And.intro rfl ?_
      refine And.intro ?_ trivial
      refine ⟨rfl, Nat.le_refl 0, (t12 m b.sess b.seq b.rp).mono ?_⟩
      rintro d l' ⟨rfl, rfl⟩
      refine ⟨rfl, fun k hk => absurd hk (Nat.not_lt_zero k), rfl, ?_⟩
      refine And.intro trivial ?_
      refine ⟨40 - (i + 1), by omega, i + 1, _, rfl, by omega, hm.done hb.1 hb.2.1 hb.2.2, ?_⟩
      unfold sA
      rw [← hw]
      rfl
    · have hm16 := hm.len
      refine ⟨rfl, Nat.zero_le 2, (t18 sortC m (by omega) hm.rng [] (by simp)).mono ?_⟩
      rintro d l' ⟨rfl, rfl⟩
      refine ⟨rfl, fun _ _ => rfl, rfl, ?_⟩
      refine ⟨rfl, Nat.zero_le 2, (t22 m hm.nd).mono ?_⟩
      rintro d l' ⟨m1, rfl, rfl, hp⟩
      refine ⟨rfl, fun k hk => ?_, rfl, ?_⟩
      · match k, hk with
        | 0, _ => rfl
        | 1, _ => rfl
        | k + 2, hk => exact absurd hk (by show ¬ k + 2 < 2; omega)
      refine And.intro (fun h => by cases h) (fun _ => ?_)
      refine ⟨rfl, Nat.zero_le 4, ((t14 sortC m (by omega)).tabRO (R := fun d => ∃ sz, d = .list (.own sz) ((sortI (m.map Prod.fst)).map rowI) ∧ (sz = 0 ∨ sz = 1)) rfl rfl (fun d ⟨sz, h, _⟩ => by subst h; exact ⟨rfl, nrBLL_I _⟩) (r := 4) (p := 0) (b := 1) (sto := st2 m m1) (Nat.le_refl 4) rfl rfl (by decide) (by decide) (by decide)).mono ?_⟩
      rintro d l' ⟨⟨sz, rfl, hsz⟩, rfl⟩
      refine ⟨rfl, fun _ _ => rfl, rfl, ?_⟩
      have hkeys : ∀ k, k ∈ sortI (m.map Prod.fst) → k ∈ m.map Prod.fst := fun k h => (sortI_perm _).mem_iff.1 h
      have hlk : (sortI (m.map Prod.fst)).length ≤ 16 := by rw [(sortI_perm _).length_eq, List.length_map]; exact hm.len
      generalize sortI (m.map Prod.fst) = ks at hkeys hlk
      have hget : ∀ k, k ≠ a.sess → getT k (doneZ a.sess a.seq a.rp m1).2 = getT k m := fun k hk => (getT_done hk m1).trans (getT_perm hp hm.nd k)
      rcases hsz with rfl | rfl
      all_goals
        refine ⟨rfl, Nat.le_refl 0, (Tri.tabRW (t12 m1 a.sess a.seq a.rp) rfl rfl rfl rfl (r := 0) (p := 2) (b := 3) (sto := st2 m m1) (Nat.zero_le _) rfl rfl (by decide) (Nat.zero_le _) (Nat.zero_le _)).mono ?_⟩
        rintro d l' ⟨rfl, rfl⟩
        refine ⟨rfl, fun k hk => absurd hk (Nat.not_lt_zero k), rfl, ?_⟩
        generalize (doneZ a.sess a.seq a.rp m1).2 = m2 at hget
        show Ok _ _ _ _ _
        refine Ok.loopN hLT hmix M7 lv7 [3, 5, 7, 8, 9, 10, 4] [3] (fun n s => ∃ (i : Nat), n = ks.length - i ∧ i ≤ ks.length ∧ s = sB a (bytT m) ks i m m2) (n := ks.length) ⟨0, rfl, Nat.zero_le _, rfl⟩ ?_
        rintro n s ⟨j, rfl, hj, rfl⟩
        refine And.intro (fun h3 => ?_) (fun h3 => ?_)
        · have h3 : ((j : Nat) : Int) < ((ks.map rowI).length : Int) := of_decide_eq_true h3
          rw [List.length_map] at h3
          have hj1 : j < ks.length := by omega
          have hrow := row_at (f := rowI) ks hj1
          have hw : IntKind.i64.wrap ((j : Int) + 1) = ((j + 1 : Nat) : Int) := wrap_succ hj1 (by omega)
          obtain ⟨e, hg⟩ := getT_key (hkeys ks[j] (List.getElem_mem hj1))
          have hr := hm.ok _ (getT_mem hg)
          generalize ks[j] = k at hrow hg hr
          have hr1 : rightZ k e.seq = true := hr
          have hseq : 1 ≤ e.seq := ((right_iff k e.seq).1 hr1).2.2.1
          have hs1 : seqOf k m = e.seq := by simp only [seqOf, hg]
          refine ⟨⟨127, [0, 0, 3, 4, 0, 16, 40], [1, 2, 7, 15, 16, 48, 127]⟩, by kernel_rfl, ?_⟩
          refine ⟨ks.map rowI, rowI k, rfl, by omega, hrow, rfl, (by show 0 < 1; decide), ?_⟩
          refine And.intro rfl ?_
          refine And.intro (fun _ => ?_) (fun hne => ?_)
          · refine ⟨ks.length - (j + 1), by omega, j + 1, rfl, by omega, ?_⟩
            unfold sB
            rw [← hw]
            rfl
          · have hne : ¬ k = a.sess := of_decide_eq_false hne
            have hg2 : getT k m2 = some e := (hget k hne).trans hg
            have hs2 : seqOf k m2 = e.seq := by simp only [seqOf, hg2]
            refine ⟨ks.map rowI, rowI k, rfl, by omega, hrow, rfl, (by show 0 < 1; decide), ?_⟩
            refine ⟨rfl, Nat.zero_le 4, ((t13 m k).tabRO rfl rfl (fun d h => by subst h; exact ⟨rfl, rfl⟩) (r := 4) (p := 0) (b := 1) (sto := st2 m m2) (Nat.le_refl 4) rfl rfl (by decide) (by decide) (by decide)).mono ?_⟩
            rintro d l' ⟨hd, rfl⟩
            rw [hs1] at hd
            subst hd
            refine ⟨rfl, fun _ _ => rfl, rfl, ?_⟩
            refine ⟨ks.map rowI, rowI k, rfl, by omega, hrow, rfl, (by show 0 < 1; decide), ?_⟩
            refine ⟨rfl, Nat.zero_le 4, ((t11 m k e.seq).tabRO rfl rfl (fun d h => by subst h; exact ⟨rfl, rfl⟩) (r := 4) (p := 0) (b := 1) (sto := st2 m m2) (Nat.le_refl 4) rfl rfl (by decide) (by decide) (by decide)).mono ?_⟩
            rintro d l' ⟨hd, rfl⟩
            rw [show askD k e.seq m = .tup [encR e.rp, .bool false] by simp only [askD, ask_own hg hr1]] at hd
            subst hd
            refine ⟨rfl, fun _ _ => rfl, rfl, ?_⟩
            refine ⟨ks.map rowI, rowI k, rfl, by omega, hrow, rfl, (by show 0 < 1; decide), ?_⟩
            refine ⟨rfl, Nat.zero_le 4, ((t11 m2 k e.seq).tabRO rfl rfl (fun d h => by subst h; exact ⟨rfl, rfl⟩) (r := 4) (p := 2) (b := 3) (sto := st2 m m2) (Nat.le_refl 4) rfl rfl (by decide) (by decide) (by decide)).mono ?_⟩
            rintro d l' ⟨hd, rfl⟩
            rw [show askD k e.seq m2 = .tup [encR e.rp, .bool false] by simp only [askD, ask_own hg2 hr1]] at hd
            subst hd
            refine ⟨rfl, fun _ _ => rfl, rfl, ?_⟩
            refine And.intro (fun h => absurd (of_decide_eq_true h) (by omega)) (fun _ => ?_)
            refine ⟨ks.map rowI, rowI k, rfl, by omega, hrow, rfl, (by show 0 < 1; decide), ?_⟩
            refine ⟨rfl, Nat.zero_le 4, ((t13 m2 k).tabRO rfl rfl (fun d h => by subst h; exact ⟨rfl, rfl⟩) (r := 4) (p := 2) (b := 3) (sto := st2 m m2) (Nat.le_refl 4) rfl rfl (by decide) (by decide) (by decide)).mono ?_⟩
            rintro d l' ⟨hd, rfl⟩
            rw [hs2] at hd
            subst hd
            refine ⟨rfl, fun _ _ => rfl, rfl, ?_⟩
            refine And.intro (fun h => by simp at h) (fun _ => ?_)
            refine And.intro (fun h => by simp at h) (fun _ => ?_)
            refine ⟨ks.length - (j + 1), by omega, j + 1, rfl, by omega, ?_⟩
            unfold sB
            rw [← hw]
            rfl
        · have hb := bytT_len (m := m) (by omega)
          refine ⟨rfl, Nat.zero_le 4, ((t18 sortC m (by omega) hm.rng [] (by simp)).tabRO rfl rfl (fun d h => by subst h; exact ⟨rfl, nrBLL_B _⟩) (r := 4) (p := 0) (b := 1) (sto := st2 m m2) (Nat.le_refl 4) rfl rfl (by decide) (by decide) (by decide)).mono ?_⟩
          rintro d l' ⟨rfl, rfl⟩
          refine ⟨rfl, fun _ _ => rfl, rfl, ?_⟩
          refine ⟨rfl, Nat.zero_le 4, (t19 (bytT m) (bytT m) (by omega) (by omega) (r := 4) (sto := st2 m m2) (Nat.le_refl 4)).mono ?_⟩
          rintro d l' ⟨hd, rfl⟩
          rw [decide_eq_true rfl] at hd
          subst hd
          refine ⟨rfl, fun _ _ => rfl, rfl, ?_⟩
          refine ⟨rfl, Nat.zero_le 4, (t3.pure rfl rfl rfl rfl (r := 4) (sto := st2 m m2) (Nat.le_refl 4)).mono ?_⟩
          rintro d l' ⟨rfl, rfl⟩
          refine ⟨rfl, fun _ _ => rfl, rfl, ?_⟩
          exact rfl
  · have hm16 := hm.len
    refine ⟨rfl, Nat.zero_le 2, (t18 sortC m (by omega) hm.rng [] (by simp)).mono ?_⟩
    rintro d l' ⟨rfl, rfl⟩
    refine ⟨rfl, fun _ _ => rfl, rfl, ?_⟩
    refine ⟨rfl, Nat.zero_le 2, (t22 m hm.nd).mono ?_⟩
    rintro d l' ⟨m1, rfl, rfl, hp⟩
    refine ⟨rfl, fun k hk => ?_, rfl, ?_⟩
    · match k, hk with
      | 0, _ => rfl
      | 1, _ => rfl
      | k + 2, hk => exact absurd hk (by show ¬ k + 2 < 2; omega)
    refine And.intro (fun h => by cases h) (fun _ => ?_)
    refine ⟨rfl, Nat.zero_le 4, ((t14 sortC m (by omega)).tabRO (R := fun d => ∃ sz, d = .list (.own sz) ((sortI (m.map Prod.fst)).map rowI) ∧ (sz = 0 ∨ sz = 1)) rfl rfl (fun d ⟨sz, h, _⟩ => by subst h; exact ⟨rfl, nrBLL_I _⟩) (r := 4) (p := 0) (b := 1) (sto := st2 m m1) (Nat.le_refl 4) rfl rfl (by decide) (by decide) (by decide)).mono ?_⟩
    rintro d l' ⟨⟨sz, rfl, hsz⟩, rfl⟩
    refine ⟨rfl, fun _ _ => rfl, rfl, ?_⟩
    have hkeys : ∀ k, k ∈ sortI (m.map Prod.fst) → k ∈ m.map Prod.fst := fun k h => (sortI_perm _).mem_iff.1 h
    have hlk : (sortI (m.map Prod.fst)).length ≤ 16 := by rw [(sortI_perm _).length_eq, List.length_map]; exact hm.len
    generalize sortI (m.map Prod.fst) = ks at hkeys hlk
    have hget : ∀ k, k ≠ a.sess → getT k (doneZ a.sess a.seq a.rp m1).2 = getT k m := fun k hk => (getT_done hk m1).trans (getT_perm hp hm.nd k)
    rcases hsz with rfl | rfl
    all_goals
      refine ⟨rfl, Nat.le_refl 0, (Tri.tabRW (t12 m1 a.sess a.seq a.rp) rfl rfl rfl rfl (r := 0) (p := 2) (b := 3) (sto := st2 m m1) (Nat.zero_le _) rfl rfl (by decide) (Nat.zero_le _) (Nat.zero_le _)).mono ?_⟩
      rintro d l' ⟨rfl, rfl⟩
      refine ⟨rfl, fun k hk => absurd hk (Nat.not_lt_zero k), rfl, ?_⟩
      generalize (doneZ a.sess a.seq a.rp m1).2 = m2 at hget
      show Ok _ _ _ _ _
      refine Ok.loopN hLT hmix M7 lv7 [3, 5, 7, 8, 9, 10, 4] [3] (fun n s => ∃ (i : Nat), n = ks.length - i ∧ i ≤ ks.length ∧ s = sB a (bytT m) ks i m m2) (n := ks.length) ⟨0, rfl, Nat.zero_le _, rfl⟩ ?_
      rintro n s ⟨j, rfl, hj, rfl⟩
      refine And.intro (fun h3 => ?_) (fun h3 => ?_)
      · have h3 : ((j : Nat) : Int) < ((ks.map rowI).length : Int) := of_decide_eq_true h3
        rw [List.length_map] at h3
        have hj1 : j < ks.length := by omega
        have hrow := row_at (f := rowI) ks hj1
        have hw : IntKind.i64.wrap ((j : Int) + 1) = ((j + 1 : Nat) : Int) := wrap_succ hj1 (by omega)
        obtain ⟨e, hg⟩ := getT_key (hkeys ks[j] (List.getElem_mem hj1))
        have hr := hm.ok _ (getT_mem hg)
        generalize ks[j] = k at hrow hg hr
        have hr1 : rightZ k e.seq = true := hr
        have hseq : 1 ≤ e.seq := ((right_iff k e.seq).1 hr1).2.2.1
        have hs1 : seqOf k m = e.seq := by simp only [seqOf, hg]
        refine ⟨⟨127, [0, 0, 3, 4, 0, 16, 40], [1, 2, 7, 15, 16, 48, 127]⟩, by kernel_rfl, ?_⟩
        refine ⟨ks.map rowI, rowI k, rfl, by omega, hrow, rfl, (by show 0 < 1; decide), ?_⟩
        refine And.intro rfl ?_
        refine And.intro (fun _ => ?_) (fun hne => ?_)
        · refine ⟨ks.length - (j + 1), by omega, j + 1, rfl, by omega, ?_⟩
          unfold sB
          rw [← hw]
          rfl
        · have hne : ¬ k = a.sess := of_decide_eq_false hne
          have hg2 : getT k m2 = some e := (hget k hne).trans hg
          have hs2 : seqOf k m2 = e.seq := by simp only [seqOf, hg2]
          refine ⟨ks.map rowI, rowI k, rfl, by omega, hrow, rfl, (by show 0 < 1; decide), ?_⟩
          refine ⟨rfl, Nat.zero_le 4, ((t13 m k).tabRO rfl rfl (fun d h => by subst h; exact ⟨rfl, rfl⟩) (r := 4) (p := 0) (b := 1) (sto := st2 m m2) (Nat.le_refl 4) rfl rfl (by decide) (by decide) (by decide)).mono ?_⟩
          rintro d l' ⟨hd, rfl⟩
          rw [hs1] at hd
          subst hd
          refine ⟨rfl, fun _ _ => rfl, rfl, ?_⟩
          refine ⟨ks.map rowI, rowI k, rfl, by omega, hrow, rfl, (by show 0 < 1; decide), ?_⟩
          refine ⟨rfl, Nat.zero_le 4, ((t11 m k e.seq).tabRO rfl rfl (fun d h => by subst h; exact ⟨rfl, rfl⟩) (r := 4) (p := 0) (b := 1) (sto := st2 m m2) (Nat.le_refl 4) rfl rfl (by decide) (by decide) (by decide)).mono ?_⟩
          rintro d l' ⟨hd, rfl⟩
          rw [show askD k e.seq m = .tup [encR e.rp, .bool false] by simp only [askD, ask_own hg hr1]] at hd
          subst hd
          refine ⟨rfl, fun _ _ => rfl, rfl, ?_⟩
          refine ⟨ks.map rowI, rowI k, rfl, by omega, hrow, rfl, (by show 0 < 1; decide), ?_⟩
          refine ⟨rfl, Nat.zero_le 4, ((t11 m2 k e.seq).tabRO rfl rfl (fun d h => by subst h; exact ⟨rfl, rfl⟩) (r := 4) (p := 2) (b := 3) (sto := st2 m m2) (Nat.le_refl 4) rfl rfl (by decide) (by decide) (by decide)).mono ?_⟩
          rintro d l' ⟨hd, rfl⟩
          rw [show askD k e.seq m2 = .tup [encR e.rp, .bool false] by simp only [askD, ask_own hg2 hr1]] at hd
          subst hd
          refine ⟨rfl, fun _ _ => rfl, rfl, ?_⟩
          refine And.intro (fun h => absurd (of_decide_eq_true h) (by omega)) (fun _ => ?_)
          refine ⟨ks.map rowI, rowI k, rfl, by omega, hrow, rfl, (by show 0 < 1; decide), ?_⟩
          refine ⟨rfl, Nat.zero_le 4, ((t13 m2 k).tabRO rfl rfl (fun d h => by subst h; exact ⟨rfl, rfl⟩) (r := 4) (p := 2) (b := 3) (sto := st2 m m2) (Nat.le_refl 4) rfl rfl (by decide) (by decide) (by decide)).mono ?_⟩
          rintro d l' ⟨hd, rfl⟩
          rw [hs2] at hd
          subst hd
          refine ⟨rfl, fun _ _ => rfl, rfl, ?_⟩
          refine And.intro (fun h => by simp at h) (fun _ => ?_)
          refine And.intro (fun h => by simp at h) (fun _ => ?_)
          refine ⟨ks.length - (j + 1), by omega, j + 1, rfl, by omega, ?_⟩
          unfold sB
          rw [← hw]
          rfl
      · have hb := bytT_len (m := m) (by omega)
        refine ⟨rfl, Nat.zero_le 4, ((t18 sortC m (by omega) hm.rng [] (by simp)).tabRO rfl rfl (fun d h => by subst h; exact ⟨rfl, nrBLL_B _⟩) (r := 4) (p := 0) (b := 1) (sto := st2 m m2) (Nat.le_refl 4) rfl rfl (by decide) (by decide) (by decide)).mono ?_⟩
        rintro d l' ⟨rfl, rfl⟩
        refine ⟨rfl, fun _ _ => rfl, rfl, ?_⟩
        refine ⟨rfl, Nat.zero_le 4, (t19 (bytT m) (bytT m) (by omega) (by omega) (r := 4) (sto := st2 m m2) (Nat.le_refl 4)).mono ?_⟩
        rintro d l' ⟨hd, rfl⟩
        rw [decide_eq_true rfl] at hd
        subst hd
        refine ⟨rfl, fun _ _ => rfl, rfl, ?_⟩
        refine ⟨rfl, Nat.zero_le 4, (t3.pure rfl rfl rfl rfl (r := 4) (sto := st2 m m2) (Nat.le_refl 4)).mono ?_⟩
        rintro d l' ⟨rfl, rfl⟩
        refine ⟨rfl, fun _ _ => rfl, rfl, ?_⟩
        exact rfl
end Go.Lv
