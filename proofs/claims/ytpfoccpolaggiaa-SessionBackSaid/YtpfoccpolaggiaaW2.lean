/-
  Chapter 18: what holds of tables (no program in sight), the laws arguments; SessionOnce answers true on all data.
-/
import Derived.Test.YtpfoccpolaggiaaW1
import Derived.Test.YtpfoccpolaggiaaA44
import Derived.Test.YtpfoccpolaggiaaA35
import Derived.Test.YtpfoccpolaggiaaHk
set_option linter.all false
set_option maxRecDepth 100000
namespace Go.Lv
open Go.Proofs

theorem getT_set (k : Int) (e : Ent) : ∀ m : Tbl, getT k (setT k e m) = some e
  | [] => by simp [setT, getT]
  | x :: r => by
    unfold setT
    split
    · rename_i h; simp [getT, h]
    · rename_i h; simp [getT, h, getT_set k e r]
theorem setT_len (k : Int) (e : Ent) : ∀ m : Tbl, (setT k e m).length = if getT k m = none then m.length + 1 else m.length
  | [] => by simp [setT, getT]
  | x :: r => by
    unfold setT getT
    split
    · simp
    · simp only [List.length_cons, setT_len k e r]
      split <;> rfl
theorem right_iff (a b : Int) : rightZ a b = true ↔ 1 ≤ a ∧ a ≤ 1000000 ∧ 1 ≤ b ∧ b ≤ 1099511627776 := by
  simp [rightZ]
/-- What SessionOnce asks of a table. -/
theorem once (k q : Int) (r : Rep) (m : Tbl) (hm : m.length ≤ 16) :
    (∃ m', doneZ k q r m = (0, m') ∧ m'.length ≤ 16 ∧ seqOf k m' = q ∧ seqOf k m ≤ q ∧ askZ k q m' = (r, false) ∧ (1 < q → askZ k (q - 1) m' = (⟨24, 0, 0, 0⟩, false))) ∨
    (doneZ k q r m = (1, m) ∧ ∃ p, askZ k q m = (p, false)) := by
  cases hf : (askZ k q m).2 with
  | false => exact .inr ⟨by simp [doneZ, hf], (askZ k q m).1, by rw [← hf]⟩
  | true =>
    refine .inl ⟨setT k ⟨q, r⟩ m, by simp [doneZ, hf], ?_⟩
    have hg := getT_set k ⟨q, r⟩ m
    have hr : rightZ k q = true := by
      cases h : rightZ k q with
      | true => rfl
      | false => simp [askZ, h] at hf
    have hr' := (right_iff k q).1 hr
    have hlen := setT_len k ⟨q, r⟩ m
    have hold : (getT k m = none ∧ m.length < 16) ∨ ∃ e, getT k m = some e ∧ e.seq < q := by
      simp only [askZ, hr, Bool.true_eq_false, if_false] at hf
      cases hgm : getT k m with
      | none =>
        rw [hgm] at hf
        simp only at hf
        split at hf
        · cases hf
        · exact .inl ⟨rfl, by omega⟩
      | some e =>
        rw [hgm] at hf
        simp only at hf
        split at hf
        · cases hf
        · split at hf
          · cases hf
          · exact .inr ⟨e, rfl, by omega⟩
    refine ⟨?_, by simp [seqOf, hg], ?_, by simp [askZ, hr, hg], fun h1 => ?_⟩
    · rcases hold with ⟨h, h2⟩ | ⟨e, h, _⟩
      · rw [hlen, if_pos h]; omega
      · rw [hlen, if_neg (by rw [h]; simp)]; exact hm
    · rcases hold with ⟨h, _⟩ | ⟨e, h, h2⟩
      · simp only [seqOf, h]; omega
      · simp only [seqOf, h]; omega
    · have hr2 : rightZ k (q - 1) = true := (right_iff k (q - 1)).2 ⟨hr'.1, hr'.2.1, by omega, by omega⟩
      simp only [askZ, hr2, hg, Bool.true_eq_false, if_false]
      rw [if_neg (by show ¬ q = q - 1; omega), if_pos (by show q - 1 < q; omega)]

/-! ### The law's arguments -/
structure AskR where
  kind : Int
  sess : Int
  seq : Int
  rp : Rep
noncomputable def encA (a : AskR) : List D := [.int .i64 a.kind, .int .i64 a.sess, .int .i64 a.seq, .int .i64 a.rp.why, .int .i64 a.rp.st, .int .i64 a.rp.dr, .int .i64 a.rp.tm]
noncomputable def in64 (z : Int) : Prop := -9223372036854775808 ≤ z ∧ z ≤ 9223372036854775807
theorem okI3 {n : Nat} {x : List D} (h : OkD LT (n + 1) 3 x) : ∃ i, x = [.int .i64 i] ∧ in64 i := h
theorem okI24 {n : Nat} {x : List D} (h : OkD LT (n + 1) 24 x) : ∃ i, x = [.int .i64 i] ∧ in64 i := h
theorem okRep {n : Nat} {x : List D} (h : OkD LT (n + 2) 26 x) : ∃ r : Rep, x = [.int .i64 r.why, .int .i64 r.st, .int .i64 r.dr, .int .i64 r.tm] := by
  obtain ⟨x1, y1, rfl, _, h1, x2, y2, rfl, _, h2, x3, y3, rfl, _, h3, x4, y4, rfl, _, h4, rfl⟩ := h
  obtain ⟨i1, rfl, _⟩ := okI24 h1
  obtain ⟨i2, rfl, _⟩ := okI3 h2
  obtain ⟨i3, rfl, _⟩ := okI3 h3
  obtain ⟨i4, rfl, _⟩ := okI3 h4
  exact ⟨⟨i1, i2, i3, i4⟩, rfl⟩
theorem okAsk {n : Nat} {x : List D} (h : OkD LT (n + 3) 34 x) : ∃ a : AskR, x = encA a ∧ in64 a.seq := by
  obtain ⟨x1, y1, rfl, _, h1, x2, y2, rfl, _, h2, x3, y3, rfl, _, h3, x4, y4, rfl, _, h4, rfl⟩ := h
  obtain ⟨i1, rfl, _⟩ := okI3 h1
  obtain ⟨i2, rfl, _⟩ := okI3 h2
  obtain ⟨i3, rfl, hi⟩ := okI3 h3
  obtain ⟨r, rfl⟩ := okRep h4
  exact ⟨⟨i1, i2, i3, r⟩, rfl, hi⟩
theorem okAsks {n : Nat} {x : List D} (h : OkD LT (n + 4) 32 x) : ∃ al : List AskR, x = [.list .imm (al.map encA)] ∧ (∀ a, a ∈ al → in64 a.seq) ∧ al.length ≤ 9223372036854775807 := by
  obtain ⟨xs, rfl, hl, h⟩ := h
  have key : ∀ xs : List (List D), (∀ r, r ∈ xs → r.length = LT.size 34 ∧ OkD LT (n + 3) 34 r) → ∃ al : List AskR, xs = al.map encA ∧ ∀ a, a ∈ al → in64 a.seq := by
    intro xs
    induction xs with
    | nil => intro _; exact ⟨[], rfl, fun a ha => by cases ha⟩
    | cons x r ih =>
      intro h
      obtain ⟨a, rfl, ha⟩ := okAsk (h x (by simp)).2
      obtain ⟨al, rfl, has⟩ := ih fun y hy => h y (by simp [hy])
      exact ⟨a :: al, rfl, fun b hb => by
        rcases List.mem_cons.1 hb with e | hb
        · rw [e]; exact ha
        · exact has b hb⟩
  obtain ⟨al, rfl, has⟩ := key xs h
  exact ⟨al, rfl, has, by simpa using hl⟩
end Go.Lv

namespace Go.Lv
open Go.Proofs

noncomputable def sO (al : List AskR) (i : Nat) (m : Tbl) : DS := ⟨[(0, .list .imm (al.map encA)), (3, .gptr 1 0), (4, .int .i64 i)], [], stT m, mR 0⟩
noncomputable def M4 : Ms := [(10, 1, []), (12, 1, [])]
set_option maxHeartbeats 4000000 in
theorem t4 (al : List AskR) (hal : ∀ a, a ∈ al → in64 a.seq) (hlen : al.length ≤ 9223372036854775807) : Tri Try.prog 4 0 [.list .imm (al.map encA)] [] (fun d l => d = .bool true) := by
  refine Tri.walk2 (L := LT) (c := {n := 118, ko := [2]}) M4 [0, 2, 3, 4, 5, 6, 7, 8, 9, 10, 11, 12, 15, 23, 76, 78, 84, 97, 100, 116] hLT hmix Try.func4 rfl rfl ⟨rfl, rfl⟩ (by show 1 ≤ 118; decide) (Nat.le_refl _) ?_
  refine ⟨rfl, Nat.le_refl 0, t10.mono ?_⟩
  rintro d l ⟨rfl, rfl⟩
  refine ⟨rfl, fun k hk => absurd hk (Nat.not_lt_zero k), rfl, ?_⟩
  refine And.intro (fun h => by cases h) (fun _ => ?_)
  show Ok _ _ _ _ _
  refine Ok.loopN hLT hmix M4 [0, 2, 3, 4, 5, 6, 7, 8, 9, 10, 11, 12, 15, 23, 76, 78, 84, 97, 100, 116] [0, 3, 4] [] (fun n s => ∃ (i : Nat) (m : Tbl), n = 60 - i ∧ i ≤ 60 ∧ m.length ≤ 16 ∧ s = sO al i m) (n := 60) ⟨0, [], rfl, by omega, by simp, rfl⟩ ?_
  rintro n s ⟨i, m, rfl, hi, hm, rfl⟩
  refine And.intro (fun h1 => ?_) (fun h1 => ?_)
  · refine And.intro (fun h2 => ?_) (fun h2 => ?_)
    · have hi1 : i < al.length := by
        have := of_decide_eq_true h1
        simp only [List.length_map] at this
        omega
      have hi2 : i < 60 := by have := of_decide_eq_true h2; omega
      have hseq := hal (al[i]) (List.getElem_mem hi1)
      have hrow : (al.map encA)[((i : Nat) : Int).toNat]? = some (encA al[i]) := by
        rw [Int.toNat_natCast, List.getElem?_map, List.getElem?_eq_getElem hi1]
        rfl
      generalize al[i] = a at hseq hrow
      have hw : IntKind.i64.wrap ((i : Int) + 1) = ((i + 1 : Nat) : Int) := by
        rw [wrap64 (by omega) (by omega)]
        omega
      refine ⟨al.map encA, encA a, rfl, by omega, hrow, rfl, by decide, ?_⟩
      refine ⟨rfl, Nat.zero_le 2, (t13 m a.sess).mono ?_⟩
      rintro d l ⟨rfl, rfl⟩
      refine ⟨rfl, fun _ _ => rfl, rfl, ?_⟩
      refine ⟨rfl, Nat.le_refl 0, (t12 m a.sess a.seq a.rp).mono ?_⟩
      rintro d l ⟨hd, hl⟩
      rcases once a.sess a.seq a.rp m hm with ⟨m', hz, hm', hn, hw2, ha, hb⟩ | ⟨hz, p, ha⟩
      · rw [hz] at hd hl
        subst hd; subst hl
        refine ⟨rfl, fun k hk => absurd hk (Nat.not_lt_zero k), rfl, ?_⟩
        refine ⟨rfl, Nat.zero_le 2, (t13 m' a.sess).mono ?_⟩
        rintro d l ⟨rfl, rfl⟩
        refine ⟨rfl, fun _ _ => rfl, rfl, ?_⟩
        refine ⟨rfl, Nat.zero_le 2, (t11 m' a.sess a.seq).mono ?_⟩
        rintro d l ⟨hd, rfl⟩
        rw [show askD a.sess a.seq m' = .tup [encR a.rp, .bool false] by simp only [askD, ha]] at hd
        subst hd
        refine ⟨rfl, fun _ _ => rfl, rfl, ?_⟩
        -- not less than it was
        refine And.intro (fun h => absurd (of_decide_eq_true h) (by rw [hn]; omega)) (fun _ => ?_)
        refine ⟨rfl, Nat.zero_le 2, (t14 sortC m' (by omega)).mono ?_⟩
        rintro d l ⟨⟨sz, rfl, hsz⟩, rfl⟩
        rcases hsz with rfl | rfl
        all_goals
          refine ⟨rfl, fun _ _ => rfl, rfl, ?_⟩
          have hle : ((sortI (m'.map Prod.fst)).map rowI).length ≤ 16 := by
            rw [List.length_map, (sortI_perm _).length_eq, List.length_map]
            exact hm'
          refine And.intro (fun h => absurd (of_decide_eq_true h) (by omega)) (fun _ => ?_)
          -- it is the number done
          refine And.intro (fun h => by simp at h) (fun _ => ?_)
          refine And.intro (fun h => by rw [hn] at h; simp at h) (fun _ => ?_)
          refine And.intro (fun h => by simp at h) (fun _ => ?_)
          refine And.intro (fun h3 => ?_) (fun h3 => ?_)
          · have h3 : 1 < a.seq := of_decide_eq_true h3
            have hw3 : IntKind.i64.wrap (a.seq - 1) = a.seq - 1 := wrap64 (by have := hseq.1; omega) (by have := hseq.2; omega)
            refine ⟨rfl, Nat.zero_le 2, (t11 m' a.sess (IntKind.i64.wrap (a.seq - 1))).mono ?_⟩
            rintro d l ⟨hd, rfl⟩
            rw [show askD a.sess (IntKind.i64.wrap (a.seq - 1)) m' = .tup [encR ⟨24, 0, 0, 0⟩, .bool false] by simp only [askD, hw3, hb h3]] at hd
            subst hd
            refine ⟨rfl, fun _ _ => rfl, rfl, ?_⟩
            refine And.intro (fun h => by simp at h) (fun _ => ?_)
            refine ⟨60 - (i + 1), by omega, i + 1, m', rfl, by omega, hm', ?_⟩
            unfold sO
            rw [← hw]
            rfl
          · refine ⟨60 - (i + 1), by omega, i + 1, m', rfl, by omega, hm', ?_⟩
            unfold sO
            rw [← hw]
            rfl
      · rw [hz] at hd hl
        subst hd; subst hl
        refine ⟨rfl, fun k hk => absurd hk (Nat.not_lt_zero k), rfl, ?_⟩
        refine ⟨rfl, Nat.zero_le 2, (t13 m a.sess).mono ?_⟩
        rintro d l ⟨rfl, rfl⟩
        refine ⟨rfl, fun _ _ => rfl, rfl, ?_⟩
        refine ⟨rfl, Nat.zero_le 2, (t11 m a.sess a.seq).mono ?_⟩
        rintro d l ⟨hd, rfl⟩
        rw [show askD a.sess a.seq m = .tup [.agg [.int .i64 p.why, .int .i64 p.st, .int .i64 p.dr, .int .i64 p.tm], .bool false] by simp only [askD, ha, encR]] at hd
        subst hd
        refine ⟨rfl, fun _ _ => rfl, rfl, ?_⟩
        refine And.intro (fun h => absurd (of_decide_eq_true h) (by omega)) (fun _ => ?_)
        refine ⟨rfl, Nat.zero_le 2, (t14 sortC m (by omega)).mono ?_⟩
        rintro d l ⟨⟨sz, rfl, hsz⟩, rfl⟩
        rcases hsz with rfl | rfl
        all_goals
          refine ⟨rfl, fun _ _ => rfl, rfl, ?_⟩
          have hle : ((sortI (m.map Prod.fst)).map rowI).length ≤ 16 := by
            rw [List.length_map, (sortI_perm _).length_eq, List.length_map]
            exact hm
          refine And.intro (fun h => absurd (of_decide_eq_true h) (by omega)) (fun _ => ?_)
          refine And.intro (fun _ => ?_) (fun h => by simp at h)
          refine And.intro (fun h => by simp at h) (fun _ => ?_)
          refine ⟨60 - (i + 1), by omega, i + 1, m, rfl, by omega, hm, ?_⟩
          unfold sO
          rw [← hw]
          rfl
    · refine ⟨rfl, Nat.zero_le 2, (t3.pure rfl rfl rfl rfl (r := 2) (sto := stT m) (Nat.le_refl 2)).mono ?_⟩
      rintro d l ⟨rfl, rfl⟩
      refine ⟨rfl, fun _ _ => rfl, rfl, ?_⟩
      exact rfl
  · refine ⟨rfl, Nat.zero_le 2, (t3.pure rfl rfl rfl rfl (r := 2) (sto := stT m) (Nat.le_refl 2)).mono ?_⟩
    rintro d l ⟨rfl, rfl⟩
    refine ⟨rfl, fun _ _ => rfl, rfl, ?_⟩
    exact rfl
end Go.Lv
