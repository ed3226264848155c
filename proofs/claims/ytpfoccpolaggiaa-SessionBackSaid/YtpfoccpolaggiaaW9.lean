/-
  The reader of bytes: what is written is read back, number by number and table by table.
-/
import Derived.Test.YtpfoccpolaggiaaW3
import Derived.Test.YtpfoccpolaggiaaW6
import Derived.Test.YtpfoccpolaggiaaW8
set_option linter.all false
set_option maxRecDepth 100000
namespace Go.Lv
open Go.Proofs

/-- A reader: its fault's place and number, its bytes, where it stands. -/
noncomputable def stR (fa fw : Int) (bs : List Int) (p : Int) : List Ob := [.box [.int .i64 fa, .int .i64 fw, .list .imm (bs.map rowB), .int .i64 p]]
theorem t49 (fa fw p a e : Int) (bs : List Int) : Tri Try.prog 49 0 [.gptr 0 0, .int .i64 a, .int .i64 e] (stR fa fw bs p) (fun d l => d = .tup [] ∧ l = stR a e bs a) := by
  refine Tri.walk2 (L := LT) (c := {n := 16}) [] [0, 1, 2] hLT hmix Try.func49 rfl rfl ⟨rfl, rfl⟩ (by show 3 ≤ 16; decide) (Nat.zero_le _) ?_
  exact And.intro rfl rfl
theorem t43_0 (fa fw : Int) : Tri Try.prog 43 0 [.agg [.int .i64 fa, .int .i64 fw]] [] (fun d l => d = .bool (decide (fw = 0)) ∧ l = []) := by
  refine Tri.walk2 (L := LT) (c := {n := 6, ko := [2]}) [] [1, 2] hLT hmix Try.func43 rfl rfl ⟨rfl, rfl⟩ (by show 1 ≤ 6; decide) (Nat.zero_le _) ?_
  refine And.intro (fun h => And.intro (by rw [h]) rfl) (fun h => And.intro (by rw [h]) rfl)
noncomputable def zagU (u : Int) : Int := IntKind.i64.wrap (BitVec.ofInt IntKind.i64.bits (IntKind.i64.wrap (u.fdiv (2 ^ min (Int.toNat 1) IntKind.u64.bits))) ^^^ BitVec.ofInt IntKind.i64.bits (IntKind.i64.wrap (0 - IntKind.i64.wrap (IntKind.u64.wrap (BitVec.ofInt IntKind.u64.bits u &&& BitVec.ofInt IntKind.u64.bits 1).toNat)))).toNat
theorem t72_0 (u : Int) : Tri Try.prog 72 0 [.int .u64 u] [] (fun d l => d = .int .i64 (zagU u) ∧ l = []) := by
  refine Tri.walk2 (L := LT) (c := {n := 11, ko := [2]}) [] [0, 2] hLT hmix Try.func72 rfl rfl ⟨rfl, rfl⟩ (by show 1 ≤ 11; decide) (Nat.zero_le _) ?_
  exact And.intro rfl rfl
/-- A group's bits. -/
noncomputable def grp (c : Int) : Int := IntKind.u64.wrap (IntKind.u8.wrap (BitVec.ofInt IntKind.u8.bits c &&& BitVec.ofInt IntKind.u8.bits 127).toNat)
noncomputable def orU (u c : Int) (k : Nat) : Int := IntKind.u64.wrap (BitVec.ofInt IntKind.u64.bits u ||| BitVec.ofInt IntKind.u64.bits (IntKind.u64.wrap (grp c * 2 ^ min (7 * k) IntKind.u64.bits))).toNat
/-- What is read of a number: what is wrong, the number, where it ends. -/
noncomputable def numL : List Int → Nat → Int → Nat → Int × Int × Nat
  | [], _, _, _ => (3, 0, 0)
  | c :: r, k, u, p => if (k : Int) = 9 ∧ c > 1 then (4, 0, 0) else if c ≥ 128 then numL r (k + 1) (orU u c k) (p + 1) else if c = 0 ∧ (k : Int) > 0 then (4, 0, 0) else (0, zagU (orU u c k), p + 1)
theorem numL_bad {c u : Int} {r : List Int} {k p : Nat} (h : (k : Int) = 9 ∧ c > 1) : numL (c :: r) k u p = (4, 0, 0) := by simp only [numL]; rw [if_pos h]
theorem numL_more {c u : Int} {r : List Int} {k p : Nat} (h : ¬ ((k : Int) = 9 ∧ c > 1)) (hc : c ≥ 128) : numL (c :: r) k u p = numL r (k + 1) (orU u c k) (p + 1) := by simp only [numL]; rw [if_neg h, if_pos hc]
theorem numL_zero {c u : Int} {r : List Int} {k p : Nat} (h : ¬ ((k : Int) = 9 ∧ c > 1)) (hc : ¬ c ≥ 128) (h0 : c = 0) (h4 : (k : Int) > 0) : numL (c :: r) k u p = (4, 0, 0) := by simp only [numL]; rw [if_neg h, if_neg hc, if_pos ⟨h0, h4⟩]
theorem numL_ok {c u : Int} {r : List Int} {k p : Nat} (h : ¬ ((k : Int) = 9 ∧ c > 1)) (hc : ¬ c ≥ 128) (h4 : ¬ (c = 0 ∧ (k : Int) > 0)) : numL (c :: r) k u p = (0, zagU (orU u c k), p + 1) := by simp only [numL]; rw [if_neg h, if_neg hc, if_neg h4]
noncomputable def outN (fa fw from' : Int) (bs : List Int) (x : Int × Int × Nat) : List Ob := if x.1 = 0 then stR fa fw bs x.2.2 else stR from' x.1 bs from'
theorem sh_ask {x b : Int} {k : Nat} {kk : IntKind} (hb : b = 7 * (k : Int)) : binD LT 93 .shl (.int .u64 x) (.int kk b) = some (.int .u64 (IntKind.u64.wrap (x * 2 ^ min (7 * k) IntKind.u64.bits))) := by
  subst hb
  show (if (7 * (k : Int)) < 0 then none else some (D.int .u64 (IntKind.u64.wrap (x * 2 ^ min (7 * (k : Int)).toNat IntKind.u64.bits)))) = _
  rw [if_neg (by omega)]
  have : (7 * (k : Int)).toNat = 7 * k := by omega
  rw [this]
noncomputable def sN (fa fw from' : Int) (bs : List Int) (k : Nat) (u : Int) (p : Nat) : DS := ⟨[(0, .gptr 0 0), (1, .int .i64 from'), (5, .int .u64 u), (6, .int .i64 (k : Int)), (4, .int .i64 0)], [], stR fa fw bs p, mR 0⟩
set_option maxHeartbeats 4000000 in
theorem t56 (fa fw from' : Int) (bs : List Int) (hb : bs.length ≤ 100000000000000) (p : Nat) (hp : p ≤ bs.length) :
    Tri Try.prog 56 0 [.gptr 0 0, .int .i64 from'] (stR fa fw bs p) (fun d l => d = .int .i64 (numL (bs.drop p) 0 0 p).2.1 ∧ l = outN fa fw from' bs (numL (bs.drop p) 0 0 p)) := by
  refine Tri.walk2 (L := LT) (c := {n := 71, ko := [4], fs := [56]}) [(49, 1, [])] [0, 1, 4, 5, 6, 7, 19, 38, 59, 65] hLT hmix Try.func56 rfl rfl ⟨rfl, rfl⟩ (by show 2 ≤ 71; decide) (Nat.zero_le _) ?_
  show Ok _ _ _ _ _
  refine Ok.loopN hLT hmix [(49, 1, [])] [0, 1, 4, 5, 6, 7, 19, 38, 59, 65] [0, 1, 5, 6, 4] [] (fun n s => ∃ (k : Nat) (u : Int) (q : Nat), n = bs.length - q ∧ q ≤ bs.length ∧ k ≤ 9 ∧ numL (bs.drop q) k u q = numL (bs.drop p) 0 0 p ∧ s = sN fa fw from' bs k u q) (n := bs.length - p) ⟨0, 0, p, rfl, hp, by omega, rfl, rfl⟩ ?_
  rintro n s ⟨k, u, q, rfl, hq, hk, hnum, rfl⟩
  rw [← hnum]
  refine ⟨⟨1023, [0, 1, 2, 4, 0, 16, 32, 64, 128, 264], [1, 3, 7, 15, 16, 48, 112, 240, 496, 1023]⟩, by kernel_rfl, ?_⟩
  refine And.intro (fun h1 => ?_) (fun h1 => ?_)
  · have h1 : ((q : Nat) : Int) ≥ ((bs.map rowB).length : Int) := of_decide_eq_true h1
    rw [List.length_map] at h1
    have hd : bs.drop q = [] := List.drop_eq_nil_of_le (by omega)
    refine ⟨rfl, Nat.le_refl 0, (t49 fa fw q from' 3 bs).mono ?_⟩
    rintro d l ⟨rfl, rfl⟩
    refine ⟨rfl, fun k hk => absurd hk (Nat.not_lt_zero k), rfl, ?_⟩
    rw [hd]
    exact And.intro rfl rfl
  · have h1 : ¬ ((q : Nat) : Int) ≥ ((bs.map rowB).length : Int) := of_decide_eq_false h1
    rw [List.length_map] at h1
    have hq1 : q < bs.length := by omega
    have hd : bs.drop q = bs[q] :: bs.drop (q + 1) := List.drop_eq_getElem_cons hq1
    have hrow := row_at (f := rowB) bs hq1
    have hw : IntKind.i64.wrap ((q : Int) + 1) = ((q + 1 : Nat) : Int) := wrap_succ hq1 (by omega)
    have hwk : IntKind.i64.wrap ((k : Int) + 1) = ((k + 1 : Nat) : Int) := wrap_succ (n := 10) (by omega) (by omega)
    rw [hd]
    generalize bs[q] = c at hrow
    refine ⟨⟨2047, [0, 1, 2, 4, 0, 16, 32, 64, 136, 256, 1023], [1, 3, 7, 15, 16, 48, 112, 240, 511, 1023, 2047]⟩, by kernel_rfl, ?_⟩
    refine ⟨bs.map rowB, rowB c, rfl, by omega, hrow, rfl, (by show 0 < 1; decide), ?_⟩
    refine And.intro rfl ?_
    refine And.intro ?_ trivial
    refine And.intro trivial ?_
    have hB : IntKind.u64.wrap (IntKind.i64.wrap (7 * (k : Int))) = 7 * (k : Int) := by
      rw [wrap64 (by omega) (by omega), wrapU]
      omega
    refine And.intro (fun h2 => ?_) (fun h2 => ?_)
    · have h2 : (k : Int) = 9 := of_decide_eq_true h2
      refine And.intro (fun h3 => ?_) (fun h3 => ?_)
      · have h3 : c > 1 := of_decide_eq_true h3
        refine ⟨rfl, Nat.le_refl 0, (t49 fa fw q from' 4 bs).mono ?_⟩
        rintro d l ⟨rfl, rfl⟩
        refine ⟨rfl, fun k hk => absurd hk (Nat.not_lt_zero k), rfl, ?_⟩
        rw [numL_bad ⟨h2, h3⟩]
        exact And.intro rfl rfl
      · have h3 : ¬ c > 1 := of_decide_eq_false h3
        have hbad : ¬ ((k : Int) = 9 ∧ c > 1) := fun h => h3 h.2
        refine Exists.intro _ (And.intro (sh_ask (x := grp c) hB) ?_)
        refine And.intro (fun hc => ?_) (fun hc => ?_)
        · have hc : c ≥ 128 := of_decide_eq_true hc
          have hk9 : k + 1 ≤ 9 := by
            rcases Nat.lt_or_ge k 9 with h | h
            · omega
            · exact absurd ⟨by omega, by omega⟩ hbad
          refine ⟨bs.length - (q + 1), by omega, k + 1, orU u c k, q + 1, rfl, by omega, hk9, (numL_more hbad hc).symm, ?_⟩
          unfold sN stR
          rw [← hwk, ← hw]
          rfl
        · have hc : ¬ c ≥ 128 := of_decide_eq_false hc
          refine And.intro (fun h0 => ?_) (fun h0 => ?_)
          · have h0 : c = 0 := of_decide_eq_true h0
            refine And.intro (fun h4 => ?_) (fun h4 => ?_)
            · have h4 : (k : Int) > 0 := of_decide_eq_true h4
              refine ⟨rfl, Nat.le_refl 0, (t49 fa fw (IntKind.i64.wrap ((q : Int) + 1)) from' 4 bs).mono ?_⟩
              rintro d l ⟨rfl, rfl⟩
              refine ⟨rfl, fun k hk => absurd hk (Nat.not_lt_zero k), rfl, ?_⟩
              rw [numL_zero hbad hc h0 h4]
              exact And.intro rfl rfl
            · have h4 : ¬ (k : Int) > 0 := of_decide_eq_false h4
              refine ⟨rfl, Nat.zero_le 1, ((t72_0 (orU u c k)).pure rfl rfl rfl rfl (r := 1) (sto := stR fa fw bs (IntKind.i64.wrap ((q : Int) + 1))) (Nat.le_refl 1)).mono ?_⟩
              rintro d l ⟨rfl, rfl⟩
              refine ⟨rfl, fun _ _ => rfl, rfl, ?_⟩
              rw [numL_ok hbad hc (fun h => h4 h.2)]
              refine And.intro rfl ?_
              rw [hw]
              rfl
          · have h0 : ¬ c = 0 := of_decide_eq_false h0
            refine ⟨rfl, Nat.zero_le 1, ((t72_0 (orU u c k)).pure rfl rfl rfl rfl (r := 1) (sto := stR fa fw bs (IntKind.i64.wrap ((q : Int) + 1))) (Nat.le_refl 1)).mono ?_⟩
            rintro d l ⟨rfl, rfl⟩
            refine ⟨rfl, fun _ _ => rfl, rfl, ?_⟩
            rw [numL_ok hbad hc (fun h => h0 h.1)]
            refine And.intro rfl ?_
            rw [hw]
            rfl
    · have h2 : ¬ (k : Int) = 9 := of_decide_eq_false h2
      have hbad : ¬ ((k : Int) = 9 ∧ c > 1) := fun h => h2 h.1
      refine Exists.intro _ (And.intro (sh_ask (x := grp c) hB) ?_)
      refine And.intro (fun hc => ?_) (fun hc => ?_)
      · have hc : c ≥ 128 := of_decide_eq_true hc
        have hk9 : k + 1 ≤ 9 := by
          rcases Nat.lt_or_ge k 9 with h | h
          · omega
          · exact absurd ⟨by omega, by omega⟩ hbad
        refine ⟨bs.length - (q + 1), by omega, k + 1, orU u c k, q + 1, rfl, by omega, hk9, (numL_more hbad hc).symm, ?_⟩
        unfold sN stR
        rw [← hwk, ← hw]
        rfl
      · have hc : ¬ c ≥ 128 := of_decide_eq_false hc
        refine And.intro (fun h0 => ?_) (fun h0 => ?_)
        · have h0 : c = 0 := of_decide_eq_true h0
          refine And.intro (fun h4 => ?_) (fun h4 => ?_)
          · have h4 : (k : Int) > 0 := of_decide_eq_true h4
            refine ⟨rfl, Nat.le_refl 0, (t49 fa fw (IntKind.i64.wrap ((q : Int) + 1)) from' 4 bs).mono ?_⟩
            rintro d l ⟨rfl, rfl⟩
            refine ⟨rfl, fun k hk => absurd hk (Nat.not_lt_zero k), rfl, ?_⟩
            rw [numL_zero hbad hc h0 h4]
            exact And.intro rfl rfl
          · have h4 : ¬ (k : Int) > 0 := of_decide_eq_false h4
            refine ⟨rfl, Nat.zero_le 1, ((t72_0 (orU u c k)).pure rfl rfl rfl rfl (r := 1) (sto := stR fa fw bs (IntKind.i64.wrap ((q : Int) + 1))) (Nat.le_refl 1)).mono ?_⟩
            rintro d l ⟨rfl, rfl⟩
            refine ⟨rfl, fun _ _ => rfl, rfl, ?_⟩
            rw [numL_ok hbad hc (fun h => h4 h.2)]
            refine And.intro rfl ?_
            rw [hw]
            rfl
        · have h0 : ¬ c = 0 := of_decide_eq_false h0
          refine ⟨rfl, Nat.zero_le 1, ((t72_0 (orU u c k)).pure rfl rfl rfl rfl (r := 1) (sto := stR fa fw bs (IntKind.i64.wrap ((q : Int) + 1))) (Nat.le_refl 1)).mono ?_⟩
          rintro d l ⟨rfl, rfl⟩
          refine ⟨rfl, fun _ _ => rfl, rfl, ?_⟩
          rw [numL_ok hbad hc (fun h => h0 h.1)]
          refine And.intro rfl ?_
          rw [hw]
          rfl
end Go.Lv

namespace Go.Lv
open Go.Proofs

structure Rd where
  fa : Int
  fw : Int
  p : Nat
noncomputable def stRd (bs : List Int) (s : Rd) : List Ob := stR s.fa s.fw bs s.p
theorem numL_pos : ∀ (l : List Int) (k : Nat) (u : Int) (p : Nat), (numL l k u p).2.2 ≤ p + l.length
  | [], k, u, p => by simp [numL]
  | c :: r, k, u, p => by
    unfold numL
    split
    · simp
    · split
      · have := numL_pos r (k + 1) (orU u c k) (p + 1)
        simp only [List.length_cons]
        omega
      · split
        · simp
        · simp only [List.length_cons]
          omega
noncomputable def numRd (bs : List Int) (s : Rd) : Int × Rd := if s.fw = 0 then ((numL (bs.drop s.p) 0 0 s.p).2.1, if (numL (bs.drop s.p) 0 0 s.p).1 = 0 then ⟨s.fa, s.fw, (numL (bs.drop s.p) 0 0 s.p).2.2⟩ else ⟨s.p, (numL (bs.drop s.p) 0 0 s.p).1, s.p⟩) else (0, s)
theorem numRd_pos {bs : List Int} {s : Rd} (h : s.p ≤ bs.length) : (numRd bs s).2.p ≤ bs.length := by
  unfold numRd
  split
  · have := numL_pos (bs.drop s.p) 0 0 s.p
    rw [List.length_drop] at this
    simp only
    split
    · show (numL (bs.drop s.p) 0 0 s.p).2.2 ≤ bs.length
      omega
    · exact h
  · exact h
theorem outN_rd (bs : List Int) (s : Rd) (h : s.fw = 0) : outN s.fa s.fw (s.p : Int) bs (numL (bs.drop s.p) 0 0 s.p) = stRd bs (numRd bs s).2 := by
  unfold outN numRd stRd
  rw [if_pos h]
  simp only
  split <;> rfl
/-- Num. -/
theorem t44 (bs : List Int) (hb : bs.length ≤ 100000000000000) (s : Rd) (hp : s.p ≤ bs.length) :
    Tri Try.prog 44 0 [.gptr 0 0] (stRd bs s) (fun d l => d = .int .i64 (numRd bs s).1 ∧ l = stRd bs (numRd bs s).2) := by
  refine Tri.walk2 (L := LT) (c := {n := 19, ko := [2]}) [(56, 1, [])] [0, 2, 12] hLT hmix Try.func44 rfl rfl ⟨rfl, rfl⟩ (by show 1 ≤ 19; decide) (Nat.zero_le _) ?_
  refine And.intro (fun h => by cases h) (fun _ => ?_)
  refine ⟨rfl, Nat.zero_le 1, ((t43_0 s.fa s.fw).pure rfl rfl rfl rfl (r := 1) (sto := stRd bs s) (Nat.le_refl 1)).mono ?_⟩
  rintro d l ⟨hd, rfl⟩
  by_cases hf : s.fw = 0
  · rw [decide_eq_true hf] at hd
    subst hd
    refine ⟨rfl, fun _ _ => rfl, rfl, ?_⟩
    refine ⟨rfl, Nat.le_refl 0, (t56 s.fa s.fw (s.p : Int) bs hb s.p hp).mono ?_⟩
    rintro d l ⟨rfl, rfl⟩
    refine ⟨rfl, fun k hk => absurd hk (Nat.not_lt_zero k), ?_, ?_⟩
    · rw [outN_rd bs s hf]; rfl
    rw [outN_rd bs s hf]
    refine And.intro ?_ rfl
    unfold numRd
    rw [if_pos hf]
  · rw [decide_eq_false hf] at hd
    subst hd
    refine ⟨rfl, fun _ _ => rfl, rfl, ?_⟩
    have : numRd bs s = (0, s) := by unfold numRd; rw [if_neg hf]
    rw [this]
    exact And.intro rfl rfl
noncomputable def cntRd (bs : List Int) (most : Int) (s : Rd) : Int × Rd := if s.fw = 0 then (if (numRd bs s).2.fw = 0 ∧ ((numRd bs s).1 < 0 ∨ (numRd bs s).1 > most) then (0, ⟨s.p, 2, s.p⟩) else numRd bs s) else (0, s)
/-- count. -/
theorem t55 (bs : List Int) (hb : bs.length ≤ 100000000000000) (s : Rd) (hp : s.p ≤ bs.length) (hf : s.fw = 0) (most : Int) :
    Tri Try.prog 55 0 [.gptr 0 0, .int .i64 (s.p : Int), .int .i64 most] (stRd bs s) (fun d l => d = .int .i64 (cntRd bs most s).1 ∧ l = stRd bs (cntRd bs most s).2) := by
  refine Tri.walk2 (L := LT) (c := {n := 29, ko := [6]}) [(56, 1, []), (49, 1, [])] [0, 1, 2, 6, 7, 24] hLT hmix Try.func55 rfl rfl ⟨rfl, rfl⟩ (by show 3 ≤ 29; decide) (Nat.zero_le _) ?_
  refine ⟨rfl, Nat.le_refl 0, (t56 s.fa s.fw (s.p : Int) bs hb s.p hp).mono ?_⟩
  rintro d l ⟨rfl, rfl⟩
  have h1 : (numL (bs.drop s.p) 0 0 s.p).2.1 = (numRd bs s).1 := by unfold numRd; rw [if_pos hf]
  rw [outN_rd bs s hf, h1]
  have hc : cntRd bs most s = if (numRd bs s).2.fw = 0 ∧ ((numRd bs s).1 < 0 ∨ (numRd bs s).1 > most) then (0, ⟨s.p, 2, s.p⟩) else numRd bs s := by unfold cntRd; rw [if_pos hf]
  rw [hc]
  generalize numRd bs s = x
  obtain ⟨n, t⟩ := x
  refine ⟨rfl, fun k hk => absurd hk (Nat.not_lt_zero k), rfl, ?_⟩
  refine ⟨rfl, Nat.zero_le 1, ((t43_0 t.fa t.fw).pure rfl rfl rfl rfl (r := 1) (sto := stRd bs t) (Nat.le_refl 1)).mono ?_⟩
  rintro d l ⟨hd, rfl⟩
  by_cases hf2 : t.fw = 0
  · rw [decide_eq_true hf2] at hd
    subst hd
    refine ⟨rfl, fun _ _ => rfl, rfl, ?_⟩
    have bad : (n < 0 ∨ n > most) → (if t.fw = 0 ∧ (n < 0 ∨ n > most) then ((0 : Int), (⟨s.p, 2, s.p⟩ : Rd)) else (n, t)) = (0, ⟨s.p, 2, s.p⟩) := fun h => if_pos ⟨hf2, h⟩
    refine And.intro (fun h2 => ?_) (fun h2 => ?_)
    · have h2 : n < 0 := of_decide_eq_true h2
      refine ⟨rfl, Nat.le_refl 0, (t49 t.fa t.fw t.p s.p 2 bs).mono ?_⟩
      rintro d l ⟨rfl, rfl⟩
      refine ⟨rfl, fun k hk => absurd hk (Nat.not_lt_zero k), rfl, ?_⟩
      rw [bad (.inl h2)]
      exact And.intro rfl rfl
    · have h2 : ¬ n < 0 := of_decide_eq_false h2
      refine And.intro (fun h3 => ?_) (fun h3 => ?_)
      · have h3 : n > most := of_decide_eq_true h3
        refine ⟨rfl, Nat.le_refl 0, (t49 t.fa t.fw t.p s.p 2 bs).mono ?_⟩
        rintro d l ⟨rfl, rfl⟩
        refine ⟨rfl, fun k hk => absurd hk (Nat.not_lt_zero k), rfl, ?_⟩
        rw [bad (.inr h3)]
        exact And.intro rfl rfl
      · have h3 : ¬ n > most := of_decide_eq_false h3
        rw [if_neg (fun h => h.2.elim h2 h3)]
        exact And.intro rfl rfl
  · rw [decide_eq_false hf2] at hd
    subst hd
    refine ⟨rfl, fun _ _ => rfl, rfl, ?_⟩
    rw [if_neg (fun h => hf2 h.1)]
    exact And.intro rfl rfl
/-- Count. -/
theorem t42 (bs : List Int) (hb : bs.length ≤ 100000000000000) (s : Rd) (hp : s.p ≤ bs.length) (most : Int) :
    Tri Try.prog 42 0 [.gptr 0 0, .int .i64 most] (stRd bs s) (fun d l => d = .int .i64 (cntRd bs most s).1 ∧ l = stRd bs (cntRd bs most s).2) := by
  refine Tri.walk2 (L := LT) (c := {n := 22, ko := [4]}) [(55, 1, [])] [0, 1, 4, 14] hLT hmix Try.func42 rfl rfl ⟨rfl, rfl⟩ (by show 2 ≤ 22; decide) (Nat.zero_le _) ?_
  refine And.intro (fun h => by cases h) (fun _ => ?_)
  refine ⟨rfl, Nat.zero_le 1, ((t43_0 s.fa s.fw).pure rfl rfl rfl rfl (r := 1) (sto := stRd bs s) (Nat.le_refl 1)).mono ?_⟩
  rintro d l ⟨hd, rfl⟩
  by_cases hf : s.fw = 0
  · rw [decide_eq_true hf] at hd
    subst hd
    refine ⟨rfl, fun _ _ => rfl, rfl, ?_⟩
    refine ⟨rfl, Nat.le_refl 0, (t55 bs hb s hp hf most).mono ?_⟩
    rintro d l ⟨rfl, rfl⟩
    refine ⟨rfl, fun k hk => absurd hk (Nat.not_lt_zero k), rfl, ?_⟩
    exact And.intro rfl rfl
  · rw [decide_eq_false hf] at hd
    subst hd
    refine ⟨rfl, fun _ _ => rfl, rfl, ?_⟩
    have : cntRd bs most s = (0, s) := by unfold cntRd; rw [if_neg hf]
    rw [this]
    exact And.intro rfl rfl
end Go.Lv

namespace Go.Lv
open Go.Proofs

noncomputable def repRd (bs : List Int) (s : Rd) : Rep × Rd :=
  let a := numRd bs s
  let b := numRd bs a.2
  let c := numRd bs b.2
  let d := numRd bs c.2
  if d.2.fw = 0 then (⟨a.1, b.1, c.1, d.1⟩, d.2) else (rep0, d.2)
theorem repRd_pos {bs : List Int} {s : Rd} (h : s.p ≤ bs.length) : (repRd bs s).2.p ≤ bs.length := by
  have := numRd_pos (numRd_pos (numRd_pos (numRd_pos h)))
  unfold repRd
  simp only
  split <;> exact this
/-- GetReply. -/
theorem t45 (bs : List Int) (hb : bs.length ≤ 100000000000000) (s : Rd) (hp : s.p ≤ bs.length) :
    Tri Try.prog 45 0 [.gptr 0 0] (stRd bs s) (fun d l => d = encR (repRd bs s).1 ∧ l = stRd bs (repRd bs s).2) := by
  refine Tri.walk2 (L := LT) (c := {n := 24}) [(44, 1, [])] [0, 2, 3, 21] hLT hmix Try.func45 rfl rfl ⟨rfl, rfl⟩ (by show 1 ≤ 24; decide) (Nat.zero_le _) ?_
  unfold repRd
  simp only
  have hp1 := numRd_pos hp
  have hp2 := numRd_pos hp1
  have hp3 := numRd_pos hp2
  have c0 := t44 bs hb s hp
  have c1 := t44 bs hb _ hp1
  have c2 := t44 bs hb _ hp2
  have c3 := t44 bs hb _ hp3
  generalize numRd bs s = x0 at *
  obtain ⟨v0, s0'⟩ := x0
  generalize numRd bs s0' = x1 at *
  obtain ⟨v1, s1'⟩ := x1
  generalize numRd bs s1' = x2 at *
  obtain ⟨v2, s2'⟩ := x2
  generalize numRd bs s2' = x3 at *
  obtain ⟨v3, s3'⟩ := x3
  refine ⟨rfl, Nat.le_refl 0, c0.mono ?_⟩
  rintro d l ⟨rfl, rfl⟩
  refine ⟨rfl, fun k hk => absurd hk (Nat.not_lt_zero k), rfl, ?_⟩
  refine ⟨rfl, Nat.le_refl 0, c1.mono ?_⟩
  rintro d l ⟨rfl, rfl⟩
  refine ⟨rfl, fun k hk => absurd hk (Nat.not_lt_zero k), rfl, ?_⟩
  refine ⟨rfl, Nat.le_refl 0, c2.mono ?_⟩
  rintro d l ⟨rfl, rfl⟩
  refine ⟨rfl, fun k hk => absurd hk (Nat.not_lt_zero k), rfl, ?_⟩
  refine ⟨rfl, Nat.le_refl 0, c3.mono ?_⟩
  rintro d l ⟨rfl, rfl⟩
  refine ⟨rfl, fun k hk => absurd hk (Nat.not_lt_zero k), rfl, ?_⟩
  refine ⟨rfl, Nat.zero_le 1, ((t43_0 s3'.fa s3'.fw).pure rfl rfl rfl rfl (r := 1) (sto := stRd bs s3') (Nat.le_refl 1)).mono ?_⟩
  rintro d l ⟨hd, rfl⟩
  by_cases hf : s3'.fw = 0
  · rw [decide_eq_true hf] at hd
    subst hd
    refine ⟨rfl, fun _ _ => rfl, rfl, ?_⟩
    rw [if_pos hf]
    exact And.intro rfl rfl
  · rw [decide_eq_false hf] at hd
    subst hd
    refine ⟨rfl, fun _ _ => rfl, rfl, ?_⟩
    rw [if_neg hf]
    exact And.intro rfl rfl
/-- Read. -/
theorem t23_0 (bs : List Int) (hb : bs.length ≤ 100000000000000) : Tri Try.prog 23 0 [.list .imm (bs.map rowB)] [] (fun d l => d = .gptr 0 0 ∧ l = stRd bs ⟨0, 0, 0⟩) := by
  refine Tri.walk2 (L := LT) (c := {n := 7, ko := [2], gl := [6]}) [] [0, 2] hLT hmix Try.func23 rfl rfl ⟨rfl, rfl⟩ (by show 1 ≤ 7; decide) (Nat.zero_le _) ?_
  refine ⟨rfl, Nat.le_refl 0, (t41_0 bs hb 0 (by omega) (by omega)).mono ?_⟩
  rintro d l ⟨rfl, rfl⟩
  refine ⟨rfl, fun _ _ => rfl, rfl, ?_⟩
  exact And.intro rfl rfl
noncomputable def endRd (bs : List Int) (s : Rd) : Int × Rd := if s.fw = 0 ∧ s.p < bs.length then (5, ⟨s.p, 5, s.p⟩) else (s.fw, s)
/-- End. -/
theorem t30 (bs : List Int) (s : Rd) :
    Tri Try.prog 30 0 [.gptr 0 0] (stRd bs s) (fun d l => d = .int .i64 (endRd bs s).1 ∧ l = stRd bs (endRd bs s).2) := by
  refine Tri.walk2 (L := LT) (c := {n := 33, ko := [2]}) [(49, 1, [])] [0, 2, 4, 21] hLT hmix Try.func30 rfl rfl ⟨rfl, rfl⟩ (by show 1 ≤ 33; decide) (Nat.zero_le _) ?_
  refine And.intro (fun h => by cases h) (fun _ => ?_)
  refine ⟨⟨131071, [0, 1, 2, 4, 8, 16, 32, 96, 160, 288, 32, 1056, 2080, 4128, 8224, 16928, 32800], [1, 3, 7, 15, 31, 63, 127, 255, 511, 1023, 1087, 3135, 7231, 15423, 31807, 65535, 131071]⟩, by kernel_rfl, ?_⟩
  refine And.intro ?_ trivial
  refine ⟨rfl, Nat.zero_le 1, ((t43_0 s.fa s.fw).pure rfl rfl rfl rfl (r := 1) (sto := stRd bs s) (Nat.le_refl 1)).mono ?_⟩
  rintro d l ⟨hd, rfl⟩
  unfold endRd
  by_cases hf : s.fw = 0
  · rw [decide_eq_true hf] at hd
    subst hd
    refine ⟨rfl, fun _ _ => rfl, rfl, ?_⟩
    refine And.intro trivial ?_
    refine And.intro (fun _ => ?_) (fun h => by cases h)
    refine And.intro (fun h => ?_) (fun h => ?_)
    · have h : ((s.p : Nat) : Int) < ((bs.map rowB).length : Int) := of_decide_eq_true h
      rw [List.length_map] at h
      refine And.intro (fun _ => ?_) (fun h => by cases h)
      refine ⟨rfl, Nat.le_refl 0, (t49 s.fa s.fw s.p s.p 5 bs).mono ?_⟩
      rintro d l ⟨rfl, rfl⟩
      refine ⟨rfl, fun k hk => absurd hk (Nat.not_lt_zero k), rfl, ?_⟩
      rw [if_pos ⟨hf, by omega⟩]
      exact And.intro rfl rfl
    · have h : ¬ ((s.p : Nat) : Int) < ((bs.map rowB).length : Int) := of_decide_eq_false h
      rw [List.length_map] at h
      refine And.intro (fun h => by cases h) (fun _ => ?_)
      rw [if_neg (fun q => h (by omega))]
      exact And.intro rfl rfl
  · rw [decide_eq_false hf] at hd
    subst hd
    refine ⟨rfl, fun _ _ => rfl, rfl, ?_⟩
    refine And.intro trivial ?_
    rw [if_neg (fun q => hf q.1)]
    refine And.intro (fun h => by cases h) (fun _ => ?_)
    refine And.intro (fun h => by cases h) (fun _ => ?_)
    exact And.intro rfl rfl
/-- What uses a reader, wherever it stands. -/
theorem Tri.rdRW {f : Nat} {bs : List Int} {s s' : Rd} {args : List D} {d : D} (h : Tri Try.prog f 0 (.gptr 0 0 :: args) (stRd bs s) (fun d' l => d' = d ∧ l = stRd bs s')) (ha : args.all cellsOK = true) (hn : nrBL 0 args = true) (hd : partsOK d = true) (hdn : nrB 0 d = true)
    {r b : Nat} {sto : List Ob} (hr : r ≤ sto.length) (hb : sto[b]? = some (.box [.int .i64 s.fa, .int .i64 s.fw, .list .imm (bs.map rowB), .int .i64 (s.p : Int)])) (hbr : r ≤ b) :
    Tri Try.prog f r (.gptr b 0 :: args) sto (fun d' l => d' = d ∧ l = sto.set b (.box [.int .i64 s'.fa, .int .i64 s'.fw, .list .imm (bs.map rowB), .int .i64 (s'.p : Int)])) := by
  have hre : ∀ (t : Rd) (ρ : Nat → Nat), renO ρ (.box [.int .i64 t.fa, .int .i64 t.fw, .list .imm (bs.map rowB), .int .i64 (t.p : Int)]) = .box [.int .i64 t.fa, .int .i64 t.fw, .list .imm (bs.map rowB), .int .i64 (t.p : Int)] := fun t ρ => by
    show Ob.box [.int .i64 t.fa, .int .i64 t.fw, .list .imm (renLL ρ (bs.map rowB)), .int .i64 (t.p : Int)] = _
    rw [renLL_id ρ (nrBLL_B bs)]
  have := Tri.ren (r := r) (sto := sto) (fun _ => b) h (fun i j hi hj e => by
      have hi : i < 1 := hi
      have hj : j < 1 := hj
      omega) (fun i o hi => by
      match i, hi with
      | 0, hi => simp [stRd, stR] at hi; subst hi; rw [hre]; exact hb
      | i + 1, hi => simp [stRd, stR] at hi) (fun i hi => ⟨fun h => absurd h (Nat.not_lt_zero _), fun h => by have : b < r := h; omega⟩) hr (by show (true && args.all cellsOK) = true; rw [ha]; rfl) (fun x hx => by
      rcases List.mem_cons.1 hx with e | hx
      · rw [e]; exact .gptr _ _ (by show 0 < 1; omega)
      · exact (nrBL_nr hn x hx).up (Nat.zero_le _)) (fun o ho => by
      have : o = .box [.int .i64 s.fa, .int .i64 s.fw, .list .imm (bs.map rowB), .int .i64 (s.p : Int)] := by simpa [stRd, stR] using ho
      rw [this]
      refine (nrO_nr (k := 0) (o := .box _) ?_ : NRo 0 _) |> fun h d hd => (h d hd).up (Nat.zero_le _)
      show (nrBLL 0 (bs.map rowB) && true) = true
      rw [nrBLL_B]
      rfl) rfl (fun d l ⟨h1, h2⟩ => by subst h1; subst h2; exact ⟨hd, rfl⟩)
  rw [show renL (fun _ => b) (.gptr 0 0 :: args) = .gptr b 0 :: args by show D.gptr b 0 :: renL (fun _ => b) args = _; rw [renL_id _ hn]] at this
  refine this.mono fun d' l ⟨d1, l1, ⟨h1, h2⟩, h3, h4⟩ => ?_
  subst h1; subst h2
  refine ⟨by rw [h3, renD_id _ hdn], ?_⟩
  rw [h4]
  show (sto.set b (renO _ (.box [.int .i64 s'.fa, .int .i64 s'.fw, .list .imm (bs.map rowB), .int .i64 (s'.p : Int)]))) ++ [] = _
  rw [List.append_nil, hre]
end Go.Lv

namespace Go.Lv
open Go.Proofs

structure GS where
  rd : Rd
  last : Int
  ok : Bool
  m : Tbl
noncomputable def rndG (bs : List Int) (g : GS) : GS := ⟨(repRd bs (numRd bs (numRd bs g.rd).2).2).2, (numRd bs g.rd).1, g.ok && (decide ((numRd bs g.rd).1 > g.last) && rightZ (numRd bs g.rd).1 (numRd bs (numRd bs g.rd).2).1), setT (numRd bs g.rd).1 ⟨(numRd bs (numRd bs g.rd).2).1, (repRd bs (numRd bs (numRd bs g.rd).2).2).1⟩ g.m⟩
noncomputable def getG (bs : List Int) : Nat → GS → GS
  | 0, g => g
  | f + 1, g => if g.rd.fw = 0 then getG bs f (rndG bs g) else g
noncomputable def stG (bs : List Int) (s : Rd) (m : Tbl) : List Ob := [.box [.int .i64 s.fa, .int .i64 s.fw, .list .imm (bs.map rowB), .int .i64 (s.p : Int)], .map (encT m), .box [.map 1]]
noncomputable def allG (bs : List Int) (s : Rd) : GS := getG bs (cntRd bs 16 s).1.toNat ⟨(cntRd bs 16 s).2, 0, true, []⟩
theorem cntRd_pos {bs : List Int} {s : Rd} {n : Int} (h : s.p ≤ bs.length) : (cntRd bs n s).2.p ≤ bs.length := by
  unfold cntRd
  split
  · split
    · exact h
    · exact numRd_pos h
  · exact h
theorem numL_err : ∀ (l : List Int) (k : Nat) (u : Int) (p : Nat), (numL l k u p).1 ≠ 0 → (numL l k u p).2.1 = 0
  | [], k, u, p, _ => rfl
  | c :: r, k, u, p, h => by
    unfold numL at h ⊢
    split at h
    · rename_i hb
      rw [if_pos hb]
    · rename_i hb
      rw [if_neg hb]
      split at h
      · rename_i hc
        rw [if_pos hc]
        exact numL_err r _ _ _ h
      · rename_i hc
        rw [if_neg hc]
        split at h
        · rename_i h0
          rw [if_pos h0]
        · exact absurd rfl h
theorem cntRd_le {bs : List Int} {s : Rd} {n : Int} (hn : 0 ≤ n) : (cntRd bs n s).1 ≤ n := by
  unfold cntRd
  split
  · rename_i hf
    split
    · exact hn
    · rename_i h
      by_cases hz : (numRd bs s).2.fw = 0
      · have : ¬ (numRd bs s).1 > n := fun h' => h ⟨hz, .inr h'⟩
        omega
      · have : (numRd bs s).1 = 0 := by
          unfold numRd at hz ⊢
          rw [if_pos hf] at hz ⊢
          simp only at hz ⊢
          split at hz
          · exact absurd hf hz
          · rename_i he
            exact numL_err _ _ _ _ he
        rw [this]
        exact hn
  · exact hn
theorem rndG_pos {bs : List Int} {g : GS} (h : g.rd.p ≤ bs.length) : (rndG bs g).rd.p ≤ bs.length := repRd_pos (numRd_pos (numRd_pos h))
noncomputable def sG (bs : List Int) (n : Int) (i : Nat) (g : GS) : DS := ⟨[(0, .gptr 0 0), (4, .gptr 2 0), (5, .int .i64 g.last), (6, .bool g.ok), (7, .int .i64 n), (8, .int .i64 (i : Int)), (2, .nil), (3, .bool false)], [], stG bs g.rd g.m, mR 0⟩
noncomputable def M25 : Ms := [(42, 1, []), (44, 1, []), (45, 1, [])]
noncomputable def lv25 : List Nat := [0, 2, 3, 4, 5, 6, 7, 8, 9, 10, 11, 24, 62]
set_option maxHeartbeats 8000000 in
theorem t25 (bs : List Int) (hb : bs.length ≤ 100000000000000) (s : Rd) (hp : s.p ≤ bs.length) :
    Tri Try.prog 25 0 [.gptr 0 0] (stRd bs s) (fun d l => (d = if (allG bs s).ok = true ∧ (allG bs s).rd.fw = 0 then .tup [.gptr 2 0, .bool true] else .tup [.nil, .bool false]) ∧ l = stG bs (allG bs s).rd (allG bs s).m) := by
  refine Tri.walk2 (L := LT) (c := {n := 64, ko := [2, 3]}) M25 lv25 hLT hmix Try.func25 rfl rfl ⟨rfl, rfl⟩ (by show 1 ≤ 64; decide) (Nat.zero_le _) ?_
  refine ⟨rfl, Nat.zero_le 1, (t10R (r := 1) (sto := stRd bs s) (Nat.le_refl 1)).mono ?_⟩
  rintro d l ⟨rfl, rfl⟩
  refine ⟨rfl, fun k hk => List.getElem?_append_left (show k < (stRd bs s).length from hk), rfl, ?_⟩
  have hc := cntRd_pos (n := 16) hp
  have hn16 : (cntRd bs 16 s).1 ≤ 16 := cntRd_le (by omega)
  unfold allG
  have ct := Tri.rdRW (t42 bs hb s hp 16) rfl rfl rfl rfl (r := 0) (b := 0) (sto := stG bs s []) (Nat.zero_le _) rfl (Nat.zero_le _)
  generalize cntRd bs 16 s = x at hc ct hn16
  obtain ⟨n, s1⟩ := x
  have hn16 : n ≤ 16 := hn16
  refine ⟨rfl, Nat.le_refl 0, ct.mono ?_⟩
  rintro d l ⟨rfl, rfl⟩
  refine ⟨rfl, fun k hk => absurd hk (Nat.not_lt_zero k), rfl, ?_⟩
  show Ok _ _ _ _ _
  refine Ok.loopN hLT hmix M25 lv25 [0, 4, 5, 6, 7, 8, 2, 3] [] (fun f t => ∃ (i : Nat) (g : GS), f = n.toNat - i ∧ i ≤ n.toNat ∧ g.rd.p ≤ bs.length ∧ getG bs (n.toNat - i) g = getG bs n.toNat ⟨s1, 0, true, []⟩ ∧ t = sG bs n i g) (n := n.toNat) ⟨0, ⟨s1, 0, true, []⟩, rfl, Nat.zero_le _, hc, rfl, rfl⟩ ?_
  rintro f t ⟨i, g, rfl, hi, hg, hall, rfl⟩
  rw [← hall]
  obtain ⟨rd, last, ok, m⟩ := g
  have hg : rd.p ≤ bs.length := hg
  refine And.intro (fun h1 => ?_) (fun h1 => ?_)
  · have h1 : ((i : Nat) : Int) < n := of_decide_eq_true h1
    have hi1 : i < n.toNat := by omega
    have hw : IntKind.i64.wrap ((i : Int) + 1) = ((i + 1 : Nat) : Int) := by
      rw [wrap64 (by omega) (by omega)]
      omega
    have hstep : n.toNat - i = (n.toNat - (i + 1)) + 1 := by omega
    refine ⟨rfl, Nat.zero_le 3, ((t43_0 rd.fa rd.fw).pure rfl rfl rfl rfl (r := 3) (sto := stG bs rd m) (Nat.le_refl 3)).mono ?_⟩
    rintro d l ⟨hd, rfl⟩
    by_cases hf : rd.fw = 0
    · rw [decide_eq_true hf] at hd
      subst hd
      refine ⟨rfl, fun _ _ => rfl, rfl, ?_⟩
      have hrnd : getG bs (n.toNat - (i + 1)) (rndG bs ⟨rd, last, ok, m⟩) = getG bs (n.toNat - i) ⟨rd, last, ok, m⟩ := by
        rw [hstep]
        unfold getG
        rw [if_pos hf]
        split
        · rename_i h; rw [h]; rfl
        · rename_i h; rw [h]; rfl
      have hpos := rndG_pos (g := ⟨rd, last, ok, m⟩) hg
      have hp1 := numRd_pos hg
      have hp2 := numRd_pos hp1
      have c0 := Tri.rdRW (t44 bs hb rd hg) rfl rfl rfl rfl (r := 0) (b := 0) (sto := stG bs rd m) (Nat.zero_le _) rfl (Nat.zero_le _)
      have c1 := Tri.rdRW (t44 bs hb _ hp1) rfl rfl rfl rfl (r := 0) (b := 0) (sto := stG bs (numRd bs rd).2 m) (Nat.zero_le _) rfl (Nat.zero_le _)
      have c2 := Tri.rdRW (t45 bs hb _ hp2) rfl rfl rfl rfl (r := 0) (b := 0) (sto := stG bs (numRd bs (numRd bs rd).2).2 m) (Nat.zero_le _) rfl (Nat.zero_le _)
      rw [← hrnd]
      have hG : rndG bs ⟨rd, last, ok, m⟩ = ⟨(repRd bs (numRd bs (numRd bs rd).2).2).2, (numRd bs rd).1, ok && (decide ((numRd bs rd).1 > last) && rightZ (numRd bs rd).1 (numRd bs (numRd bs rd).2).1), setT (numRd bs rd).1 ⟨(numRd bs (numRd bs rd).2).1, (repRd bs (numRd bs (numRd bs rd).2).2).1⟩ m⟩ := rfl
      have hp3 : (repRd bs (numRd bs (numRd bs rd).2).2).2.p ≤ bs.length := hpos
      clear hpos
      generalize numRd bs rd = x0 at c0 c1 c2 hG hp3
      obtain ⟨k, s0'⟩ := x0
      generalize numRd bs s0' = x1 at c1 c2 hG hp3
      obtain ⟨q, s1'⟩ := x1
      generalize repRd bs s1' = x2 at c2 hG hp3
      obtain ⟨r, s2'⟩ := x2
      refine ⟨rfl, Nat.le_refl 0, c0.mono ?_⟩
      rintro d l ⟨rfl, rfl⟩
      refine ⟨rfl, fun k hk => absurd hk (Nat.not_lt_zero k), rfl, ?_⟩
      refine ⟨rfl, Nat.le_refl 0, c1.mono ?_⟩
      rintro d l ⟨rfl, rfl⟩
      refine ⟨rfl, fun k hk => absurd hk (Nat.not_lt_zero k), rfl, ?_⟩
      refine ⟨rfl, Nat.le_refl 0, c2.mono ?_⟩
      rintro d l ⟨rfl, rfl⟩
      refine ⟨rfl, fun k hk => absurd hk (Nat.not_lt_zero k), rfl, ?_⟩
      cases ok with
      | false =>
        refine ⟨⟨255, [0, 1, 2, 4, 0, 0, 0, 96, 255], [1, 3, 7, 15, 16, 32, 64, 224, 511]⟩, by kernel_rfl, ?_⟩
        refine And.intro ?_ trivial
        refine And.intro ⟨Nat.zero_le 1, rfl, rfl⟩ ?_
        refine Exists.intro (encT (setT k ⟨q, r⟩ m)) ?_
        refine And.intro (setEnt k ⟨q, r⟩ m) ?_
        refine And.intro trivial ?_
        refine ⟨n.toNat - (i + 1), by omega, i + 1, ⟨s2', k, false, setT k ⟨q, r⟩ m⟩, rfl, by omega, hp3, by rw [hG]; rfl, ?_⟩
        unfold sG
        rw [← hw]
        rfl
      | true =>
        refine And.intro (fun h5 => ?_) (fun h5 => ?_)
        · have h5 : k > last := of_decide_eq_true h5
          refine ⟨rfl, Nat.zero_le 3, (t31 k q (r := 3) (sto := stG bs s2' m) (Nat.le_refl 3)).mono ?_⟩
          rintro d l ⟨rfl, rfl⟩
          refine ⟨rfl, fun _ _ => rfl, rfl, ?_⟩
          cases hr : rightZ k q with
          | true =>
            refine ⟨⟨255, [0, 1, 2, 4, 0, 0, 0, 96, 255], [1, 3, 7, 15, 16, 32, 64, 224, 511]⟩, by kernel_rfl, ?_⟩
            refine And.intro ?_ trivial
            refine And.intro ⟨Nat.zero_le 1, rfl, rfl⟩ ?_
            refine Exists.intro (encT (setT k ⟨q, r⟩ m)) ?_
            refine And.intro (setEnt k ⟨q, r⟩ m) ?_
            refine And.intro trivial ?_
            refine ⟨n.toNat - (i + 1), by omega, i + 1, ⟨s2', k, true, setT k ⟨q, r⟩ m⟩, rfl, by omega, hp3, by rw [hG]; simp only [decide_eq_true h5, hr]; rfl, ?_⟩
            unfold sG
            rw [← hw]
            rfl
          | false =>
            refine ⟨⟨255, [0, 1, 2, 4, 0, 0, 0, 96, 255], [1, 3, 7, 15, 16, 32, 64, 224, 511]⟩, by kernel_rfl, ?_⟩
            refine And.intro ?_ trivial
            refine And.intro ⟨Nat.zero_le 1, rfl, rfl⟩ ?_
            refine Exists.intro (encT (setT k ⟨q, r⟩ m)) ?_
            refine And.intro (setEnt k ⟨q, r⟩ m) ?_
            refine And.intro trivial ?_
            refine ⟨n.toNat - (i + 1), by omega, i + 1, ⟨s2', k, false, setT k ⟨q, r⟩ m⟩, rfl, by omega, hp3, by rw [hG]; simp only [decide_eq_true h5, hr]; rfl, ?_⟩
            unfold sG
            rw [← hw]
            rfl
        · have h5 : ¬ k > last := of_decide_eq_false h5
          refine ⟨⟨255, [0, 1, 2, 4, 0, 0, 0, 96, 255], [1, 3, 7, 15, 16, 32, 64, 224, 511]⟩, by kernel_rfl, ?_⟩
          refine And.intro ?_ trivial
          refine And.intro ⟨Nat.zero_le 1, rfl, rfl⟩ ?_
          refine Exists.intro (encT (setT k ⟨q, r⟩ m)) ?_
          refine And.intro (setEnt k ⟨q, r⟩ m) ?_
          refine And.intro trivial ?_
          refine ⟨n.toNat - (i + 1), by omega, i + 1, ⟨s2', k, false, setT k ⟨q, r⟩ m⟩, rfl, by omega, hp3, by rw [hG]; simp only [decide_eq_false h5]; rfl, ?_⟩
          unfold sG
          rw [← hw]
          rfl
    · rw [decide_eq_false hf] at hd
      subst hd
      refine ⟨rfl, fun _ _ => rfl, rfl, ?_⟩
      have hfin : getG bs (n.toNat - i) ⟨rd, last, ok, m⟩ = ⟨rd, last, ok, m⟩ := by
        rw [hstep]
        unfold getG
        rw [if_neg hf]
      rw [hfin]
      cases ok with
      | true =>
        refine ⟨rfl, Nat.zero_le 3, ((t43_0 rd.fa rd.fw).pure rfl rfl rfl rfl (r := 3) (sto := stG bs rd m) (Nat.le_refl 3)).mono ?_⟩
        rintro d l ⟨hd, rfl⟩
        by_cases hf : rd.fw = 0
        · rw [decide_eq_true hf] at hd
          subst hd
          refine ⟨rfl, fun _ _ => rfl, rfl, ?_⟩
          refine And.intro ?_ rfl
          rw [if_pos ⟨rfl, hf⟩]
        · rw [decide_eq_false hf] at hd
          subst hd
          refine ⟨rfl, fun _ _ => rfl, rfl, ?_⟩
          refine And.intro ?_ rfl
          rw [if_neg (fun h => hf h.2)]
      | false =>
        refine And.intro ?_ rfl
        rw [if_neg (fun h => by cases h.1)]
  · have h1 : ¬ ((i : Nat) : Int) < n := of_decide_eq_false h1
    have hfin : getG bs (n.toNat - i) ⟨rd, last, ok, m⟩ = ⟨rd, last, ok, m⟩ := by
      rw [show n.toNat - i = 0 by omega]
      rfl
    rw [hfin]
    cases ok with
    | true =>
      refine ⟨rfl, Nat.zero_le 3, ((t43_0 rd.fa rd.fw).pure rfl rfl rfl rfl (r := 3) (sto := stG bs rd m) (Nat.le_refl 3)).mono ?_⟩
      rintro d l ⟨hd, rfl⟩
      by_cases hf : rd.fw = 0
      · rw [decide_eq_true hf] at hd
        subst hd
        refine ⟨rfl, fun _ _ => rfl, rfl, ?_⟩
        refine And.intro ?_ rfl
        rw [if_pos ⟨rfl, hf⟩]
      · rw [decide_eq_false hf] at hd
        subst hd
        refine ⟨rfl, fun _ _ => rfl, rfl, ?_⟩
        refine And.intro ?_ rfl
        rw [if_neg (fun h => hf h.2)]
    | false =>
      refine And.intro ?_ rfl
      rw [if_neg (fun h => by cases h.1)]
end Go.Lv

namespace Go.Lv
open Go.Proofs

theorem wrap8 (z : Int) : IntKind.u8.wrap z = z % 256 := by simp [IntKind.wrap, IntKind.bits, IntKind.signed]
theorem ofInt8 (z : Int) : (BitVec.ofInt 8 (z % 256)).toNat = (z % 256).toNat := by
  rw [BitVec.toNat_ofInt]
  omega
theorem or128 : ∀ x : Nat, x < 256 → (x ||| 128) = x % 128 + 128 := by decide +kernel
theorem and127 : ∀ x : Nat, x < 256 → (x &&& 127) = x % 128 := by decide +kernel
theorem orB_eq (w : Int) : orB w = w % 128 + 128 := by
  show IntKind.u8.wrap ((BitVec.ofInt 8 (IntKind.u8.wrap w) ||| BitVec.ofInt 8 128).toNat : Int) = _
  rw [wrap8, wrap8, BitVec.toNat_or, ofInt8, show (BitVec.ofInt 8 128).toNat = 128 by decide, or128 _ (by omega)]
  omega
theorem grp_eq {c : Int} (h0 : 0 ≤ c) (h1 : c < 256) : grp c = c % 128 := by
  show IntKind.u64.wrap (IntKind.u8.wrap ((BitVec.ofInt 8 c &&& BitVec.ofInt 8 127).toNat : Int)) = _
  have : c = c % 256 := by omega
  rw [wrapU, wrap8, BitVec.toNat_and, show BitVec.ofInt 8 c = BitVec.ofInt 8 (c % 256) by rw [← this], ofInt8, show (BitVec.ofInt 8 127).toNat = 127 by decide, and127 _ (by omega)]
  omega
theorem ofInt64 {z : Int} (h0 : 0 ≤ z) (h1 : z < 18446744073709551616) : (BitVec.ofInt 64 z).toNat = z.toNat := by
  rw [BitVec.toNat_ofInt]
  omega
theorem orU_eq {u c : Int} {k : Nat} (hk : k ≤ 9) (hu0 : 0 ≤ u) (hu1 : u < 128 ^ k) (hc0 : 0 ≤ c) (hc1 : c < 256) (ht : u + (c % 128) * 128 ^ k < 18446744073709551616) : orU u c k = u + (c % 128) * 128 ^ k := by
  have hmin : min (7 * k) IntKind.u64.bits = 7 * k := Nat.min_eq_left (by show 7 * k ≤ 64; omega)
  have hpow : (2 : Int) ^ (7 * k) = 128 ^ k := by rw [Int.pow_mul]; rfl
  have hpos : (0 : Int) < 128 ^ k := Int.pow_pos (by omega)
  have hm : 0 ≤ (c % 128) * 128 ^ k := Int.mul_nonneg (by omega) (by omega)
  show IntKind.u64.wrap ((BitVec.ofInt 64 u ||| BitVec.ofInt 64 (IntKind.u64.wrap (grp c * 2 ^ min (7 * k) IntKind.u64.bits))).toNat : Int) = _
  rw [hmin, hpow, grp_eq hc0 hc1, wrapU, wrapU, Int.emod_eq_of_lt hm (by omega), BitVec.toNat_or, ofInt64 hu0 (by omega), ofInt64 hm (by omega)]
  have e1 : ((c % 128) * 128 ^ k).toNat = (c % 128).toNat <<< (7 * k) := by
    rw [Nat.shiftLeft_eq]
    have : ((c % 128) * 128 ^ k) = (((c % 128).toNat * 2 ^ (7 * k) : Nat) : Int) := by
      rw [Int.natCast_mul, Int.natCast_pow, ← hpow]
      have : (((c % 128).toNat : Nat) : Int) = c % 128 := by omega
      rw [this]
      rfl
    rw [this, Int.toNat_natCast]
  have hlt : u.toNat < 2 ^ (7 * k) := by
    have : (u.toNat : Int) < ((2 ^ (7 * k) : Nat) : Int) := by
      rw [Int.natCast_pow]
      have : ((2 : Nat) : Int) ^ (7 * k) = 128 ^ k := hpow
      rw [this]
      omega
    exact Int.ofNat_lt.1 this
  rw [e1, Nat.or_comm, ← Nat.shiftLeft_add_eq_or_of_lt hlt, ← e1]
  rw [Int.emod_eq_of_lt (by omega) (by omega)]
  omega

theorem numL_last {k p : Nat} {w acc : Int} {rest : List Int} (hk : k ≤ 9) (hw0 : 0 ≤ w) (hw1 : w < 128) (h9 : (k : Int) = 9 → w ≤ 1) (ha0 : 0 ≤ acc) (ha1 : acc < 128 ^ k) (ht : acc + w * 128 ^ k < 18446744073709551616) (hz : k > 0 → w ≥ 1) :
    numL (IntKind.u8.wrap w :: rest) k acc p = (0, zagU (acc + w * 128 ^ k), p + 1) := by
  have e : IntKind.u8.wrap w = w := by rw [wrap8]; omega
  rw [e]
  have em : w % 128 = w := by omega
  rw [numL_ok (fun h => by have := h9 h.1; omega) (by omega) (fun h => by have := hz (by omega); omega), orU_eq hk ha0 ha1 hw0 (by omega) (by rw [em]; exact ht), em]
theorem numL_put : ∀ (f k p : Nat) (w acc : Int) (rest : List Int), k + f = 9 → 0 ≤ w → w < 128 ^ (f + 1) → 0 ≤ acc → acc < 128 ^ k → acc + w * 128 ^ k < 18446744073709551616 → (k > 0 → w ≥ 1) →
    numL (putB f w ++ rest) k acc p = (0, zagU (acc + w * 128 ^ k), p + (putB f w).length)
  | 0, k, p, w, acc, rest, hkf, hw0, hw1, ha0, ha1, ht, hz => by
    have hk : k = 9 := by omega
    subst hk
    have hw1 : w < 128 := by simpa using hw1
    have h9 : (128 : Int) ^ 9 = 9223372036854775808 := by decide
    refine numL_last (by omega) hw0 hw1 (fun _ => ?_) ha0 ha1 ht hz
    rw [h9] at ht
    omega
  | f + 1, k, p, w, acc, rest, hkf, hw0, hw1, ha0, ha1, ht, hz => by
    by_cases hge : w ≥ 128
    · have hput : putB (f + 1) w = orB w :: putB f (sh7 w) := by
        conv => lhs; unfold putB
        rw [if_pos hge]
      have hb := orB_eq w
      have hs := sh7_lt hw0 hw1
      have hs7 : sh7 w = w / 128 := sh7_eq
      have hP : (0 : Int) < 128 ^ k := Int.pow_pos (by omega)
      have hP1 : (128 : Int) ^ (k + 1) = 128 * 128 ^ k := pow128 k
      have hsplit : w * 128 ^ k = (w / 128) * (128 * 128 ^ k) + (w % 128) * 128 ^ k := by
        have h := Int.mul_ediv_add_emod w 128
        conv => lhs; rw [← h]
        rw [Int.add_mul, Int.mul_comm 128 (w / 128), Int.mul_assoc]
      have hm0 : 0 ≤ (w % 128) * 128 ^ k := Int.mul_nonneg (by omega) (by omega)
      have hm1 : (w % 128) * 128 ^ k ≤ 127 * 128 ^ k := Int.mul_le_mul_of_nonneg_right (by omega) (by omega)
      have hd0 : 0 ≤ (w / 128) * (128 * 128 ^ k) := Int.mul_nonneg (by omega) (by omega)
      have hc : (w % 128 + 128) % 128 = w % 128 := by omega
      rw [hput, List.cons_append, numL_more (fun h => by
        have : k ≤ 8 := by omega
        omega) (by rw [hb]; omega), orU_eq (by omega) ha0 ha1 (by rw [hb]; omega) (by rw [hb]; omega) (by rw [hb, hc]; omega), hb, hc]
      rw [numL_put f (k + 1) (p + 1) (sh7 w) (acc + (w % 128) * 128 ^ k) rest (by omega) hs.1 hs.2 (by omega) (by rw [hP1]; omega) (by rw [hs7, hP1]; omega) (fun _ => by rw [hs7]; omega)]
      rw [hs7, hP1]
      have e : acc + (w % 128) * 128 ^ k + (w / 128) * (128 * 128 ^ k) = acc + w * 128 ^ k := by rw [hsplit]; omega
      rw [e]
      simp only [List.length_cons]
      congr 2
      omega
    · have hput : putB (f + 1) w = [IntKind.u8.wrap w] := putB_end hge
      rw [hput]
      exact numL_last (by omega) hw0 (by omega) (fun h => by omega) ha0 ha1 ht hz
theorem zag_form {w u : Int} (hw0 : 0 ≤ w) (hw1 : w < 18446744073709551616) (hu : w / 2 = u) : zagU w = IntKind.i64.wrap ((BitVec.ofInt 64 (IntKind.i64.wrap u) ^^^ BitVec.ofInt 64 (IntKind.i64.wrap (0 - IntKind.i64.wrap (IntKind.u64.wrap (w % 2))))).toNat : Int) := by
  have hf : w.fdiv (2 ^ min (Int.toNat 1) IntKind.u64.bits) = u := by
    rw [show (2 : Int) ^ min (Int.toNat 1) IntKind.u64.bits = 2 by decide, Int.fdiv_eq_ediv_of_nonneg _ (by omega), hu]
  have ha : (((BitVec.ofInt 64 w &&& BitVec.ofInt 64 1).toNat : Nat) : Int) = w % 2 := by
    rw [BitVec.toNat_and, ofInt64 hw0 hw1, show (BitVec.ofInt 64 1).toNat = 1 by decide, Nat.and_one_is_mod]
    omega
  show IntKind.i64.wrap ((BitVec.ofInt 64 (IntKind.i64.wrap (w.fdiv (2 ^ min (Int.toNat 1) IntKind.u64.bits))) ^^^ BitVec.ofInt 64 (IntKind.i64.wrap (0 - IntKind.i64.wrap (IntKind.u64.wrap ((BitVec.ofInt 64 w &&& BitVec.ofInt 64 1).toNat : Int))))).toNat : Int) = _
  rw [hf, ha]
theorem zag_nonneg {u : Int} (h0 : 0 ≤ u) (h1 : u < 9223372036854775808) : zagU (2 * u) = u := by
  have e : IntKind.i64.wrap (0 - IntKind.i64.wrap (IntKind.u64.wrap 0)) = 0 := by decide +kernel
  have eu : IntKind.i64.wrap u = u := wrap64 (by omega) (by omega)
  rw [zag_form (u := u) (by omega) (by omega) (by omega), show 2 * u % 2 = 0 by omega, e, eu, show BitVec.ofInt 64 0 = 0#64 by decide, BitVec.xor_zero, ofInt64 h0 (by omega), wrap64 (by omega) (by omega)]
  omega
theorem zag_neg {u : Int} (h0 : 0 ≤ u) (h1 : u < 9223372036854775808) : zagU (2 * u + 1) = -u - 1 := by
  have e : IntKind.i64.wrap (0 - IntKind.i64.wrap (IntKind.u64.wrap 1)) = -1 := by decide +kernel
  have eu : IntKind.i64.wrap u = u := wrap64 (by omega) (by omega)
  rw [zag_form (u := u) (by omega) (by omega) (by omega), show (2 * u + 1) % 2 = 1 by omega, e, eu, show BitVec.ofInt 64 (-1) = BitVec.allOnes 64 by decide, BitVec.xor_allOnes, BitVec.toNat_not, ofInt64 h0 (by omega), IntKind.wrap_i64]
  omega
theorem zu_eq {n : Int} : zu n = (2 * n) % 18446744073709551616 := by
  unfold zu
  rw [show (2 : Int) ^ min (Int.toNat 1) IntKind.u64.bits = 2 by decide, wrapU, wrapU]
  omega
theorem zn_eq {u : Int} (h0 : 0 ≤ u) (h1 : u < 18446744073709551616) : zn u = 18446744073709551615 - u := by
  show IntKind.u64.wrap ((BitVec.ofInt 64 18446744073709551615 ^^^ BitVec.ofInt 64 u).toNat : Int) = _
  rw [show BitVec.ofInt 64 18446744073709551615 = BitVec.allOnes 64 by decide, BitVec.allOnes_xor, BitVec.toNat_not, ofInt64 h0 h1, wrapU]
  omega
theorem zag_zig {n : Int} (h1 : -9223372036854775808 ≤ n) (h2 : n ≤ 9223372036854775807) : zagU (zigU n) = n := by
  unfold zigU
  split
  · rename_i h
    obtain ⟨r1, r2⟩ := zu_range n
    rw [zn_eq r1 r2, zu_eq]
    have : 18446744073709551615 - (2 * n) % 18446744073709551616 = 2 * (-n - 1) + 1 := by omega
    rw [this, zag_neg (by omega) (by omega)]
    omega
  · rename_i h
    rw [zu_eq]
    have : (2 * n) % 18446744073709551616 = 2 * n := by omega
    rw [this, zag_nonneg (by omega) (by omega)]
theorem numL_num {n : Int} (h1 : -9223372036854775808 ≤ n) (h2 : n ≤ 9223372036854775807) (p : Nat) (rest : List Int) : numL (numB n ++ rest) 0 0 p = (0, n, p + (numB n).length) := by
  obtain ⟨r1, r2⟩ := zigU_range n
  have h9 : (128 : Int) ^ (9 + 1) = 1180591620717411303424 := by decide
  have := numL_put 9 0 p (zigU n) 0 rest rfl r1 (by rw [h9]; omega) (by omega) (by decide) (by rw [Int.pow_zero]; omega) (fun h => by omega)
  unfold numB
  rw [this, Int.pow_zero, Int.mul_one, Int.zero_add, zag_zig h1 h2]
end Go.Lv

namespace Go.Lv
open Go.Proofs

theorem drop_more {bs a t : List Int} {p : Nat} (h : bs.drop p = a ++ t) : bs.drop (p + a.length) = t := by
  rw [← List.drop_drop, h, List.drop_left]
theorem numRd_num {bs t : List Int} {fa n : Int} {p : Nat} (h : bs.drop p = numB n ++ t) (hn : in64' n) : numRd bs ⟨fa, 0, p⟩ = (n, ⟨fa, 0, p + (numB n).length⟩) := by
  unfold numRd
  simp only [h, numL_num hn.1 hn.2, if_true]
theorem repRd_rep {bs t : List Int} {fa : Int} {r : Rep} {p : Nat} (h : bs.drop p = repB r ++ t) (hr : inRep r) : repRd bs ⟨fa, 0, p⟩ = (r, ⟨fa, 0, p + (repB r).length⟩) := by
  have e : repB r ++ t = numB r.why ++ (numB r.st ++ (numB r.dr ++ (numB r.tm ++ t))) := by simp only [repB, List.append_assoc]
  rw [e] at h
  have h1 := drop_more h
  have h2 := drop_more h1
  have h3 := drop_more h2
  have q0 := numRd_num (fa := fa) h hr.1
  have q1 := numRd_num (fa := fa) h1 hr.2.1
  have q2 := numRd_num (fa := fa) h2 hr.2.2.1
  have q3 := numRd_num (fa := fa) h3 hr.2.2.2
  unfold repRd
  simp only [q0, q1, q2, q3, if_true]
  have : p + (numB r.why).length + (numB r.st).length + (numB r.dr).length + (numB r.tm).length = p + (repB r).length := by
    simp only [repB, List.length_append]
    omega
  rw [this]
theorem rndG_row {bs t : List Int} {fa last k q : Int} {r : Rep} {p : Nat} {ok : Bool} {m : Tbl} (h : bs.drop p = numB k ++ (numB q ++ (repB r ++ t))) (hk : in64' k) (hq : in64' q) (hr : inRep r) :
    rndG bs ⟨⟨fa, 0, p⟩, last, ok, m⟩ = ⟨⟨fa, 0, p + (numB k).length + (numB q).length + (repB r).length⟩, k, ok && (decide (k > last) && rightZ k q), setT k ⟨q, r⟩ m⟩ := by
  have h1 := drop_more h
  have h2 := drop_more h1
  have q0 := numRd_num (fa := fa) h hk
  have q1 := numRd_num (fa := fa) h1 hq
  have q2 := repRd_rep (fa := fa) h2 hr
  unfold rndG
  simp only [q0, q1, q2]
theorem getG_rows {bs : List Int} {fa : Int} : ∀ (l : Tbl) (p : Nat) (last : Int) (acc : Tbl), bs.drop p = rowsB l → rise l → (∀ x, x ∈ l → last < x.1) → (∀ x, x ∈ acc → x.1 ≤ last) → inTbl l → (∀ x, x ∈ l → rightZ x.1 x.2.seq = true) →
    ∃ last', getG bs l.length ⟨⟨fa, 0, p⟩, last, true, acc⟩ = ⟨⟨fa, 0, p + (rowsB l).length⟩, last', true, acc ++ l⟩
  | [], p, last, acc, h, _, _, _, _, _ => ⟨last, by simp [getG, rowsB]⟩
  | x :: r, p, last, acc, h, hr, hl, ha, hin, hok => by
    unfold rise at hr
    rw [List.pairwise_cons] at hr
    obtain ⟨i1, i2, i3⟩ := hin x (by simp)
    have h' : bs.drop p = numB x.1 ++ (numB x.2.seq ++ (repB x.2.rp ++ rowsB r)) := h
    have hstep := rndG_row (fa := fa) (last := last) (ok := true) (m := acc) h' i1 i2 i3
    have hgt : decide (x.1 > last) = true := decide_eq_true (hl x (by simp))
    rw [hgt, hok x (by simp)] at hstep
    have hnew : x.1 ∉ acc.map Prod.fst := fun hm => by
      obtain ⟨y, hy, he⟩ := List.mem_map.1 hm
      have := ha y hy
      have := hl x (by simp)
      omega
    rw [setT_new hnew] at hstep
    have hd : bs.drop (p + (numB x.1).length + (numB x.2.seq).length + (repB x.2.rp).length) = rowsB r := drop_more (drop_more (drop_more h'))
    obtain ⟨last', ih⟩ := getG_rows (fa := fa) r _ x.1 (acc ++ [(x.1, ⟨x.2.seq, x.2.rp⟩)]) hd hr.2 hr.1 (fun y hy => by
      rcases List.mem_append.1 hy with hy | hy
      · have := ha y hy
        have := hl x (by simp)
        omega
      · have : y = (x.1, ⟨x.2.seq, x.2.rp⟩) := by simpa using hy
        rw [this]
        exact Int.le_refl _) (fun y hy => hin y (by simp [hy])) (fun y hy => hok y (by simp [hy]))
    refine ⟨last', ?_⟩
    show (if (0 : Int) = 0 then getG bs r.length (rndG bs ⟨⟨fa, 0, p⟩, last, true, acc⟩) else _) = _
    rw [if_pos rfl, hstep]
    have hb : (true && (true && true)) = true := rfl
    rw [hb, ih]
    have hp : p + (numB x.1).length + (numB x.2.seq).length + (repB x.2.rp).length + (rowsB r).length = p + (rowsB (x :: r)).length := by
      simp only [rowsB, List.length_append]
      omega
    rw [hp, List.append_assoc]
    rfl
/-- Rows that rise, written and read. -/
theorem allG_rows {l : Tbl} (hl : l.length ≤ 16) (hr : rise l) (hin : inTbl l) (hok : ∀ x, x ∈ l → rightZ x.1 x.2.seq = true) :
    ∃ last', allG (numB (l.length : Int) ++ rowsB l) ⟨0, 0, 0⟩ = ⟨⟨0, 0, (numB (l.length : Int) ++ rowsB l).length⟩, last', true, l⟩ := by
  have hn : in64' (l.length : Int) := ⟨by omega, by omega⟩
  have h0 : (numB (l.length : Int) ++ rowsB l).drop 0 = numB (l.length : Int) ++ rowsB l := rfl
  have hc : cntRd (numB (l.length : Int) ++ rowsB l) 16 ⟨0, 0, 0⟩ = ((l.length : Int), ⟨0, 0, 0 + (numB (l.length : Int)).length⟩) := by
    unfold cntRd
    rw [numRd_num h0 hn]
    simp only [if_true]
    rw [if_neg (by rintro ⟨_, h⟩; omega)]
  unfold allG
  rw [hc]
  simp only [Int.toNat_natCast]
  obtain ⟨last', h⟩ := getG_rows (fa := 0) l (0 + (numB (l.length : Int)).length) 0 [] (drop_more h0) hr (fun x hx => by
    have := (right_iff _ _).1 (hok x hx)
    omega) (fun x hx => by cases hx) hin hok
  refine ⟨last', ?_⟩
  rw [h]
  simp only [List.nil_append, List.length_append, Nat.zero_add]
/-! ### Tables alike -/
theorem tab_rt {m : Tbl} (h : keysND m) : RT m (tabR m) := by
  have hs := sortI_perm (m.map Prod.fst)
  refine ⟨?_, ?_⟩
  · have h1 : (tabR m).Perm ((m.map Prod.fst).map fun k => (k, (getT k m).getD ⟨0, rep0⟩)) := hs.map _
    have h2 : (m.map Prod.fst).map (fun k => (k, (getT k m).getD ⟨0, rep0⟩)) = m := by
      rw [List.map_map]
      have : ∀ x, x ∈ m → ((fun k => (k, (getT k m).getD ⟨0, rep0⟩)) ∘ Prod.fst) x = x := fun x hx => by
        have hg := (getT_iff h).2 (show (x.1, x.2) ∈ m from hx)
        show (x.1, (getT x.1 m).getD ⟨0, rep0⟩) = x
        rw [hg]
        rfl
      rw [List.map_congr_left this]
      simp
    rw [h2] at h1
    exact h1.symm
  · unfold rise tabR tabK
    rw [List.pairwise_map]
    have hnd : (sortI (m.map Prod.fst)).Nodup := hs.nodup_iff.2 h
    exact (List.Pairwise.and (sortI_sorted (m.map Prod.fst)) hnd).imp fun ⟨h1, h2⟩ => by
      show _ < _
      omega
theorem tabR_perm {m l : Tbl} (hp : l.Perm m) (h : keysND m) : tabR l = tabR m := by
  unfold tabR tabK
  rw [sortI_eq (hp.map Prod.fst)]
  exact List.map_congr_left fun k _ => by rw [getT_perm hp h k]
theorem bytT_perm {m l : Tbl} (hp : l.Perm m) (h : keysND m) : bytT l = bytT m := by
  unfold bytT
  rw [tabR_perm hp h, hp.length_eq]
theorem ask_perm {m l : Tbl} (hp : l.Perm m) (h : keysND m) (k q : Int) : askZ k q l = askZ k q m := by
  unfold askZ
  rw [getT_perm hp h k, hp.length_eq]
theorem done_perm {m l : Tbl} (hp : l.Perm m) (h : keysND m) (k q : Int) (r : Rep) : (doneZ k q r l).1 = (doneZ k q r m).1 ∧ (doneZ k q r l).2.Perm (doneZ k q r m).2 := by
  have h' : keysND l := (hp.map Prod.fst).nodup_iff.2 h
  unfold doneZ
  rw [ask_perm hp h k q]
  split
  · exact ⟨rfl, (setT_perm k ⟨q, r⟩ h').trans (((hp.filter _).cons _).trans (setT_perm k ⟨q, r⟩ h).symm)⟩
  · exact ⟨rfl, hp⟩
/-- A table's bytes are read as it. -/
theorem back_tab {m : Tbl} (h : TV m) : ∃ last' l, allG (bytT m) ⟨0, 0, 0⟩ = ⟨⟨0, 0, (bytT m).length⟩, last', true, l⟩ ∧ l.Perm m := by
  have hrt := tab_rt h.nd
  have hlen := hrt.len
  obtain ⟨last', hq⟩ := allG_rows (l := tabR m) (by rw [← hlen]; exact h.len) hrt.rise (fun x hx => h.rng x (hrt.perm.mem_iff.2 hx)) (fun x hx => h.ok x (hrt.perm.mem_iff.2 hx))
  refine ⟨last', tabR m, ?_, hrt.perm.symm⟩
  have e : bytT m = numB ((tabR m).length : Int) ++ rowsB (tabR m) := by
    unfold bytT
    rw [List.nil_append, hlen]
  rw [e]
  exact hq
end Go.Lv
