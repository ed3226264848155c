/-
  Part 17 of the texts under the proof: an abstract run of loaded code on data, and what the functions do. No condition.
-/
import Derived.Test.YtpfoccpolaggiaaM16
set_option linter.all false
set_option maxRecDepth 100000
namespace Go.Lv
open Go.Proofs

noncomputable def rndX (bs : List Int) (g : Rd × Tbl) : Rd × Tbl := ((repRd bs (numRd bs (numRd bs g.1).2).2).2, g.2 ++ [((numRd bs g.1).1, ⟨(numRd bs (numRd bs g.1).2).1, (repRd bs (numRd bs (numRd bs g.1).2).2).1⟩)])
noncomputable def getX (bs : List Int) : Nat → Rd × Tbl → Rd × Tbl
  | 0, g => g
  | f + 1, g => if g.1.fw = 0 then getX bs f (rndX bs g) else g
noncomputable def allX (bs : List Int) (s : Rd) : Rd × Tbl := getX bs (cntRd bs 16 s).1.toNat ((cntRd bs 16 s).2, [])
/-- Rows that may be, and rise. -/
noncomputable def okX : Option Int → Tbl → Bool
  | _, [] => true
  | o, x :: r => if rightZ x.1 x.2.seq = true ∧ (∀ a, o = some a → a < x.1) then okX (some x.1) r else false
noncomputable def sX (bs : List Int) (n : Int) (i sz : Nat) (g : Rd × Tbl) : DS := ⟨[(0, .gptr 0 0), (4, .list (.own sz) (g.2.map rowT)), (5, .int .i64 n), (6, .int .i64 (i : Int)), (2, .list (.own 0) []), (3, .bool false)], [], stX bs g.1, mR 0⟩
noncomputable def prevX (l : Tbl) (i : Nat) : Option Int := if i = 0 then none else (l[i - 1]?).map Prod.fst
noncomputable def sX2 (bs : List Int) (i sz : Nat) (g : Rd × Tbl) : DS := ⟨[(4, .list (.own sz) (g.2.map rowT)), (8, .int .i64 (i : Int)), (2, .list (.own 0) []), (3, .bool false)], [], stX bs g.1, mR 0⟩
noncomputable def M26 : Ms := [(46, 1, []), (47, 1, []), (48, 1, [])]
noncomputable def lv26 : List Nat := [0, 2, 3, 4, 5, 6, 7, 8, 20, 39, 43, 93]
noncomputable def retX (g : Rd × Tbl) (d : D) : Prop := if g.1.fw = 0 ∧ okX none g.2 = true then ∃ sz, (sz = 0 ∨ sz = 6) ∧ d = .tup [.list (.own sz) (g.2.map rowT), .bool true] else d = .tup [.list (.own 0) [], .bool false]
theorem rndX_pos {bs : List Int} {g : Rd × Tbl} (h : g.1.p ≤ bs.length) : (rndX bs g).1.p ≤ bs.length := repRd_pos (numRd_pos (numRd_pos h))
theorem okX_drop {l : Tbl} {i : Nat} (hi : i < l.length) (h : rightZ l[i].1 l[i].2.seq = true ∧ ∀ a, prevX l i = some a → a < l[i].1) : okX (prevX l i) (l.drop i) = okX (prevX l (i + 1)) (l.drop (i + 1)) := by
  rw [List.drop_eq_getElem_cons hi]
  unfold okX
  rw [if_pos h]
  have : prevX l (i + 1) = some l[i].1 := by
    unfold prevX
    rw [if_neg (by omega)]
    simp [hi]
  rw [this]
  cases l.drop (i + 1) <;> rfl
theorem okX_bad {l : Tbl} {i : Nat} (hi : i < l.length) (h : ¬ (rightZ l[i].1 l[i].2.seq = true ∧ ∀ a, prevX l i = some a → a < l[i].1)) : okX (prevX l i) (l.drop i) = false := by
  rw [List.drop_eq_getElem_cons hi]
  unfold okX
  rw [if_neg h]
theorem row_at' {α : Type} (f : α → List D) (l : List α) {n : Int} {i : Nat} (h : n = (i : Int)) (hi : i < l.length) : (l.map f)[n.toNat]? = some (f l[i]) := by
  rw [h]
  exact row_at l hi
set_option maxHeartbeats 8000000 in
theorem t26 (bs : List Int) (hb : bs.length ≤ 140737488351232) (s : Rd) (hp : s.p ≤ bs.length) :
    Tri Try.prog 26 0 [.gptr 0 0] (stX bs s) (fun d l => retX (allX bs s) d ∧ l = stX bs (allX bs s).1) := by
  refine Tri.walk2 (L := LT) (c := {n := 95, ko := [2, 3, 4], xf := [31, 94]}) M26 lv26 hLT hmix Try.func26 rfl rfl ⟨rfl, rfl⟩ (by show 1 ≤ 95; decide) (Nat.zero_le _) ?_
  have hc := cntRd_pos (n := 16) hp
  have hn16 : (cntRd bs 16 s).1 ≤ 16 := cntRd_le (by omega)
  unfold allX
  have ct := t46 bs hb s hp 16
  generalize cntRd bs 16 s = x at hc ct hn16
  obtain ⟨n, s1⟩ := x
  have hn16 : n ≤ 16 := hn16
  refine ⟨rfl, Nat.le_refl 0, ct.mono ?_⟩
  rintro d l ⟨rfl, rfl⟩
  refine ⟨rfl, fun k hk => absurd hk (Nat.not_lt_zero k), rfl, ?_⟩
  show Ok _ _ _ _ _
  refine Ok.loopN hLT hmix M26 lv26 [0, 4, 5, 6, 2, 3] [] (fun f t => ∃ (i sz : Nat) (g : Rd × Tbl), f = n.toNat - i ∧ i ≤ n.toNat ∧ g.2.length = i ∧ (sz = 0 ∨ sz = 6) ∧ g.1.p ≤ bs.length ∧ getX bs (n.toNat - i) g = getX bs n.toNat (s1, []) ∧ t = sX bs n i sz g) (n := n.toNat) ⟨0, 0, (s1, []), rfl, Nat.zero_le _, rfl, .inl rfl, hc, rfl, rfl⟩ ?_
  rintro f t ⟨i, sz, g, rfl, hi, hgl, hsz, hg, hall, rfl⟩
  rw [← hall]
  obtain ⟨rd, l⟩ := g
  have hg : rd.p ≤ bs.length := hg
  have hgl : l.length = i := hgl
  refine And.intro (fun h1 => ?_) (fun h1 => ?_)
  · have h1 : ((i : Nat) : Int) < n := of_decide_eq_true h1
    have hi1 : i < n.toNat := by omega
    have hw : IntKind.i64.wrap ((i : Int) + 1) = ((i + 1 : Nat) : Int) := by
      rw [wrap64 (by omega) (by omega)]
      omega
    have hstep : n.toNat - i = (n.toNat - (i + 1)) + 1 := by omega
    refine And.intro (fun h2 => ?_) (fun h2 => ?_)
    · have hf : rd.fw = 0 := of_decide_eq_true h2
      have hrnd : getX bs (n.toNat - (i + 1)) (rndX bs (rd, l)) = getX bs (n.toNat - i) (rd, l) := by
        rw [hstep]
        show _ = if rd.fw = 0 then _ else _
        rw [if_pos hf]
      have hp1 := numRd_pos hg
      have hp2 := numRd_pos hp1
      have hp3 : (repRd bs (numRd bs (numRd bs rd).2).2).2.p ≤ bs.length := repRd_pos hp2
      have c0 := t47 bs hb rd hg
      have c1 := t47 bs hb _ hp1
      have c2 := t48 bs hb _ hp2
      rw [← hrnd]
      have hG : rndX bs (rd, l) = ((repRd bs (numRd bs (numRd bs rd).2).2).2, l ++ [((numRd bs rd).1, ⟨(numRd bs (numRd bs rd).2).1, (repRd bs (numRd bs (numRd bs rd).2).2).1⟩)]) := rfl
      generalize numRd bs rd = x0 at c0 c1 c2 hG hp3
      obtain ⟨k, s0'⟩ := x0
      generalize numRd bs s0' = x1 at c1 c2 hG hp3
      obtain ⟨q, s1'⟩ := x1
      generalize repRd bs s1' = x2 at c2 hG hp3
      obtain ⟨r, s2'⟩ := x2
      refine ⟨rfl, Nat.le_refl 0, c0.mono ?_⟩
      rintro d l' ⟨rfl, rfl⟩
      refine ⟨rfl, fun k hk => absurd hk (Nat.not_lt_zero k), rfl, ?_⟩
      refine ⟨rfl, Nat.le_refl 0, c1.mono ?_⟩
      rintro d l' ⟨rfl, rfl⟩
      refine ⟨rfl, fun k hk => absurd hk (Nat.not_lt_zero k), rfl, ?_⟩
      refine ⟨rfl, Nat.le_refl 0, c2.mono ?_⟩
      rintro d l' ⟨rfl, rfl⟩
      refine ⟨rfl, fun k hk => absurd hk (Nat.not_lt_zero k), rfl, ?_⟩
      refine And.intro trivial (And.intro (by rcases hsz with rfl | rfl <;> rfl) (And.intro ?_ (And.intro rfl ?_)))
      · show ((l.map rowT).length + 1) * 48 ≤ 140737488355328
        simp only [List.length_map]
        omega
      refine ⟨n.toNat - (i + 1), by omega, i + 1, 6, (s2', l ++ [(k, ⟨q, r⟩)]), rfl, by omega, by simp [hgl], .inr rfl, hp3, by rw [hG], ?_⟩
      unfold sX
      have hm : ((s2', l ++ [(k, (⟨q, r⟩ : Ent))]) : Rd × Tbl).2.map rowT = l.map rowT ++ [rowT (k, ⟨q, r⟩)] := by simp
      rw [hm, ← hw]
      rfl
    · have hf : ¬ rd.fw = 0 := of_decide_eq_false h2
      have hfin : getX bs (n.toNat - i) (rd, l) = (rd, l) := by
        rw [hstep]
        show (if rd.fw = 0 then _ else _) = _
        rw [if_neg hf]
      rw [hfin]
      refine And.intro (fun h3 => ?_) (fun h3 => ?_)
      · refine And.intro ?_ rfl
        unfold retX
        rw [if_neg (fun h => nd_true h3 h.1)]
      · exact absurd (nd_false h3) hf
  · have h1 : ¬ ((i : Nat) : Int) < n := of_decide_eq_false h1
    have hfin : getX bs (n.toNat - i) (rd, l) = (rd, l) := by
      have : n.toNat - i = 0 := by omega
      rw [this]
      rfl
    rw [hfin]
    refine And.intro (fun h3 => ?_) (fun h3 => ?_)
    · refine And.intro ?_ rfl
      unfold retX
      rw [if_neg (fun h => nd_true h3 h.1)]
    · have hfw : rd.fw = 0 := nd_false h3
      show Ok _ _ _ _ _
      refine Ok.loopN hLT hmix M26 lv26 [4, 8, 2, 3] [] (fun f t => ∃ j : Nat, f = l.length - j ∧ j ≤ l.length ∧ okX (prevX l j) (l.drop j) = okX none l ∧ t = sX2 bs j sz (rd, l)) (n := l.length) ⟨0, rfl, Nat.zero_le _, rfl, rfl⟩ ?_
      rintro f t ⟨j, rfl, hj, hok, rfl⟩
      have hbad : ∀ hj1 : j < l.length, ¬ (rightZ l[j].1 l[j].2.seq = true ∧ ∀ a, prevX l j = some a → a < l[j].1) → retX (rd, l) (.tup [.list (.own 0) [], .bool false]) := fun hj1 h => by
        have := okX_bad hj1 h
        rw [hok] at this
        unfold retX
        rw [if_neg (fun q => by rw [this] at q; cases q.2)]
      refine And.intro (fun h4 => ?_) (fun h4 => ?_)
      · have h4 : ((j : Nat) : Int) < ((l.map rowT).length : Int) := of_decide_eq_true h4
        rw [List.length_map] at h4
        have hj1 : j < l.length := by omega
        have hbad := hbad hj1
        have hrow := row_at (f := rowT) l hj1
        have hwj : IntKind.i64.wrap ((j : Int) + 1) = ((j + 1 : Nat) : Int) := wrap_succ hj1 (by omega)
        have hgo := okX_drop hj1
        refine ⟨⟨281474976710655, [0, 0, 3, 4, 8, 16, 32, 64, 64, 448, 576, 1088, 2112, 4160, 8256, 16384, 16384, 114688, 147456, 278528, 540672, 1064960, 2113536, 4194304, 4194304, 29360128, 37748736, 71303168, 138412032, 272629760, 541065216, 1073741824, 3221225472, 5368709120, 8589934592, 8589934592, 42949672960, 94489280512, 146028888064, 283467841536, 8589934592, 8589934592, 3307124817920, 4406636445696, 8804682956800, 18150531792896, 35194035765248, 70369817919488], [1, 2, 7, 15, 31, 63, 127, 255, 383, 1023, 2047, 4095, 8191, 16383, 32767, 65535, 98303, 262143, 524287, 1048575, 2097151, 4194303, 8388607, 16777215, 25165823, 67108863, 134217727, 268435455, 536870911, 1073741823, 2147483647, 4294967295, 8589934591, 17179869183, 34359738367, 51539607551, 120259084287, 274877906943, 549755813887, 1099511627775, 1116691496959, 2216203124735, 7713761263615, 16509854285823, 34102040330239, 70368744177663, 140737488355327, 281474976710655]⟩, by kernel_rfl, ?_⟩
        have bad : ∀ {d : D}, d = .tup [.list (.own 0) [], .bool false] → ¬ (rightZ l[j].1 l[j].2.seq = true ∧ ∀ a, prevX l j = some a → a < l[j].1) → retX (rd, l) d := fun e h => by rw [e]; exact hbad h
        refine ⟨(l).map rowT, rowT ((l)[j]'(by omega)), rfl, by omega, row_at' rowT (l) (by omega) (by omega), rfl, of_decide_eq_true rfl, ?_⟩
        refine And.intro rfl ?_
        refine ⟨_, _, rfl, rfl, rfl, ?_⟩
        refine And.intro rfl ?_
        refine And.intro (fun q1 => ?_) (fun q1 => ?_)
        · repeat (first | refine And.intro (fun _ => ?_) (fun h => Bool.noConfusion h) | refine And.intro (fun h => Bool.noConfusion h) (fun _ => ?_))
          have q1 : l[j].1 < 1 := of_decide_eq_true q1
          exact And.intro (bad rfl (fun h => by have := ((right_iff _ _).1 h.1).1; omega)) rfl
        repeat (first | refine And.intro (fun _ => ?_) (fun h => Bool.noConfusion h) | refine And.intro (fun h => Bool.noConfusion h) (fun _ => ?_))
        have q1 : ¬ l[j].1 < 1 := of_decide_eq_false q1
        refine ⟨(l).map rowT, rowT ((l)[j]'(by omega)), rfl, by omega, row_at' rowT (l) (by omega) (by omega), rfl, of_decide_eq_true rfl, ?_⟩
        refine And.intro rfl ?_
        refine ⟨_, _, rfl, rfl, rfl, ?_⟩
        refine And.intro rfl ?_
        refine And.intro (fun q2 => ?_) (fun q2 => ?_)
        · repeat (first | refine And.intro (fun _ => ?_) (fun h => Bool.noConfusion h) | refine And.intro (fun h => Bool.noConfusion h) (fun _ => ?_))
          have q2 : l[j].1 > 1000000 := of_decide_eq_true q2
          exact And.intro (bad rfl (fun h => by have := ((right_iff _ _).1 h.1).2.1; omega)) rfl
        repeat (first | refine And.intro (fun _ => ?_) (fun h => Bool.noConfusion h) | refine And.intro (fun h => Bool.noConfusion h) (fun _ => ?_))
        have q2 : ¬ l[j].1 > 1000000 := of_decide_eq_false q2
        refine ⟨(l).map rowT, rowT ((l)[j]'(by omega)), rfl, by omega, row_at' rowT (l) (by omega) (by omega), rfl, of_decide_eq_true rfl, ?_⟩
        refine And.intro rfl ?_
        refine ⟨_, _, rfl, rfl, rfl, ?_⟩
        refine And.intro rfl ?_
        refine And.intro (fun q3 => ?_) (fun q3 => ?_)
        · repeat (first | refine And.intro (fun _ => ?_) (fun h => Bool.noConfusion h) | refine And.intro (fun h => Bool.noConfusion h) (fun _ => ?_))
          have q3 : l[j].2.seq < 1 := of_decide_eq_true q3
          exact And.intro (bad rfl (fun h => by have := ((right_iff _ _).1 h.1).2.2.1; omega)) rfl
        repeat (first | refine And.intro (fun _ => ?_) (fun h => Bool.noConfusion h) | refine And.intro (fun h => Bool.noConfusion h) (fun _ => ?_))
        have q3 : ¬ l[j].2.seq < 1 := of_decide_eq_false q3
        refine ⟨(l).map rowT, rowT ((l)[j]'(by omega)), rfl, by omega, row_at' rowT (l) (by omega) (by omega), rfl, of_decide_eq_true rfl, ?_⟩
        refine And.intro rfl ?_
        refine ⟨_, _, rfl, rfl, rfl, ?_⟩
        refine And.intro rfl ?_
        refine And.intro (fun q4 => ?_) (fun q4 => ?_)
        · repeat (first | refine And.intro (fun _ => ?_) (fun h => Bool.noConfusion h) | refine And.intro (fun h => Bool.noConfusion h) (fun _ => ?_))
          have q4 : l[j].2.seq > 1099511627776 := of_decide_eq_true q4
          exact And.intro (bad rfl (fun h => by have := ((right_iff _ _).1 h.1).2.2.2; omega)) rfl
        repeat (first | refine And.intro (fun _ => ?_) (fun h => Bool.noConfusion h) | refine And.intro (fun h => Bool.noConfusion h) (fun _ => ?_))
        have q4 : ¬ l[j].2.seq > 1099511627776 := of_decide_eq_false q4
        have hr : rightZ l[j].1 l[j].2.seq = true := (right_iff _ _).2 ⟨by omega, by omega, by omega, by omega⟩
        refine And.intro (fun q5 => ?_) (fun q5 => ?_)
        · repeat (first | refine And.intro (fun _ => ?_) (fun h => Bool.noConfusion h) | refine And.intro (fun h => Bool.noConfusion h) (fun _ => ?_))
          have q5 : ((j : Nat) : Int) > 0 := of_decide_eq_true q5
          have hwm : IntKind.i64.wrap ((j : Int) - 1) = ((j - 1 : Nat) : Int) := by
            rw [wrap64 (by omega) (by omega)]
            omega
          have hprev : prevX l j = some l[j - 1].1 := by
            unfold prevX
            rw [if_neg (by omega)]
            simp [show j - 1 < l.length by omega]
          refine ⟨(l).map rowT, rowT ((l)[(j-1)]'(by omega)), rfl, by omega, row_at' rowT (l) (by omega) (by omega), rfl, of_decide_eq_true rfl, ?_⟩
          refine And.intro rfl ?_
          refine ⟨_, _, rfl, rfl, rfl, ?_⟩
          refine And.intro rfl ?_
          refine ⟨(l).map rowT, rowT ((l)[j]'(by omega)), rfl, by omega, row_at' rowT (l) (by omega) (by omega), rfl, of_decide_eq_true rfl, ?_⟩
          refine And.intro rfl ?_
          refine ⟨_, _, rfl, rfl, rfl, ?_⟩
          refine And.intro rfl ?_
          refine And.intro (fun q6 => ?_) (fun q6 => ?_)
          · repeat (first | refine And.intro (fun _ => ?_) (fun h => Bool.noConfusion h) | refine And.intro (fun h => Bool.noConfusion h) (fun _ => ?_))
            have q6 : l[j - 1].1 ≥ l[j].1 := of_decide_eq_true q6
            exact And.intro (bad rfl (fun h => by have := h.2 _ hprev; omega)) rfl
          · repeat (first | refine And.intro (fun _ => ?_) (fun h => Bool.noConfusion h) | refine And.intro (fun h => Bool.noConfusion h) (fun _ => ?_))
            have q6 : ¬ l[j - 1].1 ≥ l[j].1 := of_decide_eq_false q6
            have hgo := hgo ⟨hr, fun a ha => by rw [hprev] at ha; cases ha; omega⟩
            refine ⟨l.length - (j + 1), by omega, j + 1, rfl, by omega, by rw [← hgo]; exact hok, ?_⟩
            unfold sX2
            rw [← hwj]
            rfl
        · repeat (first | refine And.intro (fun _ => ?_) (fun h => Bool.noConfusion h) | refine And.intro (fun h => Bool.noConfusion h) (fun _ => ?_))
          have q5 : ¬ ((j : Nat) : Int) > 0 := of_decide_eq_false q5
          have hgo := hgo ⟨hr, fun a ha => by
            unfold prevX at ha
            rw [if_pos (by omega)] at ha
            cases ha⟩
          refine ⟨l.length - (j + 1), by omega, j + 1, rfl, by omega, by rw [← hgo]; exact hok, ?_⟩
          unfold sX2
          rw [← hwj]
          rfl
      · have h4 : ¬ ((j : Nat) : Int) < ((l.map rowT).length : Int) := of_decide_eq_false h4
        rw [List.length_map] at h4
        have hd : l.drop j = [] := List.drop_eq_nil_of_le (by omega)
        rw [hd] at hok
        refine And.intro ?_ rfl
        unfold retX
        rw [if_pos ⟨hfw, hok.symm⟩]
        exact ⟨_, hsz, rfl⟩
end Go.Lv

namespace Go.Lv
open Go.Proofs

/-! ### What is read is the same -/
theorem numL_rng : ∀ (l : List Int) (k : Nat) (u : Int) (p : Nat), in64' (numL l k u p).2.1
  | [], k, u, p => by simp [numL, in64']
  | c :: r, k, u, p => by
    unfold numL
    split
    · simp [in64']
    · split
      · exact numL_rng r (k + 1) (orU u c k) (p + 1)
      · split
        · simp [in64']
        · show in64' (zagU _)
          unfold zagU
          rw [IntKind.wrap_i64]
          unfold in64'
          omega
theorem numRd_rng (bs : List Int) (s : Rd) : in64' (numRd bs s).1 := by
  unfold numRd
  split
  · exact numL_rng _ _ _ _
  · simp [in64']
theorem repRd_rng (bs : List Int) (s : Rd) : inRep (repRd bs s).1 := by
  unfold repRd
  simp only
  split
  · exact ⟨numRd_rng _ _, numRd_rng _ _, numRd_rng _ _, numRd_rng _ _⟩
  · simp [rep0, inRep, in64']
noncomputable def lastX : Int → Tbl → Int
  | a, [] => a
  | _, x :: r => lastX x.1 r
theorem okX_snoc (y : Int × Ent) : ∀ (l : Tbl) (o : Option Int), okX o (l ++ [y]) = (okX o l && (rightZ y.1 y.2.seq && decide (∀ a, (match l.getLast? with | some z => some z.1 | none => o) = some a → a < y.1)))
  | [], o => by
    show (if rightZ y.1 y.2.seq = true ∧ (∀ a, o = some a → a < y.1) then okX (some y.1) [] else false) = _
    show (if rightZ y.1 y.2.seq = true ∧ (∀ a, o = some a → a < y.1) then true else false) = (true && (rightZ y.1 y.2.seq && decide (∀ a, o = some a → a < y.1)))
    by_cases h1 : rightZ y.1 y.2.seq = true
    · by_cases h2 : ∀ a, o = some a → a < y.1
      · rw [if_pos ⟨h1, h2⟩, h1, decide_eq_true h2]; rfl
      · rw [if_neg (fun h => h2 h.2), decide_eq_false h2]; simp
    · rw [if_neg (fun h => h1 h.1)]
      simp [h1]
  | x :: r, o => by
    have ih := okX_snoc y r (some x.1)
    show (if rightZ x.1 x.2.seq = true ∧ (∀ a, o = some a → a < x.1) then okX (some x.1) (r ++ [y]) else false) = ((if rightZ x.1 x.2.seq = true ∧ (∀ a, o = some a → a < x.1) then okX (some x.1) r else false) && _)
    split
    · rw [ih]
      congr 2
      cases r with
      | nil => rfl
      | cons z r =>
        obtain ⟨w, hw⟩ : ∃ w, (z :: r).getLast? = some w := ⟨_, List.getLast?_eq_some_getLast (by simp)⟩
        rw [List.getLast?_cons_cons, hw]
    · rfl
/-- The two readings go alike. -/
structure Sim (g : GS) (x : Rd × Tbl) : Prop where
  rd : g.rd = x.1
  ok : g.ok = okX none x.2
  m : g.ok = true → g.m = x.2 ∧ g.last = (match x.2.getLast? with | some z => z.1 | none => 0) ∧ rise x.2 ∧ (∀ z, z ∈ x.2 → z.1 ≤ g.last)
  rng : inTbl x.2
theorem Sim.step {bs : List Int} {g : GS} {x : Rd × Tbl} (h : Sim g x) : Sim (rndG bs g) (rndX bs x) := by
  have hrd := h.rd
  obtain ⟨grd, glast, gok, gm⟩ := g
  obtain ⟨xrd, xl⟩ := x
  subst hrd
  have hk := numRd_rng bs grd
  have hq := numRd_rng bs (numRd bs grd).2
  have hr := repRd_rng bs (numRd bs (numRd bs grd).2).2
  unfold rndG rndX
  simp only
  generalize numRd bs grd = a at hk hq hr
  obtain ⟨k, s1⟩ := a
  simp only at hk hq hr ⊢
  generalize numRd bs s1 = b at hq hr
  obtain ⟨q, s2⟩ := b
  simp only at hq hr ⊢
  generalize repRd bs s2 = c at hr
  obtain ⟨r, s3⟩ := c
  simp only at hr ⊢
  have hok : gok = okX none xl := h.ok
  have key : (gok && (decide (k > glast) && rightZ k q)) = okX none (xl ++ [(k, ⟨q, r⟩)]) := by
    rw [okX_snoc, ← hok]
    cases hg : gok with
    | false => rfl
    | true =>
      obtain ⟨_, hl, _, _⟩ := h.m hg
      simp only [Bool.true_and]
      rw [Bool.and_comm]
      cases hrt : rightZ k q with
      | false => rfl
      | true =>
        have h1 := ((right_iff _ _).1 hrt).1
        simp only [Bool.true_and]
        have hl : glast = (match xl.getLast? with | some z => z.1 | none => 0) := hl
        rw [hl]
        cases xl.getLast? with
        | none =>
          simp only
          rw [decide_eq_true (by omega), decide_eq_true (by intro a ha; cases ha)]
        | some z =>
          simp only
          by_cases hz : k > z.1
          · rw [decide_eq_true hz, decide_eq_true (by intro a ha; cases ha; exact hz)]
          · rw [decide_eq_false hz, decide_eq_false (by intro ha; exact hz (ha _ rfl))]
  refine ⟨rfl, key, fun hnew => ?_, ?_⟩
  · simp only [Bool.and_eq_true, decide_eq_true_eq] at hnew
    obtain ⟨hg, hkl, hrt⟩ := hnew
    obtain ⟨hm, hl, hri, hle⟩ := h.m hg
    have hm : gm = xl := hm
    subst hm
    refine ⟨?_, by simp, ?_, fun z hz => ?_⟩
    · exact setT_new (fun hmem => by
        obtain ⟨z, hz, e⟩ := List.mem_map.1 hmem
        have h1 : z.1 ≤ glast := hle z hz
        omega)
    · refine List.pairwise_append.2 ⟨hri, by simp, fun z hz y hy => ?_⟩
      have : y = (k, ⟨q, r⟩) := by simpa using hy
      rw [this]
      have h1 : z.1 ≤ glast := hle z hz
      show z.1 < k
      omega
    · rcases List.mem_append.1 hz with hz | hz
      · have h1 : z.1 ≤ glast := hle z hz
        show z.1 ≤ k
        omega
      · have : z = (k, ⟨q, r⟩) := by simpa using hz
        rw [this]
        exact Int.le_refl _
  · intro z hz
    rcases List.mem_append.1 hz with hz | hz
    · exact h.rng z hz
    · have : z = (k, ⟨q, r⟩) := by simpa using hz
      rw [this]
      exact ⟨hk, hq, hr⟩
theorem Sim.run {bs : List Int} : ∀ (f : Nat) {g : GS} {x : Rd × Tbl}, Sim g x → Sim (getG bs f g) (getX bs f x) ∧ (getX bs f x).2.length ≤ x.2.length + f
  | 0, g, x, h => ⟨h, Nat.le_refl _⟩
  | f + 1, g, x, h => by
    show Sim (if g.rd.fw = 0 then _ else g) (if x.1.fw = 0 then _ else x) ∧ (if x.1.fw = 0 then getX bs f (rndX bs x) else x).2.length ≤ _
    rw [h.rd]
    split
    · obtain ⟨h1, h2⟩ := Sim.run f (h.step (bs := bs))
      refine ⟨h1, ?_⟩
      have : (rndX bs x).2.length = x.2.length + 1 := by simp [rndX]
      omega
    · exact ⟨h, by omega⟩
theorem sim_all (bs : List Int) : Sim (allG bs ⟨0, 0, 0⟩) (allX bs ⟨0, 0, 0⟩) ∧ (allX bs ⟨0, 0, 0⟩).2.length ≤ 16 := by
  have := Sim.run (bs := bs) (cntRd bs 16 ⟨0, 0, 0⟩).1.toNat (g := ⟨(cntRd bs 16 ⟨0, 0, 0⟩).2, 0, true, []⟩) (x := ((cntRd bs 16 ⟨0, 0, 0⟩).2, [])) ⟨rfl, rfl, fun _ => ⟨rfl, rfl, List.Pairwise.nil, fun z hz => by cases hz⟩, fun z hz => by cases hz⟩
  refine ⟨this.1, ?_⟩
  have h1 := this.2
  have h2 : (cntRd bs 16 ⟨0, 0, 0⟩).1 ≤ 16 := cntRd_le (by omega)
  unfold allX
  simp only [List.length_nil] at h1
  omega

theorem xrdO_id (bs : List Int) (t : Rd) (ρ : Nat → Nat) : renO ρ (xrdO bs t) = xrdO bs t := by
  show Ob.box [.list .imm (renLL ρ (bs.map rowB)), .int .i64 (t.p : Int), .int .i64 t.fa, .int .i64 t.fw] = _
  rw [renLL_id ρ (nrBLL_B bs)]
  rfl
theorem rdB_id (bs : List Int) (t : Rd) (ρ : Nat → Nat) : renO ρ (rdB bs t) = rdB bs t := by
  show Ob.box [.int .i64 t.fa, .int .i64 t.fw, .list .imm (renLL ρ (bs.map rowB)), .int .i64 (t.p : Int)] = _
  rw [renLL_id ρ (nrBLL_B bs)]
  rfl
theorem t24R (bs : List Int) (hb : bs.length ≤ 140737488351232) {r : Nat} {sto : List Ob} (hr : r ≤ sto.length) : Tri Try.prog 24 r [.list .imm (bs.map rowB)] sto (fun d l => d = .gptr sto.length 0 ∧ l = sto ++ [xrdO bs ⟨0, 0, 0⟩]) := by
  have := Tri.ren (r := r) (sto := sto) (fun k => k) (t24_0 bs hb) (fun i j hi => by cases hi) (fun i o hi => by simp at hi) (fun i hi => by cases hi) hr rfl (fun x hx => by
    have : x = .list .imm (bs.map rowB) := by simpa using hx
    rw [this]
    exact nrB_nr (nrBLL_B bs)) (fun o ho => by cases ho) rfl (fun d l ⟨h1, h2⟩ => by subst h1; subst h2; exact ⟨rfl, rfl⟩)
  rw [show renL (fun k => k) [.list .imm (bs.map rowB)] = [.list .imm (bs.map rowB)] by show [D.list .imm (renLL _ (bs.map rowB))] = _; rw [renLL_id _ (nrBLL_B bs)]] at this
  refine this.mono fun d l ⟨d1, l1, ⟨h1, h2⟩, h3, h4⟩ => ?_
  subst h1; subst h2
  refine ⟨?_, ?_⟩
  · rw [h3]
    show D.gptr (extR _ 0 sto.length 0) 0 = _
    simp [extR]
  · rw [h4]
    show sto ++ [renO _ (xrdO bs ⟨0, 0, 0⟩)] = _
    rw [xrdO_id]
/-- A function of one box that holds no pointers, where it lies elsewhere; what is new lies behind. -/
theorem Tri.one {f : Nat} {o : Ob} {R : D → List Ob → Prop} (h : Tri Try.prog f 0 [.gptr 0 0] [o] R) (ho : nrO 0 o = true) (hbx : ([o].drop 0).all boxOK = true)
    (hok : ∀ d l, R d l → partsOK d = true ∧ (l.drop 0).all boxOK = true) {r b : Nat} {sto : List Ob} (hr : r ≤ b) (hb : sto[b]? = some o) (hid : ∀ ρ, renO ρ o = o) :
    Tri Try.prog f r [.gptr b 0] sto (fun d l => ∃ d' l', R d' l' ∧ d = renD (extR (fun _ => b) 1 sto.length) d' ∧ l = backSto (fun _ => b) 1 sto l') := by
  have hlt : b < sto.length := (List.getElem?_eq_some_iff.1 hb).1
  exact Tri.ren (r := r) (sto := sto) (fun _ => b) h (fun i j hi hj e => by
      have hi : i < 1 := hi
      have hj : j < 1 := hj
      omega) (fun i o' hi => by
      match i, hi with
      | 0, hi =>
        have : o' = o := by simpa using hi.symm
        rw [this, hid]
        exact hb
      | i + 1, hi => simp at hi) (fun i hi => ⟨fun h => absurd h (Nat.not_lt_zero _), fun h => by have : b < r := h; omega⟩) (by omega) rfl (fun x hx => by
      have : x = .gptr 0 0 := by simpa using hx
      rw [this]
      exact .gptr _ _ (by show 0 < 1; omega)) (fun o' ho' => by
      have : o' = o := by simpa using ho'
      rw [this]
      have h := nrO_nr (k := 0) ho
      cases o with
      | box cs => exact fun d hd => (h d hd).up (Nat.zero_le _)
      | map es => trivial) hbx hok
noncomputable def okG (g : GS) : Bool := decide (g.ok = true ∧ g.rd.fw = 0)
noncomputable def stU (bs : List Int) (g : GS) (x : Rd) : List Ob := [rdB bs g.rd, xrdO bs x, .map (encT g.m), .box [.map 2]]
theorem nrO_rdB (bs : List Int) (t : Rd) : nrO 0 (rdB bs t) = true := by
  show (nrBLL 0 (bs.map rowB) && true) = true
  rw [nrBLL_B]
  rfl
theorem nrO_xrd (bs : List Int) (t : Rd) : nrO 0 (xrdO bs t) = true := by
  show (nrBLL 0 (bs.map rowB) && true) = true
  rw [nrBLL_B]
  rfl
theorem t25Q (bs : List Int) (hb : bs.length ≤ 140737488351232) :
    Tri Try.prog 25 0 [.gptr 0 0] [rdB bs ⟨0, 0, 0⟩, xrdO bs ⟨0, 0, 0⟩] (fun d l => d = (if okG (allG bs ⟨0, 0, 0⟩) = true then .tup [.gptr 3 0, .bool true] else .tup [.nil, .bool false]) ∧ l = stU bs (allG bs ⟨0, 0, 0⟩) ⟨0, 0, 0⟩) := by
  have := Tri.one (r := 0) (b := 0) (sto := [rdB bs ⟨0, 0, 0⟩, xrdO bs ⟨0, 0, 0⟩]) (o := rdB bs ⟨0, 0, 0⟩) (t25 bs hb ⟨0, 0, 0⟩ (Nat.zero_le _)) (nrO_rdB _ _) rfl (fun d l ⟨h1, h2⟩ => by subst h1; subst h2; exact ⟨by split <;> rfl, rfl⟩) (Nat.le_refl _) rfl (rdB_id bs _)
  refine this.mono fun d l ⟨d', l', ⟨h1, h2⟩, h3, h4⟩ => ?_
  subst h1; subst h2
  refine ⟨?_, ?_⟩
  · rw [h3]
    unfold okG
    by_cases h : (allG bs ⟨0, 0, 0⟩).ok = true ∧ (allG bs ⟨0, 0, 0⟩).rd.fw = 0
    · rw [if_pos h, decide_eq_true h]; rfl
    · rw [if_neg h, decide_eq_false h]; rfl
  · rw [h4]
    show ([rdB bs ⟨0, 0, 0⟩, xrdO bs ⟨0, 0, 0⟩] : List Ob).set 0 (renO _ (rdB bs (allG bs ⟨0, 0, 0⟩).rd)) ++ [.map _, .box [.map 2]] = _
    rw [rdB_id]
    rfl
theorem t26Q (bs : List Int) (hb : bs.length ≤ 140737488351232) (g : GS) :
    Tri Try.prog 26 0 [.gptr 1 0] (stU bs g ⟨0, 0, 0⟩) (fun d l => retX (allX bs ⟨0, 0, 0⟩) d ∧ l = stU bs g (allX bs ⟨0, 0, 0⟩).1) := by
  have hret : ∀ d, retX (allX bs ⟨0, 0, 0⟩) d → (∃ sz, d = .tup [.list (.own sz) ((allX bs ⟨0, 0, 0⟩).2.map rowT), .bool true]) ∨ d = .tup [.list (.own 0) [], .bool false] := fun d h => by
    unfold retX at h
    split at h
    · obtain ⟨sz, _, h⟩ := h; exact .inl ⟨sz, h⟩
    · exact .inr h
  have := Tri.one (r := 0) (b := 1) (sto := stU bs g ⟨0, 0, 0⟩) (o := xrdO bs ⟨0, 0, 0⟩) (t26 bs hb ⟨0, 0, 0⟩ (Nat.zero_le _)) (nrO_xrd _ _) rfl (fun d l ⟨h1, h2⟩ => by subst h2; exact ⟨by rcases hret d h1 with ⟨sz, rfl⟩ | rfl <;> rfl, rfl⟩) (Nat.zero_le _) rfl (xrdO_id bs _)
  refine this.mono fun d l ⟨d', l', ⟨h1, h2⟩, h3, h4⟩ => ?_
  subst h2
  refine ⟨?_, ?_⟩
  · rw [h3]
    have : renD (extR (fun _ => 1) 1 (stU bs g ⟨0, 0, 0⟩).length) d' = d' := by
      rcases hret d' h1 with ⟨sz, rfl⟩ | rfl
      · show D.tup [.list (.own sz) (renLL _ _), .bool true] = _
        rw [renLL_id _ (nrBLL_T _)]
      · rfl
    rw [this]
    exact h1
  · rw [h4]
    show (stU bs g ⟨0, 0, 0⟩).set 1 (renO _ (xrdO bs (allX bs ⟨0, 0, 0⟩).1)) ++ [] = _
    rw [xrdO_id, List.append_nil]
    rfl
theorem t27 (fa fw p : Int) (bs : List Int) : Tri Try.prog 27 1 [.gptr 0 0] (stR fa fw bs p) (fun d l => d = .int .i64 p ∧ l = stR fa fw bs p) := by
  refine Tri.walk2 (L := LT) (c := {n := 9, ko := [2]}) [] [0, 2, 4] hLT hmix Try.func27 rfl rfl ⟨rfl, rfl⟩ (by show 1 ≤ 9; decide) (by first | exact Nat.zero_le _ | exact Nat.le_refl _ | decide) ?_
  refine And.intro (fun h => by cases h) (fun _ => ?_)
  exact And.intro rfl rfl
theorem t28 (a e : Int) : Tri Try.prog 28 0 [.agg [.int .i64 a, .int .i64 e]] [] (fun d l => d = .int .i64 e ∧ l = []) := by
  refine Tri.walk2 (L := LT) (c := {n := 5, ko := [2]}) [] [0, 1, 2] hLT hmix Try.func28 rfl rfl ⟨rfl, rfl⟩ (by show 1 ≤ 5; decide) (by first | exact Nat.zero_le _ | exact Nat.le_refl _ | decide) ?_
  exact And.intro rfl rfl
theorem t29 (a e : Int) : Tri Try.prog 29 0 [.agg [.int .i64 a, .int .i64 e]] [] (fun d l => d = .int .i64 a ∧ l = []) := by
  refine Tri.walk2 (L := LT) (c := {n := 5, ko := [2]}) [] [0, 1, 2] hLT hmix Try.func29 rfl rfl ⟨rfl, rfl⟩ (by show 1 ≤ 5; decide) (by first | exact Nat.zero_le _ | exact Nat.le_refl _ | decide) ?_
  exact And.intro rfl rfl
theorem t27Q (bs : List Int) (g : GS) (x : Rd) : Tri Try.prog 27 4 [.gptr 0 0] (stU bs g x) (fun d l => d = .int .i64 (g.rd.p : Int) ∧ l = stU bs g x) := by
  refine Tri.walk2 (L := LT) (c := {n := 9, ko := [2]}) [] [0, 2, 4] hLT hmix Try.func27 rfl rfl ⟨rfl, rfl⟩ (by show 1 ≤ 9; decide) (by first | exact Nat.zero_le _ | exact Nat.le_refl _ | decide) ?_
  refine And.intro (fun h => by cases h) (fun _ => ?_)
  exact And.intro rfl rfl
set_option maxHeartbeats 4000000 in
theorem t8 (bs : List Int) (hb : bs.length ≤ 140737488351232) : Tri Try.prog 8 0 [.list .imm (bs.map rowB)] [] (fun d l => d = .bool true) := by
  refine Tri.walk2 (L := LT) (c := {n := 77, ko := [2], xf := [15, 20]}) [(25,1,[]),(26,1,[])] [0, 2, 3, 4, 5, 6, 7, 8, 14, 66] hLT hmix Try.func8 rfl rfl ⟨rfl, rfl⟩ (by show 1 ≤ 77; decide) (by first | exact Nat.zero_le _ | exact Nat.le_refl _ | decide) ?_
  refine ⟨rfl, (by first | exact Nat.zero_le _ | decide), (t23R bs hb (r := 0) (sto := []) (Nat.le_refl 0)).mono ?_⟩
  rintro d l ⟨rfl, rfl⟩
  refine ⟨rfl, fun k hk => List.getElem?_append_left hk, rfl, ?_⟩
  refine ⟨rfl, (by first | exact Nat.zero_le _ | decide), (t24R bs hb (r := 1) (sto := [rdB bs ⟨0, 0, 0⟩]) (Nat.le_refl 1)).mono ?_⟩
  rintro d l ⟨rfl, rfl⟩
  refine ⟨rfl, fun k hk => List.getElem?_append_left hk, rfl, ?_⟩
  repeat (first | refine And.intro (fun _ => ?_) (fun h => Bool.noConfusion h) | refine And.intro (fun h => Bool.noConfusion h) (fun _ => ?_))
  obtain ⟨hsim, hlen⟩ := sim_all bs
  have c5 := t25Q bs hb
  have ct := t26Q bs hb (allG bs ⟨0, 0, 0⟩)
  generalize allG bs ⟨0, 0, 0⟩ = g at *
  generalize allX bs ⟨0, 0, 0⟩ = x at *
  refine ⟨rfl, Nat.le_refl 0, c5.mono ?_⟩
  rintro d l ⟨hd, rfl⟩
  by_cases hok : okG g = true
  · rw [if_pos hok] at hd
    subst hd
    have hg : g.ok = true ∧ g.rd.fw = 0 := of_decide_eq_true hok
    have hx : x.1.fw = 0 ∧ okX none x.2 = true := ⟨by rw [← hsim.rd]; exact hg.2, by rw [← hsim.ok]; exact hg.1⟩
    refine ⟨rfl, fun k hk => absurd hk (Nat.not_lt_zero k), rfl, ?_⟩
    refine ⟨rfl, Nat.le_refl 0, ct.mono ?_⟩
    rintro d l ⟨hd, rfl⟩
    unfold retX at hd
    rw [if_pos hx] at hd
    obtain ⟨sz, hsz, rfl⟩ := hd
    refine ⟨rfl, fun k hk => absurd hk (Nat.not_lt_zero k), rfl, ?_⟩
    refine ⟨⟨4398046511103, [0, 0, 3, 4, 8, 24, 8, 104, 136, 264, 512, 1536, 512, 4608, 8704, 16896, 35328, 66048, 133120, 262144, 786432, 1310720, 2359296, 4456448, 262144, 17039360, 33816576, 67371008, 142868480, 268697600, 545259520, 1073741824, 3221225472, 5368709120, 9663676416, 18253611008, 1073741824, 69793218560, 138512695296, 275951648768, 585189294080, 1100585369600], [1, 2, 7, 15, 31, 63, 79, 255, 511, 1023, 2047, 4095, 5119, 13311, 29695, 62463, 131071, 262143, 524287, 1048575, 2097151, 4194303, 8388607, 16777215, 17301503, 50855935, 117964799, 252182527, 536870911, 1073741823, 2147483647, 4294967295, 8589934591, 17179869183, 34359738367, 68719476735, 70866960383, 208305913855, 483183820799, 1032939634687, 2199023255551, 4398046511103]⟩, by kernel_rfl, ?_⟩
    repeat (first | refine And.intro (fun _ => ?_) (fun h => Bool.noConfusion h) | refine And.intro (fun h => Bool.noConfusion h) (fun _ => ?_))
    refine And.intro ?_ trivial
    refine ⟨rfl, (by first | exact Nat.zero_le _ | decide), (t27Q bs g x.1).mono ?_⟩
    rintro d l ⟨rfl, rfl⟩
    refine ⟨rfl, fun _ _ => rfl, rfl, ?_⟩
    refine And.intro (by repeat (first | exact trivial | refine And.intro ⟨rfl, rfl⟩ ?_)) ?_
    have hp : ((g.rd.p : Nat) : Int) = ((x.1.p : Nat) : Int) := by rw [hsim.rd]
    refine And.intro (fun h => absurd hp (nd_true h)) (fun _ => ?_)
    repeat (first | refine And.intro (fun _ => ?_) (fun h => Bool.noConfusion h) | refine And.intro (fun h => Bool.noConfusion h) (fun _ => ?_))
    refine And.intro ?_ trivial
    refine ⟨rfl, (by first | exact Nat.zero_le _ | decide), ((t28 g.rd.fa g.rd.fw).pure rfl rfl rfl rfl (r := 4) (sto := stU bs g x.1) (Nat.le_refl 4)).mono ?_⟩
    rintro d l ⟨rfl, rfl⟩
    refine ⟨rfl, fun _ _ => rfl, rfl, ?_⟩
    refine And.intro (by repeat (first | exact trivial | refine And.intro ⟨rfl, rfl⟩ ?_)) ?_
    have hp : g.rd.fw = x.1.fw := by rw [hsim.rd]
    refine And.intro (fun h => absurd hp (nd_true h)) (fun _ => ?_)
    repeat (first | refine And.intro (fun _ => ?_) (fun h => Bool.noConfusion h) | refine And.intro (fun h => Bool.noConfusion h) (fun _ => ?_))
    refine And.intro ?_ trivial
    refine ⟨rfl, (by first | exact Nat.zero_le _ | decide), ((t29 g.rd.fa g.rd.fw).pure rfl rfl rfl rfl (r := 4) (sto := stU bs g x.1) (Nat.le_refl 4)).mono ?_⟩
    rintro d l ⟨rfl, rfl⟩
    refine ⟨rfl, fun _ _ => rfl, rfl, ?_⟩
    refine And.intro (by repeat (first | exact trivial | refine And.intro ⟨rfl, rfl⟩ ?_)) ?_
    have hp : g.rd.fa = x.1.fa := by rw [hsim.rd]
    refine And.intro (fun h => absurd hp (nd_true h)) (fun _ => ?_)
    repeat (first | refine And.intro (fun _ => ?_) (fun h => Bool.noConfusion h) | refine And.intro (fun h => Bool.noConfusion h) (fun _ => ?_))
    obtain ⟨hm, hl, hri, hle⟩ := hsim.m hg.1
    have hTR : TR g.m x.2 := ⟨⟨by rw [hm], hri⟩, by rw [hm]; exact hlen, by rw [hm]; exact hsim.rng⟩
    refine ⟨rfl, (by first | exact Nat.zero_le _ | decide), ((t16 g.m x.2 hTR).tabRO rfl (nrBL_T1 rfl) (fun d h => by subst h; exact ⟨rfl, rfl⟩) (r := 4) (p := 2) (b := 3) (sto := stU bs g x.1) (Nat.le_refl 4) rfl rfl (by decide) (by decide) (by decide)).mono ?_⟩
    rintro d l ⟨rfl, rfl⟩
    refine ⟨rfl, fun _ _ => rfl, rfl, ?_⟩
    refine ⟨rfl, (by first | exact Nat.zero_le _ | decide), (t3.pure rfl rfl rfl rfl (r := 4) (sto := stU bs g x.1) (Nat.le_refl 4)).mono ?_⟩
    rintro d l ⟨rfl, rfl⟩
    refine ⟨rfl, fun _ _ => rfl, rfl, ?_⟩
    exact rfl
  · rw [if_neg hok] at hd
    subst hd
    have hx : ¬ (x.1.fw = 0 ∧ okX none x.2 = true) := fun h => hok (decide_eq_true ⟨by rw [hsim.ok]; exact h.2, by rw [hsim.rd]; exact h.1⟩)
    refine ⟨rfl, fun k hk => absurd hk (Nat.not_lt_zero k), rfl, ?_⟩
    refine ⟨rfl, Nat.le_refl 0, ct.mono ?_⟩
    rintro d l ⟨hd, rfl⟩
    unfold retX at hd
    rw [if_neg hx] at hd
    subst hd
    refine ⟨rfl, fun k hk => absurd hk (Nat.not_lt_zero k), rfl, ?_⟩
    refine ⟨⟨4398046511103, [0, 0, 3, 4, 8, 24, 8, 104, 136, 264, 512, 1536, 512, 4608, 8704, 16896, 35328, 66048, 133120, 262144, 786432, 1310720, 2359296, 4456448, 262144, 17039360, 33816576, 67371008, 142868480, 268697600, 545259520, 1073741824, 3221225472, 5368709120, 9663676416, 18253611008, 1073741824, 69793218560, 138512695296, 275951648768, 585189294080, 1100585369600], [1, 2, 7, 15, 31, 63, 79, 255, 511, 1023, 2047, 4095, 5119, 13311, 29695, 62463, 131071, 262143, 524287, 1048575, 2097151, 4194303, 8388607, 16777215, 17301503, 50855935, 117964799, 252182527, 536870911, 1073741823, 2147483647, 4294967295, 8589934591, 17179869183, 34359738367, 68719476735, 70866960383, 208305913855, 483183820799, 1032939634687, 2199023255551, 4398046511103]⟩, by kernel_rfl, ?_⟩
    repeat (first | refine And.intro (fun _ => ?_) (fun h => Bool.noConfusion h) | refine And.intro (fun h => Bool.noConfusion h) (fun _ => ?_))
    refine And.intro ?_ trivial
    refine ⟨rfl, (by first | exact Nat.zero_le _ | decide), (t27Q bs g x.1).mono ?_⟩
    rintro d l ⟨rfl, rfl⟩
    refine ⟨rfl, fun _ _ => rfl, rfl, ?_⟩
    refine And.intro (by repeat (first | exact trivial | refine And.intro ⟨rfl, rfl⟩ ?_)) ?_
    have hp : ((g.rd.p : Nat) : Int) = ((x.1.p : Nat) : Int) := by rw [hsim.rd]
    refine And.intro (fun h => absurd hp (nd_true h)) (fun _ => ?_)
    repeat (first | refine And.intro (fun _ => ?_) (fun h => Bool.noConfusion h) | refine And.intro (fun h => Bool.noConfusion h) (fun _ => ?_))
    refine And.intro ?_ trivial
    refine ⟨rfl, (by first | exact Nat.zero_le _ | decide), ((t28 g.rd.fa g.rd.fw).pure rfl rfl rfl rfl (r := 4) (sto := stU bs g x.1) (Nat.le_refl 4)).mono ?_⟩
    rintro d l ⟨rfl, rfl⟩
    refine ⟨rfl, fun _ _ => rfl, rfl, ?_⟩
    refine And.intro (by repeat (first | exact trivial | refine And.intro ⟨rfl, rfl⟩ ?_)) ?_
    have hp : g.rd.fw = x.1.fw := by rw [hsim.rd]
    refine And.intro (fun h => absurd hp (nd_true h)) (fun _ => ?_)
    repeat (first | refine And.intro (fun _ => ?_) (fun h => Bool.noConfusion h) | refine And.intro (fun h => Bool.noConfusion h) (fun _ => ?_))
    refine And.intro ?_ trivial
    refine ⟨rfl, (by first | exact Nat.zero_le _ | decide), ((t29 g.rd.fa g.rd.fw).pure rfl rfl rfl rfl (r := 4) (sto := stU bs g x.1) (Nat.le_refl 4)).mono ?_⟩
    rintro d l ⟨rfl, rfl⟩
    refine ⟨rfl, fun _ _ => rfl, rfl, ?_⟩
    refine And.intro (by repeat (first | exact trivial | refine And.intro ⟨rfl, rfl⟩ ?_)) ?_
    have hp : g.rd.fa = x.1.fa := by rw [hsim.rd]
    refine And.intro (fun h => absurd hp (nd_true h)) (fun _ => ?_)
    repeat (first | refine And.intro (fun _ => ?_) (fun h => Bool.noConfusion h) | refine And.intro (fun h => Bool.noConfusion h) (fun _ => ?_))
    refine ⟨rfl, (by first | exact Nat.zero_le _ | decide), (t3.pure rfl rfl rfl rfl (r := 4) (sto := stU bs g x.1) (Nat.le_refl 4)).mono ?_⟩
    rintro d l ⟨rfl, rfl⟩
    refine ⟨rfl, fun _ _ => rfl, rfl, ?_⟩
    exact rfl
theorem okBytes {n m : Nat} {x : List D} (h : OkD LT (n + 2) 42 x) (z : SzD LT (m + 1) 42 x) : ∃ bs : List Int, x = [.list .imm (bs.map rowB)] ∧ bs.length ≤ 140737488351232 ∧ ∀ b, b ∈ bs → 0 ≤ b ∧ b ≤ 255 := by
  obtain ⟨xs, rfl, _, h⟩ := h
  obtain ⟨xs', e, z, _⟩ := z
  cases e
  have key : ∀ xs : List (List D), (∀ r, r ∈ xs → r.length = LT.size 5 ∧ OkD LT (n + 1) 5 r) → ∃ bs : List Int, xs = bs.map rowB ∧ ∀ b, b ∈ bs → 0 ≤ b ∧ b ≤ 255 := by
    intro xs
    induction xs with
    | nil => intro _; exact ⟨[], rfl, fun a ha => by cases ha⟩
    | cons x r ih =>
      intro h
      obtain ⟨i, rfl, h1, h2⟩ := (h x (by simp)).2
      obtain ⟨al, rfl, has⟩ := ih fun y hy => h y (by simp [hy])
      exact ⟨i :: al, rfl, fun b hb => by
        rcases List.mem_cons.1 hb with e | hb
        · rw [e]; exact ⟨h1, h2⟩
        · exact has b hb⟩
  obtain ⟨bs, rfl, hb⟩ := key xs h
  have z : (bs.map rowB).length * 1 ≤ 140737488351232 := z
  rw [List.length_map] at z
  exact ⟨bs, rfl, by omega, hb⟩
end Go.Lv

namespace Go.Lv
open Go.Proofs

theorem take_rep_drop {α : Type} (l : List α) (m : Nat) (a b : α) : l ++ List.drop l.length (List.replicate (l.length + m) a) = l ++ List.replicate m a := by
  rw [List.drop_replicate, Nat.add_sub_cancel_left]
theorem set_rep {l : List Int} {m i : Nat} (h : i < m) : (l ++ (List.replicate i 44 ++ List.replicate (m - i) 0)).set (l.length + i) 44 = l ++ (List.replicate (i + 1) 44 ++ List.replicate (m - (i + 1)) 0) := by
  rw [List.set_append_right _ _ (by omega)]
  congr 1
  rw [show l.length + i - l.length = i by omega, List.set_append_right _ _ (by simp)]
  rw [show i - (List.replicate i (44 : Int)).length = 0 by simp, show m - i = (m - (i + 1)) + 1 by omega, List.replicate_succ, List.set_cons_zero, List.replicate_succ' , List.append_assoc]
  rfl
theorem allLenB' (bs : List Int) : allLen 1 (bs.map rowB) = true := by
  simp [allLen, rowB]
noncomputable def fR (bs : List Int) (i : Nat) : List Int := bs ++ (List.replicate i 44 ++ List.replicate (80 - i) 0)
noncomputable def sR (bs : List Int) (i : Nat) : DS := ⟨[(0, .list .imm (bs.map rowB)), (1, .int .u8 44), (5, .list (.own 1) ((fR bs i).map rowB)), (6, .int .i64 ((bs.length + i : Nat) : Int)), (4, .list (.own 0) [])], [], [], mR 0⟩
theorem fR_len (bs : List Int) {i : Nat} (h : i ≤ 80) : (fR bs i).length = bs.length + 80 := by
  simp only [fR, List.length_append, List.length_replicate]
  omega
set_option maxHeartbeats 4000000 in
theorem t17_0 (bs : List Int) (hb : bs.length ≤ 140737488351232) :
    Tri Try.prog 17 0 [.list .imm (bs.map rowB), .int .u8 44] [] (fun d l => d = .list (.own 1) ((bs ++ List.replicate 80 44).map rowB) ∧ l = []) := by
  refine Tri.walk2 (L := LT) (c := {n := 27, ko := [4, 5], xf := [26]}) [] [0, 1, 4, 5, 6, 19] hLT hmix Try.func17 rfl rfl ⟨rfl, rfl⟩ (by show 2 ≤ 27; decide) (by first | exact Nat.zero_le _ | exact Nat.le_refl _ | decide) ?_
  have hw : IntKind.i64.wrap (((bs.map rowB).length : Int) + 80) = ((bs.length + 80 : Nat) : Int) := by
    rw [List.length_map, wrap64 (by omega) (by omega)]
    omega
  refine And.intro ⟨by rw [hw]; omega, by rw [hw]; omega, by rw [hw]; show ((bs.length + 80 : Nat) : Int) * 1 ≤ 2 * 140737488355328; omega, by rw [hw]; omega, of_decide_eq_true rfl⟩ ?_
  have hrep : List.replicate (IntKind.i64.wrap (((bs.map rowB).length : Int) + 80)).toNat ([D.int .u8 0].map fz) = (List.replicate (bs.length + 80) (0 : Int)).map rowB := by
    rw [hw, Int.toNat_natCast, List.map_replicate]
    rfl
  have hrl : (List.replicate (IntKind.i64.wrap (((bs.map rowB).length : Int) + 80)).toNat ([D.int .u8 0].map fz)).length = bs.length + 80 := by
    rw [hrep]
    simp
  have rest : ∀ zs : List (List D), zs = (fR bs 0).map rowB → ∀ c Q, (∀ n s, (∃ i : Nat, n = 80 - i ∧ i ≤ 80 ∧ s = sR bs i) → wC Try.prog ⟨LT, {n := 27, ko := [4, 5], xf := [26]}, 0, 0⟩ [] [0, 1, 4, 5, 6, 19] c s (Ex.then (fun s' => ∃ k', k' < n ∧ ∃ i : Nat, k' = 80 - i ∧ i ≤ 80 ∧ nmB [0, 1, 5, 6, 4] [] s' = sR bs i) Q)) → Ok Try.prog ⟨LT, {n := 27, ko := [4, 5], xf := [26]}, 0, 0⟩ (.loop c) ⟨[(0, .list .imm (bs.map rowB)), (1, .int .u8 44), (4, .list (.own 0) []), (5, .list (.own 1) zs), (6, .int .i64 ((bs.map rowB).length : Int))], [], [], mR 0⟩ Q := by
    intro zs hzs c Q hr
    refine Ok.loopN hLT hmix [] [0, 1, 4, 5, 6, 19] [0,1,5,6,4] [] (fun n s => ∃ i : Nat, n = 80 - i ∧ i ≤ 80 ∧ s = sR bs i) (n := 80) ⟨0, rfl, by omega, by rw [hzs, List.length_map]; rfl⟩ ?_
    exact hr
  refine copy_any (e := 5) (ys := bs.map rowB) (zs := List.replicate (IntKind.i64.wrap (((bs.map rowB).length : Int) + 80)).toNat ([D.int .u8 0].map fz)) rfl rfl rfl rfl ⟨⟨rfl, rfl⟩, of_decide_eq_true rfl, allLenB' bs⟩ rfl ⟨rfl, rfl⟩ (fun hz => rest _ ?_ _ _ ?_) (fun hz => rest _ ?_ _ _ ?_)
  · rw [hrep]
    show List.take (min (bs.map rowB).length (List.map rowB (List.replicate (bs.length + 80) 0)).length) (bs.map rowB) ++ List.drop (min (bs.map rowB).length (List.map rowB (List.replicate (bs.length + 80) 0)).length) (List.map rowB (List.replicate (bs.length + 80) 0)) = (bs ++ ([] ++ List.replicate 80 0)).map rowB
    rw [List.length_map, List.length_map, List.length_replicate, Nat.min_eq_left (by omega), List.take_of_length_le (by simp), List.nil_append, List.map_append, ← List.map_drop, List.drop_replicate, Nat.add_sub_cancel_left]
  rotate_left
  · rw [hrl, List.length_map] at hz
    have h0 : bs = [] := List.length_eq_zero_iff.1 (show bs.length = 0 by omega)
    rw [hrep, h0]
    rfl
  all_goals
    rintro n s ⟨i, rfl, hi, rfl⟩
    have hl := fR_len bs hi
    refine And.intro (fun h1 => ?_) (fun h1 => ?_)
    · have h1 : ((bs.length + i : Nat) : Int) < (((fR bs i).map rowB).length : Int) := of_decide_eq_true h1
      rw [List.length_map, hl] at h1
      have hw1 : IntKind.i64.wrap (((bs.length + i : Nat) : Int) + 1) = ((bs.length + (i + 1) : Nat) : Int) := by
        rw [wrap64 (by omega) (by omega)]
        omega
      refine ⟨(fR bs i).map rowB, rowB ((fR bs i)[bs.length + i]'(by omega)), lsD_cp rfl ⟨rfl, rfl⟩ rfl, by omega, row_at' rowB (fR bs i) rfl (by omega), rfl, of_decide_eq_true rfl, ?_⟩
      refine ⟨_, storeD_elem rfl ⟨rfl, of_decide_eq_true rfl⟩ ⟨rfl, rfl⟩ rfl (row_at' rowB (fR bs i) rfl (by omega)) rfl, ?_⟩
      refine ⟨80 - (i + 1), by omega, i + 1, rfl, by omega, ?_⟩
      unfold sR
      rw [← hw1]
      have hs : ((fR bs i).map rowB).set (bs.length + i) (rowB 44) = (fR bs (i + 1)).map rowB := by
        rw [← List.map_set]
        unfold fR
        rw [set_rep (by omega)]
      rw [← hs]
      rfl
    · have h1 : ¬ ((bs.length + i : Nat) : Int) < (((fR bs i).map rowB).length : Int) := of_decide_eq_false h1
      rw [List.length_map, hl] at h1
      have : i = 80 := by omega
      subst this
      refine And.intro ?_ rfl
      unfold fR
      simp
end Go.Lv

namespace Go.Lv
open Go.Proofs

noncomputable def roomy (bs : List Int) : List Int := bs ++ List.replicate 80 44
theorem roomy_len (bs : List Int) : (roomy bs).length = bs.length + 80 := by simp [roomy]
theorem roomy_at {bs : List Int} {i : Nat} (h : bs.length ≤ i) (h2 : i < (roomy bs).length) : (roomy bs)[i] = 44 := by
  unfold roomy at h2 ⊢
  rw [List.getElem_append_right h]
  exact List.getElem_replicate _
noncomputable def sV (bs : List Int) (i : Nat) : DS := ⟨[(0, .list .imm ((roomy bs).map rowB)), (1, .list .imm (bs.map rowB)), (2, .int .u8 44), (7, .int .i64 (i : Int)), (6, .bool false)], [], [], mR 0⟩
set_option maxHeartbeats 4000000 in
theorem t21_0 (bs : List Int) (hb : bs.length ≤ 140737488351232) :
    Tri Try.prog 21 0 [.list .imm ((roomy bs).map rowB), .list .imm (bs.map rowB), .int .u8 44] [] (fun d l => d = .bool true ∧ l = []) := by
  refine Tri.walk2 (L := LT) (c := {n := 37, ko := [6]}) [] [0, 1, 2, 6, 7, 22, 28, 36] hLT hmix Try.func21 rfl rfl ⟨rfl, rfl⟩ (by show 3 ≤ 37; decide) (by first | exact Nat.zero_le _ | exact Nat.le_refl _ | decide) ?_
  have hrl := roomy_len bs
  have hw : IntKind.i64.wrap (((bs.map rowB).length : Int) + 80) = ((bs.length + 80 : Nat) : Int) := by
    rw [List.length_map, wrap64 (by omega) (by omega)]
    omega
  refine And.intro (fun h => absurd (by rw [hw, List.length_map, hrl]) (nd_true h)) (fun _ => ?_)
  refine And.intro ⟨by omega, by rw [List.length_map, List.length_map]; omega⟩ (And.intro (Nat.zero_le _) (And.intro (of_decide_eq_true rfl) (And.intro (allLenB' _) ?_)))
  refine ⟨rfl, Nat.zero_le _, ?_⟩
  have e : List.take (((bs.map rowB).length : Int).toNat - 0) (List.drop 0 ((roomy bs).map rowB)) = bs.map rowB := by
    rw [List.drop_zero, Int.toNat_natCast, List.length_map, Nat.sub_zero, ← List.map_take]
    unfold roomy
    rw [List.take_left]
  rw [e]
  refine (t19_0 bs bs (by omega) (by omega)).mono ?_
  rintro d l ⟨rfl, rfl⟩
  rw [decide_eq_true rfl]
  refine ⟨rfl, fun _ _ => rfl, rfl, ?_⟩
  repeat (first | refine And.intro (fun _ => ?_) (fun h => Bool.noConfusion h) | refine And.intro (fun h => Bool.noConfusion h) (fun _ => ?_))
  show Ok _ _ _ _ _
  refine Ok.loopN hLT hmix [] [0, 1, 2, 6, 7, 22, 28, 36] [0,1,2,7,6] [] (fun n s => ∃ i : Nat, n = bs.length + 80 - i ∧ bs.length ≤ i ∧ i ≤ bs.length + 80 ∧ s = sV bs i) (n := 80) ⟨bs.length, by omega, by omega, by omega, by rw [List.length_map]; rfl⟩ ?_
  rintro n s ⟨i, rfl, hi, hi2, rfl⟩
  refine And.intro (fun h1 => ?_) (fun h1 => ?_)
  · have h1 : ((i : Nat) : Int) < (((roomy bs).map rowB).length : Int) := of_decide_eq_true h1
    rw [List.length_map, hrl] at h1
    have hw1 : IntKind.i64.wrap ((i : Int) + 1) = ((i + 1 : Nat) : Int) := by
      rw [wrap64 (by omega) (by omega)]
      omega
    refine ⟨((roomy bs)).map rowB, rowB (((roomy bs))[i]'(by omega)), rfl, by omega, row_at' rowB ((roomy bs)) (by omega) (by omega), rfl, of_decide_eq_true rfl, ?_⟩
    have h44 : (roomy bs)[i]'(by omega) = 44 := roomy_at hi (by omega)
    refine And.intro (fun h => absurd h44 (nd_true h)) (fun _ => ?_)
    refine ⟨bs.length + 80 - (i + 1), by omega, i + 1, rfl, by omega, by omega, ?_⟩
    unfold sV
    rw [← hw1]
    rfl
  · exact And.intro rfl rfl
theorem t21 (bs : List Int) (hb : bs.length ≤ 140737488351232) {r : Nat} {sto : List Ob} (hr : r ≤ sto.length) :
    Tri Try.prog 21 r [.list .imm ((roomy bs).map rowB), .list .imm (bs.map rowB), .int .u8 44] sto (fun d l => d = .bool true ∧ l = sto) :=
  (t21_0 bs hb).pure rfl (by
    show (nrBLL 0 ((roomy bs).map rowB) && (nrBLL 0 (bs.map rowB) && true)) = true
    rw [nrBLL_B, nrBLL_B]
    rfl) rfl rfl hr
theorem t17 (bs : List Int) (hb : bs.length ≤ 140737488351232) {r : Nat} {sto : List Ob} (hr : r ≤ sto.length) :
    Tri Try.prog 17 r [.list .imm (bs.map rowB), .int .u8 44] sto (fun d l => d = .list (.own 1) ((roomy bs).map rowB) ∧ l = sto) :=
  (t17_0 bs hb).pure rfl (nrBL_B rfl) rfl (nrBLL_B (roomy bs)) hr
noncomputable def sY (m l : Tbl) (ps ks : List Int) (sz i : Nat) : DS := ⟨[(5, .gptr 1 0), (6, .list .imm (l.map rowT)), (9, .list (.own 1) (ps.map rowB)), (10, .list (.own sz) (ks.map rowI)), (11, .int .i64 (i : Int)), (4, .bool false)], [], stT m, mR 0⟩
noncomputable def sZ (m l : Tbl) (ps : List Int) (i : Nat) : DS := ⟨[(5, .gptr 1 0), (6, .list .imm (l.map rowT)), (9, .list (.own 1) (ps.map rowB)), (12, .int .i64 (i : Int)), (4, .bool false)], [], stT m, mR 0⟩
set_option maxHeartbeats 8000000 in
theorem t6 (al : List AskR) (hal : ∀ a, a ∈ al → inAsk a) (hlen : al.length ≤ 9223372036854775807) (bs : List Int) (hb : bs.length ≤ 140737488351232) :
    Tri Try.prog 6 0 [.list .imm (al.map encA), .list .imm (bs.map rowB)] [] (fun d l => d = .bool true) := by
  refine Tri.walk2 (L := LT) (c := {n := 72, ko := [4, 9, 10], xf := [13, 69]}) [(15,1,[]),(19,2,[])] [0, 1, 4, 5, 6, 7, 8, 9, 10, 11, 12, 20, 42, 46, 55] hLT hmix Try.func6 rfl rfl ⟨rfl, rfl⟩ (by show 2 ≤ 72; decide) (by first | exact Nat.zero_le _ | exact Nat.le_refl _ | decide) ?_
  refine ⟨rfl, Nat.le_refl 0, (t15 al hal hlen).mono ?_⟩
  rintro d l' ⟨m, l, rfl, rfl, hT⟩
  refine ⟨rfl, fun k hk => absurd hk (Nat.not_lt_zero k), rfl, ?_⟩
  have hml := hT.len
  have hll : l.length ≤ 16 := by rw [← hT.rt.len]; exact hT.len
  repeat (first | refine And.intro (fun _ => ?_) (fun h => Bool.noConfusion h) | refine And.intro (fun h => Bool.noConfusion h) (fun _ => ?_))
  refine ⟨rfl, (by first | exact Nat.zero_le _ | decide), (t17 bs hb (r := 2) (sto := stT m) (Nat.le_refl 2)).mono ?_⟩
  rintro d l ⟨rfl, rfl⟩
  refine ⟨rfl, fun _ _ => rfl, rfl, ?_⟩
  refine And.intro ⟨by omega, by rw [List.length_map, List.length_map, roomy_len]; omega⟩ (And.intro (Nat.zero_le _) (And.intro (of_decide_eq_true rfl) (And.intro (allLenB' _) ?_)))
  refine ⟨rfl, Nat.zero_le _, ?_⟩
  have e : List.take (((bs.map rowB).length : Int).toNat - 0) (List.drop 0 ((roomy bs).map rowB)) = bs.map rowB := by
    rw [List.drop_zero, Int.toNat_natCast, List.length_map, Nat.sub_zero, ← List.map_take]
    unfold roomy
    rw [List.take_left]
  rw [e]
  refine (t18 sortC m (by omega) hT.rng bs (by omega)).mono ?_
  rintro d l' ⟨rfl, rfl⟩
  refine ⟨rfl, fun _ _ => rfl, rfl, ?_⟩
  refine ⟨rfl, Nat.zero_le _, (t14 sortC m (by omega)).mono ?_⟩
  rintro d l' ⟨⟨sz, rfl, hsz⟩, rfl⟩
  refine ⟨rfl, fun _ _ => rfl, rfl, ?_⟩
  refine ⟨rfl, (by first | exact Nat.zero_le _ | decide), (t20 bs l (by omega) (by omega) (r := 2) (sto := stT m) (Nat.le_refl 2)).mono ?_⟩
  rintro d l ⟨rfl, rfl⟩
  refine ⟨rfl, fun _ _ => rfl, rfl, ?_⟩
  have hp : bs ++ (numB (m.length : Int) ++ rowsB (tabR m)) = bs ++ tblB l := by
    rw [hT.rt.tab, hT.rt.len]
    rfl
  rw [hp]
  have hbl : (bs ++ tblB l).length ≤ 1000000000000000 := by
    have := rowsB_len l
    have := numB_len (l.length : Int)
    simp only [tblB, List.length_append]
    omega
  refine ⟨_, lendL_look rfl rfl ⟨rfl, rfl⟩ rfl (lendL_any rfl rfl rfl), rfl, ?_⟩
  refine (t19 (bs ++ tblB l) (bs ++ tblB l) hbl hbl (r := 2) (sto := stT m) (Nat.le_refl 2)).mono ?_
  rintro d l' ⟨rfl, rfl⟩
  rw [decide_eq_true rfl]
  refine ⟨rfl, rfl, ?_⟩
  repeat (first | refine And.intro (fun _ => ?_) (fun h => Bool.noConfusion h) | refine And.intro (fun h => Bool.noConfusion h) (fun _ => ?_))
  refine ⟨rfl, (by first | exact Nat.zero_le _ | decide), (t21 bs hb (r := 2) (sto := stT m) (Nat.le_refl 2)).mono ?_⟩
  rintro d l ⟨rfl, rfl⟩
  refine ⟨rfl, fun _ _ => rfl, rfl, ?_⟩
  repeat (first | refine And.intro (fun _ => ?_) (fun h => Bool.noConfusion h) | refine And.intro (fun h => Bool.noConfusion h) (fun _ => ?_))
  generalize hps : bs ++ tblB l = ps at hbl
  have hkl : (sortI (m.map Prod.fst)).length ≤ 16 := by
    rw [(sortI_perm _).length_eq, List.length_map]
    exact hml
  generalize sortI (m.map Prod.fst) = ks at hkl
  clear hps
  show Ok _ _ _ _ _
  refine Ok.loopN hLT hmix [(15,1,[]),(19,2,[])] [0, 1, 4, 5, 6, 7, 8, 9, 10, 11, 12, 20, 42, 46, 55] [5,6,9,10,11,4] [] (fun n s => ∃ (i : Nat) (js : List Int), n = ks.length - i ∧ i ≤ ks.length ∧ js.length = ks.length ∧ s = sY m l ps js sz i) (n := ks.length) ⟨0, ks, rfl, Nat.zero_le _, rfl, rfl⟩ ?_
  rintro n s ⟨i, js, rfl, hi, hjl, rfl⟩
  refine And.intro (fun h1 => ?_) (fun h1 => ?_)
  · have h1 : ((i : Nat) : Int) < ((js.map rowI).length : Int) := of_decide_eq_true h1
    rw [List.length_map, hjl] at h1
    have hw1 : IntKind.i64.wrap ((i : Int) + 1) = ((i + 1 : Nat) : Int) := wrap_succ (n := ks.length) (by omega) (by omega)
    refine ⟨js.map rowI, rowI (js[i]'(by omega)), lsD_cp rfl ⟨rfl, rfl⟩ rfl, by omega, row_at' rowI js rfl (by omega), rfl, of_decide_eq_true rfl, ?_⟩
    refine ⟨_, storeD_elem rfl ⟨rfl, of_decide_eq_true rfl⟩ ⟨rfl, rfl⟩ rfl (row_at' rowI js rfl (by omega)) rfl, ?_⟩
    refine ⟨ks.length - (i + 1), by omega, i + 1, js.set i (-8), rfl, by omega, by rw [List.length_set, hjl], ?_⟩
    unfold sY
    rw [← hw1, List.map_set]
    rfl
  · show Ok _ _ _ _ _
    refine Ok.loopN hLT hmix [(15,1,[]),(19,2,[])] [0, 1, 4, 5, 6, 7, 8, 9, 10, 11, 12, 20, 42, 46, 55] [5,6,9,12,4] [] (fun n s => ∃ (i : Nat) (js : List Int), n = ps.length - i ∧ i ≤ ps.length ∧ js.length = ps.length ∧ s = sZ m l js i) (n := ps.length) ⟨0, ps, rfl, Nat.zero_le _, rfl, rfl⟩ ?_
    rintro n s ⟨i, js, rfl, hi, hjl, rfl⟩
    refine And.intro (fun h2 => ?_) (fun h2 => ?_)
    · have h2 : ((i : Nat) : Int) < ((js.map rowB).length : Int) := of_decide_eq_true h2
      rw [List.length_map, hjl] at h2
      have hw1 : IntKind.i64.wrap ((i : Int) + 1) = ((i + 1 : Nat) : Int) := wrap_succ (n := ps.length) (by omega) (by omega)
      refine ⟨js.map rowB, rowB (js[i]'(by omega)), lsD_cp rfl ⟨rfl, rfl⟩ rfl, by omega, row_at' rowB js rfl (by omega), rfl, of_decide_eq_true rfl, ?_⟩
      refine ⟨_, _, (readD_elem ⟨rfl, rfl⟩ rfl (row_at' rowB js rfl (by omega)) rfl).trans rfl, rfl, rfl, ?_⟩
      refine ⟨js.map rowB, rowB (js[i]'(by omega)), lsD_cp rfl ⟨rfl, rfl⟩ rfl, by omega, row_at' rowB js rfl (by omega), rfl, of_decide_eq_true rfl, ?_⟩
      refine ⟨_, storeD_elem rfl ⟨rfl, of_decide_eq_true rfl⟩ ⟨rfl, rfl⟩ rfl (row_at' rowB js rfl (by omega)) rfl, ?_⟩
      refine ⟨ps.length - (i + 1), by omega, i + 1, js.set i (IntKind.u8.wrap (255 - (js[i]'(by omega)))), rfl, by omega, by rw [List.length_set, hjl], ?_⟩
      unfold sZ
      rw [← hw1, List.map_set]
      rfl
    · refine ⟨rfl, (by first | exact Nat.zero_le _ | decide), (t16 m l hT).mono ?_⟩
      rintro d l ⟨rfl, rfl⟩
      refine ⟨rfl, fun _ _ => rfl, rfl, ?_⟩
      repeat (first | refine And.intro (fun _ => ?_) (fun h => Bool.noConfusion h) | refine And.intro (fun h => Bool.noConfusion h) (fun _ => ?_))
      refine ⟨rfl, (by first | exact Nat.zero_le _ | decide), (t3.pure rfl rfl rfl rfl (r := 2) (sto := stT m) (Nat.le_refl 2)).mono ?_⟩
      rintro d l ⟨rfl, rfl⟩
      refine ⟨rfl, fun _ _ => rfl, rfl, ?_⟩
      exact rfl
end Go.Lv
