/-
  Chapter 18: SessionBack answers true on all data.
-/
import Derived.Test.YtpfoccpolaggiaaW9
set_option linter.all false
set_option maxRecDepth 100000
namespace Go.Lv
open Go.Proofs

noncomputable def rdB (bs : List Int) (s : Rd) : Ob := .box [.int .i64 s.fa, .int .i64 s.fw, .list .imm (bs.map rowB), .int .i64 (s.p : Int)]
noncomputable def st5 (m l : Tbl) (bs : List Int) (p : Nat) : List Ob := [.map (encT m), .box [.map 0], rdB bs ⟨0, 0, p⟩, .map (encT l), .box [.map 3]]
theorem t23R (bs : List Int) (hb : bs.length ≤ 100000000000000) {r : Nat} {sto : List Ob} (hr : r ≤ sto.length) : Tri Try.prog 23 r [.list .imm (bs.map rowB)] sto (fun d l => d = .gptr sto.length 0 ∧ l = sto ++ [rdB bs ⟨0, 0, 0⟩]) := by
  have := Tri.ren (r := r) (sto := sto) (fun k => k) (t23_0 bs hb) (fun i j hi => by cases hi) (fun i o hi => by simp at hi) (fun i hi => by cases hi) hr rfl (fun x hx => by
    have : x = .list .imm (bs.map rowB) := by simpa using hx
    rw [this]
    exact nrB_nr (nrBLL_B bs)) (fun o ho => by cases ho) rfl (fun d l ⟨h1, h2⟩ => by subst h1; subst h2; exact ⟨rfl, rfl⟩)
  rw [show renL (fun k => k) [.list .imm (bs.map rowB)] = [.list .imm (bs.map rowB)] by show [D.list .imm (renLL _ (bs.map rowB))] = _; rw [renLL_id _ (nrBLL_B bs)]] at this
  refine this.mono fun d l ⟨d1, l1, ⟨h1, h2⟩, h3, h4⟩ => ?_
  subst h1; subst h2
  refine ⟨?_, ?_⟩
  · rw [h3]
    show D.gptr (extR _ 0 sto.length 0) 0 = _
    simp [extR]
  · rw [h4]
    show sto ++ [.box [.int .i64 0, .int .i64 0, .list .imm (renLL _ (bs.map rowB)), .int .i64 ((0 : Nat) : Int)]] = _
    rw [renLL_id _ (nrBLL_B bs)]
    rfl
/-- Get, behind a table. -/
theorem t25R (m : Tbl) (bs : List Int) (hb : bs.length ≤ 100000000000000) {last : Int} {l : Tbl} (h : allG bs ⟨0, 0, 0⟩ = ⟨⟨0, 0, bs.length⟩, last, true, l⟩) :
    Tri Try.prog 25 0 [.gptr 2 0] (stT m ++ [rdB bs ⟨0, 0, 0⟩]) (fun d l' => d = .tup [.gptr 4 0, .bool true] ∧ l' = st5 m l bs bs.length) := by
  have h0 := t25 bs hb ⟨0, 0, 0⟩ (Nat.zero_le _)
  rw [h] at h0
  have h1 : Tri Try.prog 25 0 [.gptr 0 0] (stRd bs ⟨0, 0, 0⟩) (fun d l' => d = .tup [.gptr 2 0, .bool true] ∧ l' = stG bs ⟨0, 0, bs.length⟩ l) := h0.mono fun d l' ⟨q1, q2⟩ => ⟨by rw [q1, if_pos ⟨rfl, rfl⟩], q2⟩
  have hre : ∀ (t : Rd) (ρ : Nat → Nat), renO ρ (rdB bs t) = rdB bs t := fun t ρ => by
    show Ob.box [.int .i64 t.fa, .int .i64 t.fw, .list .imm (renLL ρ (bs.map rowB)), .int .i64 (t.p : Int)] = _
    rw [renLL_id ρ (nrBLL_B bs)]
    rfl
  have := Tri.ren (r := 0) (sto := stT m ++ [rdB bs ⟨0, 0, 0⟩]) (fun _ => 2) h1 (fun i j hi hj e => by
      have hi : i < 1 := hi
      have hj : j < 1 := hj
      omega) (fun i o hi => by
      match i, hi with
      | 0, hi =>
        have : o = rdB bs ⟨0, 0, 0⟩ := by simpa [stRd, stR, rdB] using hi.symm
        rw [this, hre]
        rfl
      | i + 1, hi => simp [stRd, stR] at hi) (fun i hi => ⟨fun h => absurd h (Nat.not_lt_zero _), fun h => absurd h (Nat.not_lt_zero _)⟩) (Nat.zero_le _) rfl (fun x hx => by
      have : x = .gptr 0 0 := by simpa using hx
      rw [this]
      exact .gptr _ _ (by show 0 < 1; omega)) (fun o ho => by
      have : o = rdB bs ⟨0, 0, 0⟩ := by simpa [stRd, stR, rdB] using ho
      rw [this]
      refine (nrO_nr (k := 0) (o := .box _) ?_ : NRo 0 _) |> fun h d hd => (h d hd).up (Nat.zero_le _)
      show (nrBLL 0 (bs.map rowB) && true) = true
      rw [nrBLL_B]
      rfl) rfl (fun d l ⟨h1, h2⟩ => by subst h1; subst h2; exact ⟨rfl, rfl⟩)
  refine this.mono fun d' l' ⟨d1, l1, ⟨h1, h2⟩, h3, h4⟩ => ?_
  subst h1; subst h2
  refine ⟨by rw [h3]; rfl, ?_⟩
  rw [h4]
  show (stT m ++ [rdB bs ⟨0, 0, 0⟩]).set 2 (renO _ (rdB bs ⟨0, 0, bs.length⟩)) ++ [.map (encT l), .box [.map 3]] = _
  rw [hre]
  rfl
noncomputable def sJ (al bl : List AskR) (i : Nat) (m : Tbl) : DS := ⟨[(0, .list .imm (al.map encA)), (1, .list .imm (bl.map encA)), (5, .gptr 1 0), (6, .int .i64 (i : Int)), (4, .bool false)], [], stT m, mR 0⟩
noncomputable def sK (bl : List AskR) (bs : List Int) (p : Nat) (i : Nat) (m l : Tbl) : DS := ⟨[(1, .list .imm (bl.map encA)), (5, .gptr 1 0), (9, .gptr 4 0), (11, .int .i64 (i : Int)), (4, .bool false)], [], st5 m l bs p, mR 0⟩
noncomputable def M9 : Ms := [(10, 1, []), (12, 1, []), (25, 1, []), (30, 1, [])]
noncomputable def lv9 : List Nat := [0, 1, 4, 5, 6, 7, 8, 9, 10, 11, 12, 13, 14, 15, 18, 26, 51, 67, 75, 152]
set_option maxHeartbeats 16000000 in
theorem t9 (al bl : List AskR) (hal : ∀ a, a ∈ al → inAsk a) (hbl : ∀ a, a ∈ bl → inAsk a) :
    Tri Try.prog 9 0 [.list .imm (al.map encA), .list .imm (bl.map encA)] [] (fun d l => d = .bool true) := by
  refine Tri.walk2 (L := LT) (c := {n := 161, ko := [4]}) M9 lv9 hLT hmix Try.func9 rfl rfl ⟨rfl, rfl⟩ (by show 2 ≤ 161; decide) (Nat.le_refl _) ?_
  refine ⟨rfl, Nat.le_refl 0, t10.mono ?_⟩
  rintro d l' ⟨rfl, rfl⟩
  refine ⟨rfl, fun k hk => absurd hk (Nat.not_lt_zero k), rfl, ?_⟩
  refine And.intro (fun h => by cases h) (fun _ => ?_)
  show Ok _ _ _ _ _
  refine Ok.loopN hLT hmix M9 lv9 [0, 1, 5, 6, 4] [] (fun n s => ∃ (i : Nat) (m : Tbl), n = 40 - i ∧ i ≤ 40 ∧ TV m ∧ s = sJ al bl i m) (n := 40) ⟨0, [], rfl, by omega, TV.nil, rfl⟩ ?_
  rintro n s ⟨i, m, rfl, hi, hm, rfl⟩
  refine And.intro (fun h1 => ?_) (fun h1 => ?_)
  · refine And.intro (fun h2 => ?_) (fun h2 => ?_)
    · have hi1 : i < al.length := by
        have : ((i : Nat) : Int) < ((al.map encA).length : Int) := of_decide_eq_true h1
        rw [List.length_map] at this
        omega
      have hi2 : i < 40 := by have := of_decide_eq_true h2; omega
      have hrow := row_at (f := encA) al hi1
      have hw : IntKind.i64.wrap ((i : Int) + 1) = ((i + 1 : Nat) : Int) := wrap_succ hi2 (by omega)
      have hb := hal al[i] (List.getElem_mem hi1)
      generalize al[i] = b at hrow hb
      refine ⟨⟨131071, [0, 0, 0, 6, 8, 16, 0, 0, 192, 256, 512, 0, 0, 6144, 8192, 16384, 33825], [1, 2, 4, 14, 30, 62, 64, 128, 448, 960, 1984, 2048, 4096, 14336, 30720, 63488, 131071]⟩, by kernel_rfl, ?_⟩
      refine ⟨al.map encA, encA b, rfl, by omega, hrow, rfl, (by show 0 < 7; decide), ?_⟩
      refine And.intro rfl ?_
      refine ⟨al.map encA, encA b, rfl, by omega, hrow, rfl, (by show 0 < 7; decide), ?_⟩
      refine And.intro rfl ?_
      refine ⟨al.map encA, encA b, rfl, by omega, hrow, rfl, (by show 0 < 7; decide), ?_⟩
      refine And.intro rfl ?_
      refine And.intro ?_ trivial
      refine ⟨rfl, Nat.le_refl 0, (t12 m b.sess b.seq b.rp).mono ?_⟩
      rintro d l' ⟨rfl, rfl⟩
      refine ⟨rfl, fun k hk => absurd hk (Nat.not_lt_zero k), rfl, ?_⟩
      refine And.intro trivial ?_
      refine ⟨40 - (i + 1), by omega, i + 1, _, rfl, by omega, hm.done hb.1 hb.2.1 hb.2.2, ?_⟩
      unfold sJ
      rw [← hw]
      rfl
    · have hm16 := hm.len
      have hbl5 := bytT_len (m := m) (by omega)
      obtain ⟨last, l, hback, hperm⟩ := back_tab hm
      refine ⟨rfl, Nat.zero_le 2, (t18 sortC m (by omega) hm.rng [] (by simp)).mono ?_⟩
      rintro d l' ⟨rfl, rfl⟩
      refine ⟨rfl, fun _ _ => rfl, rfl, ?_⟩
      refine ⟨rfl, Nat.zero_le 2, (t23R (bytT m) (by omega) (r := 2) (sto := stT m) (Nat.le_refl 2)).mono ?_⟩
      rintro d l' ⟨rfl, rfl⟩
      refine ⟨rfl, fun k hk => List.getElem?_append_left (show k < (stT m).length from hk), rfl, ?_⟩
      refine And.intro (fun h => by cases h) (fun _ => ?_)
      refine ⟨rfl, Nat.le_refl 0, (t25R m (bytT m) (by omega) hback).mono ?_⟩
      rintro d l' ⟨rfl, rfl⟩
      refine ⟨rfl, fun k hk => absurd hk (Nat.not_lt_zero k), rfl, ?_⟩
      refine And.intro (fun h => by cases h) (fun _ => ?_)
      generalize bytT m = bs at hbl5
      refine ⟨rfl, Nat.le_refl 0, (Tri.rdRW (t30 bs ⟨0, 0, bs.length⟩) rfl rfl rfl rfl (r := 0) (b := 2) (sto := st5 m l bs bs.length) (Nat.zero_le _) rfl (Nat.zero_le _)).mono ?_⟩
      rintro d l' ⟨hd, hl⟩
      have he : endRd bs ⟨0, 0, bs.length⟩ = (0, ⟨0, 0, bs.length⟩) := by
        unfold endRd
        rw [if_neg (fun h => Nat.lt_irrefl _ h.2)]
      rw [he] at hd hl
      subst hd; subst hl
      refine ⟨rfl, fun k hk => absurd hk (Nat.not_lt_zero k), rfl, ?_⟩
      refine And.intro (fun h => by simp at h) (fun _ => ?_)
      show Ok _ _ _ _ _
      generalize bs.length = p
      refine Ok.loopN hLT hmix M9 lv9 [1, 5, 9, 11, 4] [] (fun n s => ∃ (i : Nat) (m l : Tbl), n = 40 - i ∧ i ≤ 40 ∧ TV m ∧ l.Perm m ∧ s = sK bl bs p i m l) (n := 40) ⟨0, m, l, rfl, by omega, hm, hperm, rfl⟩ ?_
      clear hback hperm hbl5 hm16 hm hi
      rintro n s ⟨i, m, l, rfl, hi, hm, hperm, rfl⟩
      have hm16 := hm.len
      refine And.intro (fun h3 => ?_) (fun h3 => ?_)
      · refine And.intro (fun h4 => ?_) (fun h4 => ?_)
        · have hi1 : i < bl.length := by
            have : ((i : Nat) : Int) < ((bl.map encA).length : Int) := of_decide_eq_true h3
            rw [List.length_map] at this
            omega
          have hi2 : i < 40 := by have := of_decide_eq_true h4; omega
          have hrow := row_at (f := encA) bl hi1
          have hw : IntKind.i64.wrap ((i : Int) + 1) = ((i + 1 : Nat) : Int) := wrap_succ hi2 (by omega)
          have hb := hbl bl[i] (List.getElem_mem hi1)
          generalize bl[i] = b at hrow hb
          have hm' := hm.done hb.1 hb.2.1 hb.2.2
          have hdn := done_perm hperm hm.nd b.sess b.seq b.rp
          obtain ⟨⟨pw, ps, pd, pt⟩, fb, hz⟩ : ∃ p b', askZ b.sess b.seq m = (p, b') := ⟨_, _, rfl⟩
          have hz2 : askZ b.sess b.seq l = (⟨pw, ps, pd, pt⟩, fb) := (ask_perm hperm hm.nd b.sess b.seq).trans hz
          cases fb with
          | true =>
            refine ⟨⟨196607, [0, 0, 0, 6, 8, 16, 0, 0, 192, 256, 512, 1057, 2048, 4096, 4096, 0, 49151, 131071], [1, 2, 4, 14, 30, 62, 64, 128, 448, 960, 1984, 4095, 8191, 16383, 24575, 32768, 114687, 262143]⟩, by kernel_rfl, ?_⟩
            refine ⟨bl.map encA, encA b, rfl, by omega, hrow, rfl, (by show 0 < 7; decide), ?_⟩
            refine And.intro rfl ?_
            refine ⟨bl.map encA, encA b, rfl, by omega, hrow, rfl, (by show 0 < 7; decide), ?_⟩
            refine And.intro rfl ?_
            refine And.intro ?_ (And.intro ?_ trivial)
            focus
              refine ⟨rfl, Nat.zero_le 5, ((t11 m b.sess b.seq).tabRO rfl rfl (fun d h => by subst h; exact ⟨rfl, rfl⟩) (r := 5) (p := 0) (b := 1) (sto := st5 m l bs p) (Nat.le_refl 5) rfl rfl (by decide) (by decide) (by decide)).mono ?_⟩
              rintro d l' ⟨hd, rfl⟩
              rw [show askD b.sess b.seq m = .tup [.agg [.int .i64 pw, .int .i64 ps, .int .i64 pd, .int .i64 pt], .bool true] by simp only [askD, hz, encR]] at hd
              subst hd
              refine ⟨rfl, fun _ _ => rfl, rfl, ?_⟩
              refine And.intro trivial ?_
              refine And.intro (fun _ => ?_) (fun h => by cases h)
              refine And.intro ?_ trivial
              refine And.intro (And.intro ⟨rfl, rfl⟩ (And.intro ⟨rfl, rfl⟩ (And.intro ⟨rfl, rfl⟩ trivial))) ?_
              refine And.intro ?_ trivial
              refine And.intro (And.intro ⟨rfl, rfl⟩ trivial) ?_
              refine And.intro ?_ trivial
              refine And.intro trivial ?_
            rotate_left
            focus
              refine And.intro (And.intro ⟨rfl, rfl⟩ (And.intro ⟨rfl, rfl⟩ (And.intro ⟨bl.map encA, encA b, rfl, by omega, hrow, rfl, (by show 0 < 7; decide), And.intro rfl (And.intro rfl rfl)⟩ (And.intro ⟨rfl, rfl⟩ (And.intro ⟨rfl, rfl⟩ (And.intro ⟨rfl, rfl⟩ (And.intro ⟨rfl, rfl⟩ (And.intro ⟨bl.map encA, encA b, rfl, by omega, hrow, rfl, (by show 0 < 7; decide), And.intro rfl (And.intro rfl rfl)⟩ (And.intro ⟨rfl, rfl⟩ (And.intro ⟨rfl, rfl⟩ (And.intro ⟨rfl, rfl⟩ trivial))))))))))) ?_
              refine And.intro ?_ trivial
              refine ⟨rfl, Nat.zero_le 5, ((t11 m b.sess b.seq).tabRO rfl rfl (fun d h => by subst h; exact ⟨rfl, rfl⟩) (r := 5) (p := 0) (b := 1) (sto := st5 m l bs p) (Nat.le_refl 5) rfl rfl (by decide) (by decide) (by decide)).mono ?_⟩
              rintro d l' ⟨hd, rfl⟩
              rw [show askD b.sess b.seq m = .tup [.agg [.int .i64 pw, .int .i64 ps, .int .i64 pd, .int .i64 pt], .bool true] by simp only [askD, hz, encR]] at hd
              subst hd
              refine ⟨rfl, fun _ _ => rfl, rfl, ?_⟩
              refine And.intro trivial ?_
              refine And.intro (fun _ => ?_) (fun h => by cases h)
              refine And.intro ?_ trivial
              refine And.intro (And.intro ⟨rfl, rfl⟩ trivial) ?_
              refine And.intro ?_ trivial
              refine And.intro trivial ?_
            all_goals
              refine ⟨⟨196607, [0, 0, 0, 6, 8, 16, 0, 0, 192, 256, 512, 1057, 2048, 4096, 4096, 0, 49151, 131071], [1, 2, 4, 14, 30, 62, 64, 128, 448, 960, 1984, 4095, 8191, 16383, 24575, 32768, 114687, 262143]⟩, by kernel_rfl, ?_⟩
              refine ⟨bl.map encA, encA b, rfl, by omega, hrow, rfl, (by show 0 < 7; decide), ?_⟩
              refine And.intro rfl ?_
              refine ⟨bl.map encA, encA b, rfl, by omega, hrow, rfl, (by show 0 < 7; decide), ?_⟩
              refine And.intro rfl ?_
              refine And.intro ?_ (And.intro ?_ trivial)
              focus
                refine ⟨rfl, Nat.zero_le 5, ((t11 l b.sess b.seq).tabRO rfl rfl (fun d h => by subst h; exact ⟨rfl, rfl⟩) (r := 5) (p := 3) (b := 4) (sto := st5 m l bs p) (Nat.le_refl 5) rfl rfl (by decide) (by decide) (by decide)).mono ?_⟩
                rintro d l' ⟨hd, rfl⟩
                rw [show askD b.sess b.seq l = .tup [.agg [.int .i64 pw, .int .i64 ps, .int .i64 pd, .int .i64 pt], .bool true] by simp only [askD, hz2, encR]] at hd
                subst hd
                refine ⟨rfl, fun _ _ => rfl, rfl, ?_⟩
                refine And.intro trivial ?_
                refine And.intro (fun _ => ?_) (fun h => by cases h)
                refine And.intro ?_ trivial
                refine And.intro (And.intro ⟨rfl, rfl⟩ (And.intro ⟨rfl, rfl⟩ (And.intro ⟨rfl, rfl⟩ trivial))) ?_
                refine And.intro ?_ trivial
                refine And.intro (And.intro ⟨rfl, rfl⟩ trivial) ?_
                refine And.intro ?_ trivial
                refine And.intro trivial ?_
              rotate_left
              focus
                refine And.intro (And.intro ⟨rfl, rfl⟩ (And.intro ⟨rfl, rfl⟩ (And.intro ⟨bl.map encA, encA b, rfl, by omega, hrow, rfl, (by show 0 < 7; decide), And.intro rfl (And.intro rfl rfl)⟩ (And.intro ⟨rfl, rfl⟩ (And.intro ⟨rfl, rfl⟩ (And.intro ⟨rfl, rfl⟩ (And.intro ⟨rfl, rfl⟩ (And.intro ⟨bl.map encA, encA b, rfl, by omega, hrow, rfl, (by show 0 < 7; decide), And.intro rfl (And.intro rfl rfl)⟩ (And.intro ⟨rfl, rfl⟩ (And.intro ⟨rfl, rfl⟩ (And.intro ⟨rfl, rfl⟩ trivial))))))))))) ?_
                refine And.intro ?_ trivial
                refine ⟨rfl, Nat.zero_le 5, ((t11 l b.sess b.seq).tabRO rfl rfl (fun d h => by subst h; exact ⟨rfl, rfl⟩) (r := 5) (p := 3) (b := 4) (sto := st5 m l bs p) (Nat.le_refl 5) rfl rfl (by decide) (by decide) (by decide)).mono ?_⟩
                rintro d l' ⟨hd, rfl⟩
                rw [show askD b.sess b.seq l = .tup [.agg [.int .i64 pw, .int .i64 ps, .int .i64 pd, .int .i64 pt], .bool true] by simp only [askD, hz2, encR]] at hd
                subst hd
                refine ⟨rfl, fun _ _ => rfl, rfl, ?_⟩
                refine And.intro trivial ?_
                refine And.intro (fun _ => ?_) (fun h => by cases h)
                refine And.intro ?_ trivial
                refine And.intro (And.intro ⟨rfl, rfl⟩ trivial) ?_
                refine And.intro ?_ trivial
                refine And.intro trivial ?_
              all_goals
                refine ⟨⟨35184372088831, [0, 0, 3, 4, 8, 8, 56, 72, 136, 256, 256, 256, 3328, 4352, 8448, 256, 256, 98560, 131328, 262400, 256, 256, 3145984, 4194560, 8388864, 17318656, 256, 256, 256, 402653440, 536871168, 1073742080, 256, 256, 12884902144, 17179869440, 34359738624, 256, 256, 412316860672, 549755814144, 1099511628032, 2269990879488, 4398080065792, 8796093022464], [1, 2, 7, 15, 31, 47, 127, 255, 511, 1023, 1535, 2559, 7679, 15871, 32255, 33279, 66047, 229887, 492031, 1016319, 1049087, 2097663, 7340543, 15729151, 32506367, 67108863, 67109375, 134218239, 268435967, 939524607, 2013266431, 4160750079, 4294967807, 8589935103, 30064771583, 64424509951, 133143986687, 137438953983, 274877907455, 962072674815, 2061584302591, 4260607558143, 8796093022207, 17592186044415, 35184372088831]⟩, by kernel_rfl, ?_⟩
                refine And.intro (fun h => by simp at h) (fun _ => ?_)
                refine And.intro (fun h => by cases h) (fun _ => ?_)
                refine And.intro (fun _ => ?_) (fun h => by cases h)
                refine And.intro (fun _ => ?_) (fun h => by cases h)
                refine And.intro (fun h => by simp at h) (fun _ => ?_)
                refine And.intro (fun h => by cases h) (fun _ => ?_)
                refine And.intro (fun h => by cases h) (fun _ => ?_)
                refine ⟨bl.map encA, encA b, rfl, by omega, hrow, rfl, (by show 0 < 7; decide), ?_⟩
                refine And.intro rfl ?_
                refine ⟨bl.map encA, encA b, rfl, by omega, hrow, rfl, (by show 0 < 7; decide), ?_⟩
                refine And.intro rfl ?_
                refine ⟨bl.map encA, encA b, rfl, by omega, hrow, rfl, (by show 0 < 7; decide), ?_⟩
                refine And.intro rfl ?_
                refine ⟨bl.map encA, encA b, rfl, by omega, hrow, rfl, (by show 0 < 7; decide), ?_⟩
                refine And.intro rfl ?_
                refine ⟨bl.map encA, encA b, rfl, by omega, hrow, rfl, (by show 0 < 7; decide), ?_⟩
                refine And.intro rfl ?_
                refine ⟨bl.map encA, encA b, rfl, by omega, hrow, rfl, (by show 0 < 7; decide), ?_⟩
                refine And.intro rfl ?_
                refine And.intro ?_ trivial
                refine ⟨rfl, Nat.le_refl 0, (Tri.tabRW (t12 m b.sess b.seq b.rp) rfl rfl rfl rfl (r := 0) (p := 0) (b := 1) (sto := st5 m l bs p) (Nat.zero_le _) rfl rfl (by decide) (Nat.zero_le _) (Nat.zero_le _)).mono ?_⟩
                rintro d l' ⟨rfl, rfl⟩
                refine ⟨rfl, fun k hk => absurd hk (Nat.not_lt_zero k), rfl, ?_⟩
                refine And.intro (And.intro ⟨rfl, rfl⟩ (And.intro ⟨rfl, rfl⟩ (And.intro ⟨bl.map encA, encA b, rfl, by omega, hrow, rfl, (by show 0 < 7; decide), And.intro rfl (And.intro rfl rfl)⟩ (And.intro ⟨rfl, rfl⟩ (And.intro ⟨rfl, rfl⟩ (And.intro ⟨rfl, rfl⟩ (And.intro ⟨rfl, rfl⟩ (And.intro ⟨bl.map encA, encA b, rfl, by omega, hrow, rfl, (by show 0 < 7; decide), And.intro rfl (And.intro rfl rfl)⟩ (And.intro ⟨rfl, rfl⟩ (And.intro ⟨rfl, rfl⟩ (And.intro ⟨rfl, rfl⟩ (And.intro ⟨rfl, rfl⟩ (And.intro ⟨bl.map encA, encA b, rfl, by omega, hrow, rfl, (by show 0 < 7; decide), And.intro rfl (And.intro rfl rfl)⟩ (And.intro ⟨rfl, rfl⟩ (And.intro ⟨rfl, rfl⟩ (And.intro ⟨rfl, rfl⟩ trivial)))))))))))))))) ?_
                refine And.intro ?_ trivial
                refine ⟨rfl, Nat.le_refl 0, (Tri.tabRW (t12 l b.sess b.seq b.rp) rfl rfl rfl rfl (r := 0) (p := 3) (b := 4) (sto := st5 (doneZ b.sess b.seq b.rp m).2 l bs p) (Nat.zero_le _) rfl rfl (by decide) (Nat.zero_le _) (Nat.zero_le _)).mono ?_⟩
                rintro d l' ⟨rfl, rfl⟩
                refine ⟨rfl, fun k hk => absurd hk (Nat.not_lt_zero k), rfl, ?_⟩
                refine And.intro trivial ?_
                refine And.intro (fun h => by rw [hdn.1] at h; simp at h) (fun _ => ?_)
                refine And.intro (fun h => by cases h) (fun _ => ?_)
                refine ⟨40 - (i + 1), by omega, i + 1, _, _, rfl, by omega, hm', hdn.2, ?_⟩
                unfold sK
                rw [← hw]
                rfl
          | false =>
            refine ⟨⟨196607, [0, 0, 0, 6, 8, 16, 0, 0, 192, 256, 512, 1057, 2048, 4096, 4096, 0, 49151, 131071], [1, 2, 4, 14, 30, 62, 64, 128, 448, 960, 1984, 4095, 8191, 16383, 24575, 32768, 114687, 262143]⟩, by kernel_rfl, ?_⟩
            refine ⟨bl.map encA, encA b, rfl, by omega, hrow, rfl, (by show 0 < 7; decide), ?_⟩
            refine And.intro rfl ?_
            refine ⟨bl.map encA, encA b, rfl, by omega, hrow, rfl, (by show 0 < 7; decide), ?_⟩
            refine And.intro rfl ?_
            refine And.intro ?_ (And.intro ?_ trivial)
            focus
              refine ⟨rfl, Nat.zero_le 5, ((t11 m b.sess b.seq).tabRO rfl rfl (fun d h => by subst h; exact ⟨rfl, rfl⟩) (r := 5) (p := 0) (b := 1) (sto := st5 m l bs p) (Nat.le_refl 5) rfl rfl (by decide) (by decide) (by decide)).mono ?_⟩
              rintro d l' ⟨hd, rfl⟩
              rw [show askD b.sess b.seq m = .tup [.agg [.int .i64 pw, .int .i64 ps, .int .i64 pd, .int .i64 pt], .bool false] by simp only [askD, hz, encR]] at hd
              subst hd
              refine ⟨rfl, fun _ _ => rfl, rfl, ?_⟩
              refine And.intro trivial ?_
              refine And.intro (fun h => by cases h) (fun _ => ?_)
              refine And.intro ?_ trivial
              refine And.intro (And.intro ⟨rfl, rfl⟩ (And.intro ⟨rfl, rfl⟩ (And.intro ⟨rfl, rfl⟩ trivial))) ?_
              refine And.intro ?_ trivial
              refine And.intro (And.intro ⟨rfl, rfl⟩ trivial) ?_
              refine And.intro ?_ trivial
              refine And.intro trivial ?_
            rotate_left
            focus
              refine And.intro (And.intro ⟨rfl, rfl⟩ (And.intro ⟨rfl, rfl⟩ (And.intro ⟨bl.map encA, encA b, rfl, by omega, hrow, rfl, (by show 0 < 7; decide), And.intro rfl (And.intro rfl rfl)⟩ (And.intro ⟨rfl, rfl⟩ (And.intro ⟨rfl, rfl⟩ (And.intro ⟨rfl, rfl⟩ (And.intro ⟨rfl, rfl⟩ (And.intro ⟨bl.map encA, encA b, rfl, by omega, hrow, rfl, (by show 0 < 7; decide), And.intro rfl (And.intro rfl rfl)⟩ (And.intro ⟨rfl, rfl⟩ (And.intro ⟨rfl, rfl⟩ (And.intro ⟨rfl, rfl⟩ trivial))))))))))) ?_
              refine And.intro ?_ trivial
              refine ⟨rfl, Nat.zero_le 5, ((t11 m b.sess b.seq).tabRO rfl rfl (fun d h => by subst h; exact ⟨rfl, rfl⟩) (r := 5) (p := 0) (b := 1) (sto := st5 m l bs p) (Nat.le_refl 5) rfl rfl (by decide) (by decide) (by decide)).mono ?_⟩
              rintro d l' ⟨hd, rfl⟩
              rw [show askD b.sess b.seq m = .tup [.agg [.int .i64 pw, .int .i64 ps, .int .i64 pd, .int .i64 pt], .bool false] by simp only [askD, hz, encR]] at hd
              subst hd
              refine ⟨rfl, fun _ _ => rfl, rfl, ?_⟩
              refine And.intro trivial ?_
              refine And.intro (fun h => by cases h) (fun _ => ?_)
              refine And.intro ?_ trivial
              refine And.intro (And.intro ⟨rfl, rfl⟩ trivial) ?_
              refine And.intro ?_ trivial
              refine And.intro trivial ?_
            all_goals
              refine ⟨⟨196607, [0, 0, 0, 6, 8, 16, 0, 0, 192, 256, 512, 1057, 2048, 4096, 4096, 0, 49151, 131071], [1, 2, 4, 14, 30, 62, 64, 128, 448, 960, 1984, 4095, 8191, 16383, 24575, 32768, 114687, 262143]⟩, by kernel_rfl, ?_⟩
              refine ⟨bl.map encA, encA b, rfl, by omega, hrow, rfl, (by show 0 < 7; decide), ?_⟩
              refine And.intro rfl ?_
              refine ⟨bl.map encA, encA b, rfl, by omega, hrow, rfl, (by show 0 < 7; decide), ?_⟩
              refine And.intro rfl ?_
              refine And.intro ?_ (And.intro ?_ trivial)
              focus
                refine ⟨rfl, Nat.zero_le 5, ((t11 l b.sess b.seq).tabRO rfl rfl (fun d h => by subst h; exact ⟨rfl, rfl⟩) (r := 5) (p := 3) (b := 4) (sto := st5 m l bs p) (Nat.le_refl 5) rfl rfl (by decide) (by decide) (by decide)).mono ?_⟩
                rintro d l' ⟨hd, rfl⟩
                rw [show askD b.sess b.seq l = .tup [.agg [.int .i64 pw, .int .i64 ps, .int .i64 pd, .int .i64 pt], .bool false] by simp only [askD, hz2, encR]] at hd
                subst hd
                refine ⟨rfl, fun _ _ => rfl, rfl, ?_⟩
                refine And.intro trivial ?_
                refine And.intro (fun h => by cases h) (fun _ => ?_)
                refine And.intro ?_ trivial
                refine And.intro (And.intro ⟨rfl, rfl⟩ (And.intro ⟨rfl, rfl⟩ (And.intro ⟨rfl, rfl⟩ trivial))) ?_
                refine And.intro ?_ trivial
                refine And.intro (And.intro ⟨rfl, rfl⟩ trivial) ?_
                refine And.intro ?_ trivial
                refine And.intro trivial ?_
              rotate_left
              focus
                refine And.intro (And.intro ⟨rfl, rfl⟩ (And.intro ⟨rfl, rfl⟩ (And.intro ⟨bl.map encA, encA b, rfl, by omega, hrow, rfl, (by show 0 < 7; decide), And.intro rfl (And.intro rfl rfl)⟩ (And.intro ⟨rfl, rfl⟩ (And.intro ⟨rfl, rfl⟩ (And.intro ⟨rfl, rfl⟩ (And.intro ⟨rfl, rfl⟩ (And.intro ⟨bl.map encA, encA b, rfl, by omega, hrow, rfl, (by show 0 < 7; decide), And.intro rfl (And.intro rfl rfl)⟩ (And.intro ⟨rfl, rfl⟩ (And.intro ⟨rfl, rfl⟩ (And.intro ⟨rfl, rfl⟩ trivial))))))))))) ?_
                refine And.intro ?_ trivial
                refine ⟨rfl, Nat.zero_le 5, ((t11 l b.sess b.seq).tabRO rfl rfl (fun d h => by subst h; exact ⟨rfl, rfl⟩) (r := 5) (p := 3) (b := 4) (sto := st5 m l bs p) (Nat.le_refl 5) rfl rfl (by decide) (by decide) (by decide)).mono ?_⟩
                rintro d l' ⟨hd, rfl⟩
                rw [show askD b.sess b.seq l = .tup [.agg [.int .i64 pw, .int .i64 ps, .int .i64 pd, .int .i64 pt], .bool false] by simp only [askD, hz2, encR]] at hd
                subst hd
                refine ⟨rfl, fun _ _ => rfl, rfl, ?_⟩
                refine And.intro trivial ?_
                refine And.intro (fun h => by cases h) (fun _ => ?_)
                refine And.intro ?_ trivial
                refine And.intro (And.intro ⟨rfl, rfl⟩ trivial) ?_
                refine And.intro ?_ trivial
                refine And.intro trivial ?_
              all_goals
                refine ⟨⟨35184372088831, [0, 0, 3, 4, 8, 8, 56, 72, 136, 256, 256, 256, 3328, 4352, 8448, 256, 256, 98560, 131328, 262400, 256, 256, 3145984, 4194560, 8388864, 17318656, 256, 256, 256, 402653440, 536871168, 1073742080, 256, 256, 12884902144, 17179869440, 34359738624, 256, 256, 412316860672, 549755814144, 1099511628032, 2269990879488, 4398080065792, 8796093022464], [1, 2, 7, 15, 31, 47, 127, 255, 511, 1023, 1535, 2559, 7679, 15871, 32255, 33279, 66047, 229887, 492031, 1016319, 1049087, 2097663, 7340543, 15729151, 32506367, 67108863, 67109375, 134218239, 268435967, 939524607, 2013266431, 4160750079, 4294967807, 8589935103, 30064771583, 64424509951, 133143986687, 137438953983, 274877907455, 962072674815, 2061584302591, 4260607558143, 8796093022207, 17592186044415, 35184372088831]⟩, by kernel_rfl, ?_⟩
                refine And.intro (fun h => by simp at h) (fun _ => ?_)
                refine And.intro (fun h => by cases h) (fun _ => ?_)
                refine And.intro (fun h => by cases h) (fun _ => ?_)
                refine And.intro (fun h => by cases h) (fun _ => ?_)
                refine And.intro (fun h => by simp at h) (fun _ => ?_)
                refine And.intro (fun h => by cases h) (fun _ => ?_)
                refine And.intro (fun h => by cases h) (fun _ => ?_)
                refine ⟨bl.map encA, encA b, rfl, by omega, hrow, rfl, (by show 0 < 7; decide), ?_⟩
                refine And.intro rfl ?_
                refine ⟨bl.map encA, encA b, rfl, by omega, hrow, rfl, (by show 0 < 7; decide), ?_⟩
                refine And.intro rfl ?_
                refine ⟨bl.map encA, encA b, rfl, by omega, hrow, rfl, (by show 0 < 7; decide), ?_⟩
                refine And.intro rfl ?_
                refine ⟨bl.map encA, encA b, rfl, by omega, hrow, rfl, (by show 0 < 7; decide), ?_⟩
                refine And.intro rfl ?_
                refine ⟨bl.map encA, encA b, rfl, by omega, hrow, rfl, (by show 0 < 7; decide), ?_⟩
                refine And.intro rfl ?_
                refine ⟨bl.map encA, encA b, rfl, by omega, hrow, rfl, (by show 0 < 7; decide), ?_⟩
                refine And.intro rfl ?_
                refine And.intro ?_ trivial
                refine ⟨rfl, Nat.le_refl 0, (Tri.tabRW (t12 m b.sess b.seq b.rp) rfl rfl rfl rfl (r := 0) (p := 0) (b := 1) (sto := st5 m l bs p) (Nat.zero_le _) rfl rfl (by decide) (Nat.zero_le _) (Nat.zero_le _)).mono ?_⟩
                rintro d l' ⟨rfl, rfl⟩
                refine ⟨rfl, fun k hk => absurd hk (Nat.not_lt_zero k), rfl, ?_⟩
                refine And.intro (And.intro ⟨rfl, rfl⟩ (And.intro ⟨rfl, rfl⟩ (And.intro ⟨bl.map encA, encA b, rfl, by omega, hrow, rfl, (by show 0 < 7; decide), And.intro rfl (And.intro rfl rfl)⟩ (And.intro ⟨rfl, rfl⟩ (And.intro ⟨rfl, rfl⟩ (And.intro ⟨rfl, rfl⟩ (And.intro ⟨rfl, rfl⟩ (And.intro ⟨bl.map encA, encA b, rfl, by omega, hrow, rfl, (by show 0 < 7; decide), And.intro rfl (And.intro rfl rfl)⟩ (And.intro ⟨rfl, rfl⟩ (And.intro ⟨rfl, rfl⟩ (And.intro ⟨rfl, rfl⟩ (And.intro ⟨rfl, rfl⟩ (And.intro ⟨bl.map encA, encA b, rfl, by omega, hrow, rfl, (by show 0 < 7; decide), And.intro rfl (And.intro rfl rfl)⟩ (And.intro ⟨rfl, rfl⟩ (And.intro ⟨rfl, rfl⟩ (And.intro ⟨rfl, rfl⟩ trivial)))))))))))))))) ?_
                refine And.intro ?_ trivial
                refine ⟨rfl, Nat.le_refl 0, (Tri.tabRW (t12 l b.sess b.seq b.rp) rfl rfl rfl rfl (r := 0) (p := 3) (b := 4) (sto := st5 (doneZ b.sess b.seq b.rp m).2 l bs p) (Nat.zero_le _) rfl rfl (by decide) (Nat.zero_le _) (Nat.zero_le _)).mono ?_⟩
                rintro d l' ⟨rfl, rfl⟩
                refine ⟨rfl, fun k hk => absurd hk (Nat.not_lt_zero k), rfl, ?_⟩
                refine And.intro trivial ?_
                refine And.intro (fun h => by rw [hdn.1] at h; simp at h) (fun _ => ?_)
                refine And.intro (fun h => by cases h) (fun _ => ?_)
                refine ⟨40 - (i + 1), by omega, i + 1, _, _, rfl, by omega, hm', hdn.2, ?_⟩
                unfold sK
                rw [← hw]
                rfl
        · have hb5 := bytT_len (m := m) (by omega)
          have hbe := bytT_perm hperm hm.nd
          have hTl : TV l := ⟨(hperm.map Prod.fst).nodup_iff.2 hm.nd, by rw [hperm.length_eq]; exact hm.len, fun x hx => hm.rng x (hperm.mem_iff.1 hx), fun x hx => hm.ok x (hperm.mem_iff.1 hx)⟩
          have hl16 := hTl.len
          refine ⟨rfl, Nat.zero_le 5, ((t18 sortC m (by omega) hm.rng [] (by simp)).tabRO rfl rfl (fun d h => by subst h; exact ⟨rfl, nrBLL_B _⟩) (r := 5) (p := 0) (b := 1) (sto := st5 m l bs p) (Nat.le_refl 5) rfl rfl (by decide) (by decide) (by decide)).mono ?_⟩
          rintro d l' ⟨rfl, rfl⟩
          refine ⟨rfl, fun _ _ => rfl, rfl, ?_⟩
          refine ⟨rfl, Nat.zero_le 5, ((t18 sortC l (by omega) hTl.rng [] (by simp)).tabRO rfl rfl (fun d h => by subst h; exact ⟨rfl, nrBLL_B _⟩) (r := 5) (p := 3) (b := 4) (sto := st5 m l bs p) (Nat.le_refl 5) rfl rfl (by decide) (by decide) (by decide)).mono ?_⟩
          rintro d l' ⟨rfl, rfl⟩
          refine ⟨rfl, fun _ _ => rfl, rfl, ?_⟩
          refine ⟨rfl, Nat.zero_le 5, (t19 (bytT m) (bytT l) (by omega) (by rw [hbe]; omega) (r := 5) (sto := st5 m l bs p) (Nat.le_refl 5)).mono ?_⟩
          rintro d l' ⟨hd, rfl⟩
          rw [decide_eq_true hbe.symm] at hd
          subst hd
          refine ⟨rfl, fun _ _ => rfl, rfl, ?_⟩
          refine ⟨rfl, Nat.zero_le 5, (t3.pure rfl rfl rfl rfl (r := 5) (sto := st5 m l bs p) (Nat.le_refl 5)).mono ?_⟩
          rintro d l' ⟨rfl, rfl⟩
          refine ⟨rfl, fun _ _ => rfl, rfl, ?_⟩
          exact rfl
      · have hb5 := bytT_len (m := m) (by omega)
        have hbe := bytT_perm hperm hm.nd
        have hTl : TV l := ⟨(hperm.map Prod.fst).nodup_iff.2 hm.nd, by rw [hperm.length_eq]; exact hm.len, fun x hx => hm.rng x (hperm.mem_iff.1 hx), fun x hx => hm.ok x (hperm.mem_iff.1 hx)⟩
        have hl16 := hTl.len
        refine ⟨rfl, Nat.zero_le 5, ((t18 sortC m (by omega) hm.rng [] (by simp)).tabRO rfl rfl (fun d h => by subst h; exact ⟨rfl, nrBLL_B _⟩) (r := 5) (p := 0) (b := 1) (sto := st5 m l bs p) (Nat.le_refl 5) rfl rfl (by decide) (by decide) (by decide)).mono ?_⟩
        rintro d l' ⟨rfl, rfl⟩
        refine ⟨rfl, fun _ _ => rfl, rfl, ?_⟩
        refine ⟨rfl, Nat.zero_le 5, ((t18 sortC l (by omega) hTl.rng [] (by simp)).tabRO rfl rfl (fun d h => by subst h; exact ⟨rfl, nrBLL_B _⟩) (r := 5) (p := 3) (b := 4) (sto := st5 m l bs p) (Nat.le_refl 5) rfl rfl (by decide) (by decide) (by decide)).mono ?_⟩
        rintro d l' ⟨rfl, rfl⟩
        refine ⟨rfl, fun _ _ => rfl, rfl, ?_⟩
        refine ⟨rfl, Nat.zero_le 5, (t19 (bytT m) (bytT l) (by omega) (by rw [hbe]; omega) (r := 5) (sto := st5 m l bs p) (Nat.le_refl 5)).mono ?_⟩
        rintro d l' ⟨hd, rfl⟩
        rw [decide_eq_true hbe.symm] at hd
        subst hd
        refine ⟨rfl, fun _ _ => rfl, rfl, ?_⟩
        refine ⟨rfl, Nat.zero_le 5, (t3.pure rfl rfl rfl rfl (r := 5) (sto := st5 m l bs p) (Nat.le_refl 5)).mono ?_⟩
        rintro d l' ⟨rfl, rfl⟩
        refine ⟨rfl, fun _ _ => rfl, rfl, ?_⟩
        exact rfl
  · have hm16 := hm.len
    have hbl5 := bytT_len (m := m) (by omega)
    obtain ⟨last, l, hback, hperm⟩ := back_tab hm
    refine ⟨rfl, Nat.zero_le 2, (t18 sortC m (by omega) hm.rng [] (by simp)).mono ?_⟩
    rintro d l' ⟨rfl, rfl⟩
    refine ⟨rfl, fun _ _ => rfl, rfl, ?_⟩
    refine ⟨rfl, Nat.zero_le 2, (t23R (bytT m) (by omega) (r := 2) (sto := stT m) (Nat.le_refl 2)).mono ?_⟩
    rintro d l' ⟨rfl, rfl⟩
    refine ⟨rfl, fun k hk => List.getElem?_append_left (show k < (stT m).length from hk), rfl, ?_⟩
    refine And.intro (fun h => by cases h) (fun _ => ?_)
    refine ⟨rfl, Nat.le_refl 0, (t25R m (bytT m) (by omega) hback).mono ?_⟩
    rintro d l' ⟨rfl, rfl⟩
    refine ⟨rfl, fun k hk => absurd hk (Nat.not_lt_zero k), rfl, ?_⟩
    refine And.intro (fun h => by cases h) (fun _ => ?_)
    generalize bytT m = bs at hbl5
    refine ⟨rfl, Nat.le_refl 0, (Tri.rdRW (t30 bs ⟨0, 0, bs.length⟩) rfl rfl rfl rfl (r := 0) (b := 2) (sto := st5 m l bs bs.length) (Nat.zero_le _) rfl (Nat.zero_le _)).mono ?_⟩
    rintro d l' ⟨hd, hl⟩
    have he : endRd bs ⟨0, 0, bs.length⟩ = (0, ⟨0, 0, bs.length⟩) := by
      unfold endRd
      rw [if_neg (fun h => Nat.lt_irrefl _ h.2)]
    rw [he] at hd hl
    subst hd; subst hl
    refine ⟨rfl, fun k hk => absurd hk (Nat.not_lt_zero k), rfl, ?_⟩
    refine And.intro (fun h => by simp at h) (fun _ => ?_)
    show Ok _ _ _ _ _
    generalize bs.length = p
    refine Ok.loopN hLT hmix M9 lv9 [1, 5, 9, 11, 4] [] (fun n s => ∃ (i : Nat) (m l : Tbl), n = 40 - i ∧ i ≤ 40 ∧ TV m ∧ l.Perm m ∧ s = sK bl bs p i m l) (n := 40) ⟨0, m, l, rfl, by omega, hm, hperm, rfl⟩ ?_
    clear hback hperm hbl5 hm16 hm hi
    rintro n s ⟨i, m, l, rfl, hi, hm, hperm, rfl⟩
    have hm16 := hm.len
    refine And.intro (fun h3 => ?_) (fun h3 => ?_)
    · refine And.intro (fun h4 => ?_) (fun h4 => ?_)
      · have hi1 : i < bl.length := by
          have : ((i : Nat) : Int) < ((bl.map encA).length : Int) := of_decide_eq_true h3
          rw [List.length_map] at this
          omega
        have hi2 : i < 40 := by have := of_decide_eq_true h4; omega
        have hrow := row_at (f := encA) bl hi1
        have hw : IntKind.i64.wrap ((i : Int) + 1) = ((i + 1 : Nat) : Int) := wrap_succ hi2 (by omega)
        have hb := hbl bl[i] (List.getElem_mem hi1)
        generalize bl[i] = b at hrow hb
        have hm' := hm.done hb.1 hb.2.1 hb.2.2
        have hdn := done_perm hperm hm.nd b.sess b.seq b.rp
        obtain ⟨⟨pw, ps, pd, pt⟩, fb, hz⟩ : ∃ p b', askZ b.sess b.seq m = (p, b') := ⟨_, _, rfl⟩
        have hz2 : askZ b.sess b.seq l = (⟨pw, ps, pd, pt⟩, fb) := (ask_perm hperm hm.nd b.sess b.seq).trans hz
        cases fb with
        | true =>
          refine ⟨⟨196607, [0, 0, 0, 6, 8, 16, 0, 0, 192, 256, 512, 1057, 2048, 4096, 4096, 0, 49151, 131071], [1, 2, 4, 14, 30, 62, 64, 128, 448, 960, 1984, 4095, 8191, 16383, 24575, 32768, 114687, 262143]⟩, by kernel_rfl, ?_⟩
          refine ⟨bl.map encA, encA b, rfl, by omega, hrow, rfl, (by show 0 < 7; decide), ?_⟩
          refine And.intro rfl ?_
          refine ⟨bl.map encA, encA b, rfl, by omega, hrow, rfl, (by show 0 < 7; decide), ?_⟩
          refine And.intro rfl ?_
          refine And.intro ?_ (And.intro ?_ trivial)
          focus
            refine ⟨rfl, Nat.zero_le 5, ((t11 m b.sess b.seq).tabRO rfl rfl (fun d h => by subst h; exact ⟨rfl, rfl⟩) (r := 5) (p := 0) (b := 1) (sto := st5 m l bs p) (Nat.le_refl 5) rfl rfl (by decide) (by decide) (by decide)).mono ?_⟩
            rintro d l' ⟨hd, rfl⟩
            rw [show askD b.sess b.seq m = .tup [.agg [.int .i64 pw, .int .i64 ps, .int .i64 pd, .int .i64 pt], .bool true] by simp only [askD, hz, encR]] at hd
            subst hd
            refine ⟨rfl, fun _ _ => rfl, rfl, ?_⟩
            refine And.intro trivial ?_
            refine And.intro (fun _ => ?_) (fun h => by cases h)
            refine And.intro ?_ trivial
            refine And.intro (And.intro ⟨rfl, rfl⟩ (And.intro ⟨rfl, rfl⟩ (And.intro ⟨rfl, rfl⟩ trivial))) ?_
            refine And.intro ?_ trivial
            refine And.intro (And.intro ⟨rfl, rfl⟩ trivial) ?_
            refine And.intro ?_ trivial
            refine And.intro trivial ?_
          rotate_left
          focus
            refine And.intro (And.intro ⟨rfl, rfl⟩ (And.intro ⟨rfl, rfl⟩ (And.intro ⟨bl.map encA, encA b, rfl, by omega, hrow, rfl, (by show 0 < 7; decide), And.intro rfl (And.intro rfl rfl)⟩ (And.intro ⟨rfl, rfl⟩ (And.intro ⟨rfl, rfl⟩ (And.intro ⟨rfl, rfl⟩ (And.intro ⟨rfl, rfl⟩ (And.intro ⟨bl.map encA, encA b, rfl, by omega, hrow, rfl, (by show 0 < 7; decide), And.intro rfl (And.intro rfl rfl)⟩ (And.intro ⟨rfl, rfl⟩ (And.intro ⟨rfl, rfl⟩ (And.intro ⟨rfl, rfl⟩ trivial))))))))))) ?_
            refine And.intro ?_ trivial
            refine ⟨rfl, Nat.zero_le 5, ((t11 m b.sess b.seq).tabRO rfl rfl (fun d h => by subst h; exact ⟨rfl, rfl⟩) (r := 5) (p := 0) (b := 1) (sto := st5 m l bs p) (Nat.le_refl 5) rfl rfl (by decide) (by decide) (by decide)).mono ?_⟩
            rintro d l' ⟨hd, rfl⟩
            rw [show askD b.sess b.seq m = .tup [.agg [.int .i64 pw, .int .i64 ps, .int .i64 pd, .int .i64 pt], .bool true] by simp only [askD, hz, encR]] at hd
            subst hd
            refine ⟨rfl, fun _ _ => rfl, rfl, ?_⟩
            refine And.intro trivial ?_
            refine And.intro (fun _ => ?_) (fun h => by cases h)
            refine And.intro ?_ trivial
            refine And.intro (And.intro ⟨rfl, rfl⟩ trivial) ?_
            refine And.intro ?_ trivial
            refine And.intro trivial ?_
          all_goals
            refine ⟨⟨196607, [0, 0, 0, 6, 8, 16, 0, 0, 192, 256, 512, 1057, 2048, 4096, 4096, 0, 49151, 131071], [1, 2, 4, 14, 30, 62, 64, 128, 448, 960, 1984, 4095, 8191, 16383, 24575, 32768, 114687, 262143]⟩, by kernel_rfl, ?_⟩
            refine ⟨bl.map encA, encA b, rfl, by omega, hrow, rfl, (by show 0 < 7; decide), ?_⟩
            refine And.intro rfl ?_
            refine ⟨bl.map encA, encA b, rfl, by omega, hrow, rfl, (by show 0 < 7; decide), ?_⟩
            refine And.intro rfl ?_
            refine And.intro ?_ (And.intro ?_ trivial)
            focus
              refine ⟨rfl, Nat.zero_le 5, ((t11 l b.sess b.seq).tabRO rfl rfl (fun d h => by subst h; exact ⟨rfl, rfl⟩) (r := 5) (p := 3) (b := 4) (sto := st5 m l bs p) (Nat.le_refl 5) rfl rfl (by decide) (by decide) (by decide)).mono ?_⟩
              rintro d l' ⟨hd, rfl⟩
              rw [show askD b.sess b.seq l = .tup [.agg [.int .i64 pw, .int .i64 ps, .int .i64 pd, .int .i64 pt], .bool true] by simp only [askD, hz2, encR]] at hd
              subst hd
              refine ⟨rfl, fun _ _ => rfl, rfl, ?_⟩
              refine And.intro trivial ?_
              refine And.intro (fun _ => ?_) (fun h => by cases h)
              refine And.intro ?_ trivial
              refine And.intro (And.intro ⟨rfl, rfl⟩ (And.intro ⟨rfl, rfl⟩ (And.intro ⟨rfl, rfl⟩ trivial))) ?_
              refine And.intro ?_ trivial
              refine And.intro (And.intro ⟨rfl, rfl⟩ trivial) ?_
              refine And.intro ?_ trivial
              refine And.intro trivial ?_
            rotate_left
            focus
              refine And.intro (And.intro ⟨rfl, rfl⟩ (And.intro ⟨rfl, rfl⟩ (And.intro ⟨bl.map encA, encA b, rfl, by omega, hrow, rfl, (by show 0 < 7; decide), And.intro rfl (And.intro rfl rfl)⟩ (And.intro ⟨rfl, rfl⟩ (And.intro ⟨rfl, rfl⟩ (And.intro ⟨rfl, rfl⟩ (And.intro ⟨rfl, rfl⟩ (And.intro ⟨bl.map encA, encA b, rfl, by omega, hrow, rfl, (by show 0 < 7; decide), And.intro rfl (And.intro rfl rfl)⟩ (And.intro ⟨rfl, rfl⟩ (And.intro ⟨rfl, rfl⟩ (And.intro ⟨rfl, rfl⟩ trivial))))))))))) ?_
              refine And.intro ?_ trivial
              refine ⟨rfl, Nat.zero_le 5, ((t11 l b.sess b.seq).tabRO rfl rfl (fun d h => by subst h; exact ⟨rfl, rfl⟩) (r := 5) (p := 3) (b := 4) (sto := st5 m l bs p) (Nat.le_refl 5) rfl rfl (by decide) (by decide) (by decide)).mono ?_⟩
              rintro d l' ⟨hd, rfl⟩
              rw [show askD b.sess b.seq l = .tup [.agg [.int .i64 pw, .int .i64 ps, .int .i64 pd, .int .i64 pt], .bool true] by simp only [askD, hz2, encR]] at hd
              subst hd
              refine ⟨rfl, fun _ _ => rfl, rfl, ?_⟩
              refine And.intro trivial ?_
              refine And.intro (fun _ => ?_) (fun h => by cases h)
              refine And.intro ?_ trivial
              refine And.intro (And.intro ⟨rfl, rfl⟩ trivial) ?_
              refine And.intro ?_ trivial
              refine And.intro trivial ?_
            all_goals
              refine ⟨⟨35184372088831, [0, 0, 3, 4, 8, 8, 56, 72, 136, 256, 256, 256, 3328, 4352, 8448, 256, 256, 98560, 131328, 262400, 256, 256, 3145984, 4194560, 8388864, 17318656, 256, 256, 256, 402653440, 536871168, 1073742080, 256, 256, 12884902144, 17179869440, 34359738624, 256, 256, 412316860672, 549755814144, 1099511628032, 2269990879488, 4398080065792, 8796093022464], [1, 2, 7, 15, 31, 47, 127, 255, 511, 1023, 1535, 2559, 7679, 15871, 32255, 33279, 66047, 229887, 492031, 1016319, 1049087, 2097663, 7340543, 15729151, 32506367, 67108863, 67109375, 134218239, 268435967, 939524607, 2013266431, 4160750079, 4294967807, 8589935103, 30064771583, 64424509951, 133143986687, 137438953983, 274877907455, 962072674815, 2061584302591, 4260607558143, 8796093022207, 17592186044415, 35184372088831]⟩, by kernel_rfl, ?_⟩
              refine And.intro (fun h => by simp at h) (fun _ => ?_)
              refine And.intro (fun h => by cases h) (fun _ => ?_)
              refine And.intro (fun _ => ?_) (fun h => by cases h)
              refine And.intro (fun _ => ?_) (fun h => by cases h)
              refine And.intro (fun h => by simp at h) (fun _ => ?_)
              refine And.intro (fun h => by cases h) (fun _ => ?_)
              refine And.intro (fun h => by cases h) (fun _ => ?_)
              refine ⟨bl.map encA, encA b, rfl, by omega, hrow, rfl, (by show 0 < 7; decide), ?_⟩
              refine And.intro rfl ?_
              refine ⟨bl.map encA, encA b, rfl, by omega, hrow, rfl, (by show 0 < 7; decide), ?_⟩
              refine And.intro rfl ?_
              refine ⟨bl.map encA, encA b, rfl, by omega, hrow, rfl, (by show 0 < 7; decide), ?_⟩
              refine And.intro rfl ?_
              refine ⟨bl.map encA, encA b, rfl, by omega, hrow, rfl, (by show 0 < 7; decide), ?_⟩
              refine And.intro rfl ?_
              refine ⟨bl.map encA, encA b, rfl, by omega, hrow, rfl, (by show 0 < 7; decide), ?_⟩
              refine And.intro rfl ?_
              refine ⟨bl.map encA, encA b, rfl, by omega, hrow, rfl, (by show 0 < 7; decide), ?_⟩
              refine And.intro rfl ?_
              refine And.intro ?_ trivial
              refine ⟨rfl, Nat.le_refl 0, (Tri.tabRW (t12 m b.sess b.seq b.rp) rfl rfl rfl rfl (r := 0) (p := 0) (b := 1) (sto := st5 m l bs p) (Nat.zero_le _) rfl rfl (by decide) (Nat.zero_le _) (Nat.zero_le _)).mono ?_⟩
              rintro d l' ⟨rfl, rfl⟩
              refine ⟨rfl, fun k hk => absurd hk (Nat.not_lt_zero k), rfl, ?_⟩
              refine And.intro (And.intro ⟨rfl, rfl⟩ (And.intro ⟨rfl, rfl⟩ (And.intro ⟨bl.map encA, encA b, rfl, by omega, hrow, rfl, (by show 0 < 7; decide), And.intro rfl (And.intro rfl rfl)⟩ (And.intro ⟨rfl, rfl⟩ (And.intro ⟨rfl, rfl⟩ (And.intro ⟨rfl, rfl⟩ (And.intro ⟨rfl, rfl⟩ (And.intro ⟨bl.map encA, encA b, rfl, by omega, hrow, rfl, (by show 0 < 7; decide), And.intro rfl (And.intro rfl rfl)⟩ (And.intro ⟨rfl, rfl⟩ (And.intro ⟨rfl, rfl⟩ (And.intro ⟨rfl, rfl⟩ (And.intro ⟨rfl, rfl⟩ (And.intro ⟨bl.map encA, encA b, rfl, by omega, hrow, rfl, (by show 0 < 7; decide), And.intro rfl (And.intro rfl rfl)⟩ (And.intro ⟨rfl, rfl⟩ (And.intro ⟨rfl, rfl⟩ (And.intro ⟨rfl, rfl⟩ trivial)))))))))))))))) ?_
              refine And.intro ?_ trivial
              refine ⟨rfl, Nat.le_refl 0, (Tri.tabRW (t12 l b.sess b.seq b.rp) rfl rfl rfl rfl (r := 0) (p := 3) (b := 4) (sto := st5 (doneZ b.sess b.seq b.rp m).2 l bs p) (Nat.zero_le _) rfl rfl (by decide) (Nat.zero_le _) (Nat.zero_le _)).mono ?_⟩
              rintro d l' ⟨rfl, rfl⟩
              refine ⟨rfl, fun k hk => absurd hk (Nat.not_lt_zero k), rfl, ?_⟩
              refine And.intro trivial ?_
              refine And.intro (fun h => by rw [hdn.1] at h; simp at h) (fun _ => ?_)
              refine And.intro (fun h => by cases h) (fun _ => ?_)
              refine ⟨40 - (i + 1), by omega, i + 1, _, _, rfl, by omega, hm', hdn.2, ?_⟩
              unfold sK
              rw [← hw]
              rfl
        | false =>
          refine ⟨⟨196607, [0, 0, 0, 6, 8, 16, 0, 0, 192, 256, 512, 1057, 2048, 4096, 4096, 0, 49151, 131071], [1, 2, 4, 14, 30, 62, 64, 128, 448, 960, 1984, 4095, 8191, 16383, 24575, 32768, 114687, 262143]⟩, by kernel_rfl, ?_⟩
          refine ⟨bl.map encA, encA b, rfl, by omega, hrow, rfl, (by show 0 < 7; decide), ?_⟩
          refine And.intro rfl ?_
          refine ⟨bl.map encA, encA b, rfl, by omega, hrow, rfl, (by show 0 < 7; decide), ?_⟩
          refine And.intro rfl ?_
          refine And.intro ?_ (And.intro ?_ trivial)
          focus
            refine ⟨rfl, Nat.zero_le 5, ((t11 m b.sess b.seq).tabRO rfl rfl (fun d h => by subst h; exact ⟨rfl, rfl⟩) (r := 5) (p := 0) (b := 1) (sto := st5 m l bs p) (Nat.le_refl 5) rfl rfl (by decide) (by decide) (by decide)).mono ?_⟩
            rintro d l' ⟨hd, rfl⟩
            rw [show askD b.sess b.seq m = .tup [.agg [.int .i64 pw, .int .i64 ps, .int .i64 pd, .int .i64 pt], .bool false] by simp only [askD, hz, encR]] at hd
            subst hd
            refine ⟨rfl, fun _ _ => rfl, rfl, ?_⟩
            refine And.intro trivial ?_
            refine And.intro (fun h => by cases h) (fun _ => ?_)
            refine And.intro ?_ trivial
            refine And.intro (And.intro ⟨rfl, rfl⟩ (And.intro ⟨rfl, rfl⟩ (And.intro ⟨rfl, rfl⟩ trivial))) ?_
            refine And.intro ?_ trivial
            refine And.intro (And.intro ⟨rfl, rfl⟩ trivial) ?_
            refine And.intro ?_ trivial
            refine And.intro trivial ?_
          rotate_left
          focus
            refine And.intro (And.intro ⟨rfl, rfl⟩ (And.intro ⟨rfl, rfl⟩ (And.intro ⟨bl.map encA, encA b, rfl, by omega, hrow, rfl, (by show 0 < 7; decide), And.intro rfl (And.intro rfl rfl)⟩ (And.intro ⟨rfl, rfl⟩ (And.intro ⟨rfl, rfl⟩ (And.intro ⟨rfl, rfl⟩ (And.intro ⟨rfl, rfl⟩ (And.intro ⟨bl.map encA, encA b, rfl, by omega, hrow, rfl, (by show 0 < 7; decide), And.intro rfl (And.intro rfl rfl)⟩ (And.intro ⟨rfl, rfl⟩ (And.intro ⟨rfl, rfl⟩ (And.intro ⟨rfl, rfl⟩ trivial))))))))))) ?_
            refine And.intro ?_ trivial
            refine ⟨rfl, Nat.zero_le 5, ((t11 m b.sess b.seq).tabRO rfl rfl (fun d h => by subst h; exact ⟨rfl, rfl⟩) (r := 5) (p := 0) (b := 1) (sto := st5 m l bs p) (Nat.le_refl 5) rfl rfl (by decide) (by decide) (by decide)).mono ?_⟩
            rintro d l' ⟨hd, rfl⟩
            rw [show askD b.sess b.seq m = .tup [.agg [.int .i64 pw, .int .i64 ps, .int .i64 pd, .int .i64 pt], .bool false] by simp only [askD, hz, encR]] at hd
            subst hd
            refine ⟨rfl, fun _ _ => rfl, rfl, ?_⟩
            refine And.intro trivial ?_
            refine And.intro (fun h => by cases h) (fun _ => ?_)
            refine And.intro ?_ trivial
            refine And.intro (And.intro ⟨rfl, rfl⟩ trivial) ?_
            refine And.intro ?_ trivial
            refine And.intro trivial ?_
          all_goals
            refine ⟨⟨196607, [0, 0, 0, 6, 8, 16, 0, 0, 192, 256, 512, 1057, 2048, 4096, 4096, 0, 49151, 131071], [1, 2, 4, 14, 30, 62, 64, 128, 448, 960, 1984, 4095, 8191, 16383, 24575, 32768, 114687, 262143]⟩, by kernel_rfl, ?_⟩
            refine ⟨bl.map encA, encA b, rfl, by omega, hrow, rfl, (by show 0 < 7; decide), ?_⟩
            refine And.intro rfl ?_
            refine ⟨bl.map encA, encA b, rfl, by omega, hrow, rfl, (by show 0 < 7; decide), ?_⟩
            refine And.intro rfl ?_
            refine And.intro ?_ (And.intro ?_ trivial)
            focus
              refine ⟨rfl, Nat.zero_le 5, ((t11 l b.sess b.seq).tabRO rfl rfl (fun d h => by subst h; exact ⟨rfl, rfl⟩) (r := 5) (p := 3) (b := 4) (sto := st5 m l bs p) (Nat.le_refl 5) rfl rfl (by decide) (by decide) (by decide)).mono ?_⟩
              rintro d l' ⟨hd, rfl⟩
              rw [show askD b.sess b.seq l = .tup [.agg [.int .i64 pw, .int .i64 ps, .int .i64 pd, .int .i64 pt], .bool false] by simp only [askD, hz2, encR]] at hd
              subst hd
              refine ⟨rfl, fun _ _ => rfl, rfl, ?_⟩
              refine And.intro trivial ?_
              refine And.intro (fun h => by cases h) (fun _ => ?_)
              refine And.intro ?_ trivial
              refine And.intro (And.intro ⟨rfl, rfl⟩ (And.intro ⟨rfl, rfl⟩ (And.intro ⟨rfl, rfl⟩ trivial))) ?_
              refine And.intro ?_ trivial
              refine And.intro (And.intro ⟨rfl, rfl⟩ trivial) ?_
              refine And.intro ?_ trivial
              refine And.intro trivial ?_
            rotate_left
            focus
              refine And.intro (And.intro ⟨rfl, rfl⟩ (And.intro ⟨rfl, rfl⟩ (And.intro ⟨bl.map encA, encA b, rfl, by omega, hrow, rfl, (by show 0 < 7; decide), And.intro rfl (And.intro rfl rfl)⟩ (And.intro ⟨rfl, rfl⟩ (And.intro ⟨rfl, rfl⟩ (And.intro ⟨rfl, rfl⟩ (And.intro ⟨rfl, rfl⟩ (And.intro ⟨bl.map encA, encA b, rfl, by omega, hrow, rfl, (by show 0 < 7; decide), And.intro rfl (And.intro rfl rfl)⟩ (And.intro ⟨rfl, rfl⟩ (And.intro ⟨rfl, rfl⟩ (And.intro ⟨rfl, rfl⟩ trivial))))))))))) ?_
              refine And.intro ?_ trivial
              refine ⟨rfl, Nat.zero_le 5, ((t11 l b.sess b.seq).tabRO rfl rfl (fun d h => by subst h; exact ⟨rfl, rfl⟩) (r := 5) (p := 3) (b := 4) (sto := st5 m l bs p) (Nat.le_refl 5) rfl rfl (by decide) (by decide) (by decide)).mono ?_⟩
              rintro d l' ⟨hd, rfl⟩
              rw [show askD b.sess b.seq l = .tup [.agg [.int .i64 pw, .int .i64 ps, .int .i64 pd, .int .i64 pt], .bool false] by simp only [askD, hz2, encR]] at hd
              subst hd
              refine ⟨rfl, fun _ _ => rfl, rfl, ?_⟩
              refine And.intro trivial ?_
              refine And.intro (fun h => by cases h) (fun _ => ?_)
              refine And.intro ?_ trivial
              refine And.intro (And.intro ⟨rfl, rfl⟩ trivial) ?_
              refine And.intro ?_ trivial
              refine And.intro trivial ?_
            all_goals
              refine ⟨⟨35184372088831, [0, 0, 3, 4, 8, 8, 56, 72, 136, 256, 256, 256, 3328, 4352, 8448, 256, 256, 98560, 131328, 262400, 256, 256, 3145984, 4194560, 8388864, 17318656, 256, 256, 256, 402653440, 536871168, 1073742080, 256, 256, 12884902144, 17179869440, 34359738624, 256, 256, 412316860672, 549755814144, 1099511628032, 2269990879488, 4398080065792, 8796093022464], [1, 2, 7, 15, 31, 47, 127, 255, 511, 1023, 1535, 2559, 7679, 15871, 32255, 33279, 66047, 229887, 492031, 1016319, 1049087, 2097663, 7340543, 15729151, 32506367, 67108863, 67109375, 134218239, 268435967, 939524607, 2013266431, 4160750079, 4294967807, 8589935103, 30064771583, 64424509951, 133143986687, 137438953983, 274877907455, 962072674815, 2061584302591, 4260607558143, 8796093022207, 17592186044415, 35184372088831]⟩, by kernel_rfl, ?_⟩
              refine And.intro (fun h => by simp at h) (fun _ => ?_)
              refine And.intro (fun h => by cases h) (fun _ => ?_)
              refine And.intro (fun h => by cases h) (fun _ => ?_)
              refine And.intro (fun h => by cases h) (fun _ => ?_)
              refine And.intro (fun h => by simp at h) (fun _ => ?_)
              refine And.intro (fun h => by cases h) (fun _ => ?_)
              refine And.intro (fun h => by cases h) (fun _ => ?_)
              refine ⟨bl.map encA, encA b, rfl, by omega, hrow, rfl, (by show 0 < 7; decide), ?_⟩
              refine And.intro rfl ?_
              refine ⟨bl.map encA, encA b, rfl, by omega, hrow, rfl, (by show 0 < 7; decide), ?_⟩
              refine And.intro rfl ?_
              refine ⟨bl.map encA, encA b, rfl, by omega, hrow, rfl, (by show 0 < 7; decide), ?_⟩
              refine And.intro rfl ?_
              refine ⟨bl.map encA, encA b, rfl, by omega, hrow, rfl, (by show 0 < 7; decide), ?_⟩
              refine And.intro rfl ?_
              refine ⟨bl.map encA, encA b, rfl, by omega, hrow, rfl, (by show 0 < 7; decide), ?_⟩
              refine And.intro rfl ?_
              refine ⟨bl.map encA, encA b, rfl, by omega, hrow, rfl, (by show 0 < 7; decide), ?_⟩
              refine And.intro rfl ?_
              refine And.intro ?_ trivial
              refine ⟨rfl, Nat.le_refl 0, (Tri.tabRW (t12 m b.sess b.seq b.rp) rfl rfl rfl rfl (r := 0) (p := 0) (b := 1) (sto := st5 m l bs p) (Nat.zero_le _) rfl rfl (by decide) (Nat.zero_le _) (Nat.zero_le _)).mono ?_⟩
              rintro d l' ⟨rfl, rfl⟩
              refine ⟨rfl, fun k hk => absurd hk (Nat.not_lt_zero k), rfl, ?_⟩
              refine And.intro (And.intro ⟨rfl, rfl⟩ (And.intro ⟨rfl, rfl⟩ (And.intro ⟨bl.map encA, encA b, rfl, by omega, hrow, rfl, (by show 0 < 7; decide), And.intro rfl (And.intro rfl rfl)⟩ (And.intro ⟨rfl, rfl⟩ (And.intro ⟨rfl, rfl⟩ (And.intro ⟨rfl, rfl⟩ (And.intro ⟨rfl, rfl⟩ (And.intro ⟨bl.map encA, encA b, rfl, by omega, hrow, rfl, (by show 0 < 7; decide), And.intro rfl (And.intro rfl rfl)⟩ (And.intro ⟨rfl, rfl⟩ (And.intro ⟨rfl, rfl⟩ (And.intro ⟨rfl, rfl⟩ (And.intro ⟨rfl, rfl⟩ (And.intro ⟨bl.map encA, encA b, rfl, by omega, hrow, rfl, (by show 0 < 7; decide), And.intro rfl (And.intro rfl rfl)⟩ (And.intro ⟨rfl, rfl⟩ (And.intro ⟨rfl, rfl⟩ (And.intro ⟨rfl, rfl⟩ trivial)))))))))))))))) ?_
              refine And.intro ?_ trivial
              refine ⟨rfl, Nat.le_refl 0, (Tri.tabRW (t12 l b.sess b.seq b.rp) rfl rfl rfl rfl (r := 0) (p := 3) (b := 4) (sto := st5 (doneZ b.sess b.seq b.rp m).2 l bs p) (Nat.zero_le _) rfl rfl (by decide) (Nat.zero_le _) (Nat.zero_le _)).mono ?_⟩
              rintro d l' ⟨rfl, rfl⟩
              refine ⟨rfl, fun k hk => absurd hk (Nat.not_lt_zero k), rfl, ?_⟩
              refine And.intro trivial ?_
              refine And.intro (fun h => by rw [hdn.1] at h; simp at h) (fun _ => ?_)
              refine And.intro (fun h => by cases h) (fun _ => ?_)
              refine ⟨40 - (i + 1), by omega, i + 1, _, _, rfl, by omega, hm', hdn.2, ?_⟩
              unfold sK
              rw [← hw]
              rfl
      · have hb5 := bytT_len (m := m) (by omega)
        have hbe := bytT_perm hperm hm.nd
        have hTl : TV l := ⟨(hperm.map Prod.fst).nodup_iff.2 hm.nd, by rw [hperm.length_eq]; exact hm.len, fun x hx => hm.rng x (hperm.mem_iff.1 hx), fun x hx => hm.ok x (hperm.mem_iff.1 hx)⟩
        have hl16 := hTl.len
        refine ⟨rfl, Nat.zero_le 5, ((t18 sortC m (by omega) hm.rng [] (by simp)).tabRO rfl rfl (fun d h => by subst h; exact ⟨rfl, nrBLL_B _⟩) (r := 5) (p := 0) (b := 1) (sto := st5 m l bs p) (Nat.le_refl 5) rfl rfl (by decide) (by decide) (by decide)).mono ?_⟩
        rintro d l' ⟨rfl, rfl⟩
        refine ⟨rfl, fun _ _ => rfl, rfl, ?_⟩
        refine ⟨rfl, Nat.zero_le 5, ((t18 sortC l (by omega) hTl.rng [] (by simp)).tabRO rfl rfl (fun d h => by subst h; exact ⟨rfl, nrBLL_B _⟩) (r := 5) (p := 3) (b := 4) (sto := st5 m l bs p) (Nat.le_refl 5) rfl rfl (by decide) (by decide) (by decide)).mono ?_⟩
        rintro d l' ⟨rfl, rfl⟩
        refine ⟨rfl, fun _ _ => rfl, rfl, ?_⟩
        refine ⟨rfl, Nat.zero_le 5, (t19 (bytT m) (bytT l) (by omega) (by rw [hbe]; omega) (r := 5) (sto := st5 m l bs p) (Nat.le_refl 5)).mono ?_⟩
        rintro d l' ⟨hd, rfl⟩
        rw [decide_eq_true hbe.symm] at hd
        subst hd
        refine ⟨rfl, fun _ _ => rfl, rfl, ?_⟩
        refine ⟨rfl, Nat.zero_le 5, (t3.pure rfl rfl rfl rfl (r := 5) (sto := st5 m l bs p) (Nat.le_refl 5)).mono ?_⟩
        rintro d l' ⟨rfl, rfl⟩
        refine ⟨rfl, fun _ _ => rfl, rfl, ?_⟩
        exact rfl
    · have hb5 := bytT_len (m := m) (by omega)
      have hbe := bytT_perm hperm hm.nd
      have hTl : TV l := ⟨(hperm.map Prod.fst).nodup_iff.2 hm.nd, by rw [hperm.length_eq]; exact hm.len, fun x hx => hm.rng x (hperm.mem_iff.1 hx), fun x hx => hm.ok x (hperm.mem_iff.1 hx)⟩
      have hl16 := hTl.len
      refine ⟨rfl, Nat.zero_le 5, ((t18 sortC m (by omega) hm.rng [] (by simp)).tabRO rfl rfl (fun d h => by subst h; exact ⟨rfl, nrBLL_B _⟩) (r := 5) (p := 0) (b := 1) (sto := st5 m l bs p) (Nat.le_refl 5) rfl rfl (by decide) (by decide) (by decide)).mono ?_⟩
      rintro d l' ⟨rfl, rfl⟩
      refine ⟨rfl, fun _ _ => rfl, rfl, ?_⟩
      refine ⟨rfl, Nat.zero_le 5, ((t18 sortC l (by omega) hTl.rng [] (by simp)).tabRO rfl rfl (fun d h => by subst h; exact ⟨rfl, nrBLL_B _⟩) (r := 5) (p := 3) (b := 4) (sto := st5 m l bs p) (Nat.le_refl 5) rfl rfl (by decide) (by decide) (by decide)).mono ?_⟩
      rintro d l' ⟨rfl, rfl⟩
      refine ⟨rfl, fun _ _ => rfl, rfl, ?_⟩
      refine ⟨rfl, Nat.zero_le 5, (t19 (bytT m) (bytT l) (by omega) (by rw [hbe]; omega) (r := 5) (sto := st5 m l bs p) (Nat.le_refl 5)).mono ?_⟩
      rintro d l' ⟨hd, rfl⟩
      rw [decide_eq_true hbe.symm] at hd
      subst hd
      refine ⟨rfl, fun _ _ => rfl, rfl, ?_⟩
      refine ⟨rfl, Nat.zero_le 5, (t3.pure rfl rfl rfl rfl (r := 5) (sto := st5 m l bs p) (Nat.le_refl 5)).mono ?_⟩
      rintro d l' ⟨rfl, rfl⟩
      refine ⟨rfl, fun _ _ => rfl, rfl, ?_⟩
      exact rfl
end Go.Lv
