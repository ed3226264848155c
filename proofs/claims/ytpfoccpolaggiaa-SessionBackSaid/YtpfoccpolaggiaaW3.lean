/-
  Chapter 18: bytes and rows: what the writers of bytes do, and the document on rows: Last, Sessions, Ask, Done.
-/
import Derived.Test.YtpfoccpolaggiaaW1
set_option linter.all false
set_option maxRecDepth 100000
namespace Go.Lv
open Go.Proofs

noncomputable def rowB (z : Int) : List D := [.int .u8 z]
noncomputable def zu (n : Int) : Int := IntKind.u64.wrap (IntKind.u64.wrap n * 2 ^ min (Int.toNat 1) IntKind.u64.bits)
noncomputable def zn (u : Int) : Int := IntKind.u64.wrap (BitVec.ofInt IntKind.u64.bits (if IntKind.u64.signed then -1 else IntKind.u64.max) ^^^ BitVec.ofInt IntKind.u64.bits u).toNat
noncomputable def zigU (n : Int) : Int := if n < 0 then zn (zu n) else zu n
noncomputable def zsh (n : Int) : Int := IntKind.u64.wrap (n.fdiv (2 ^ min (Int.toNat 63) IntKind.i64.bits))
noncomputable def zx (a b : Int) : Int := IntKind.u64.wrap (BitVec.ofInt IntKind.u64.bits a ^^^ BitVec.ofInt IntKind.u64.bits b).toNat
theorem wrapU (z : Int) : IntKind.u64.wrap z = z % 18446744073709551616 := by simp [IntKind.wrap, IntKind.bits, IntKind.signed]
theorem zu_range (n : Int) : 0 ≤ zu n ∧ zu n < 18446744073709551616 := by
  unfold zu
  rw [wrapU]
  omega
theorem zn_range (n : Int) : 0 ≤ zn n ∧ zn n < 18446744073709551616 := by
  unfold zn
  rw [wrapU]
  omega
theorem zigU_range (n : Int) : 0 ≤ zigU n ∧ zigU n < 18446744073709551616 := by
  unfold zigU
  split
  · exact zn_range _
  · exact zu_range _
theorem zig_eq {n : Int} (h1 : -9223372036854775808 ≤ n) (h2 : n ≤ 9223372036854775807) : zx (zu n) (zsh n) = zigU n := by
  have e63 : (2 : Int) ^ min (Int.toNat 63) IntKind.i64.bits = 9223372036854775808 := by decide
  unfold zigU
  split
  · rename_i h
    have e : zsh n = 18446744073709551615 := by
      unfold zsh
      rw [e63, wrapU]
      have : n.fdiv 9223372036854775808 = -1 := by
        rw [Int.fdiv_eq_ediv_of_nonneg _ (by omega)]
        omega
      rw [this]
      decide
    rw [e]
    unfold zx zn
    rw [BitVec.xor_comm]
    rfl
  · rename_i h
    have e : zsh n = 0 := by
      unfold zsh
      rw [e63, wrapU]
      have : n.fdiv 9223372036854775808 = 0 := by
        rw [Int.fdiv_eq_ediv_of_nonneg _ (by omega)]
        omega
      rw [this]
      decide
    rw [e]
    obtain ⟨r1, r2⟩ := zu_range n
    generalize zu n = u at r1 r2
    show IntKind.u64.wrap ((BitVec.ofInt 64 u ^^^ BitVec.ofInt 64 0).toNat : Int) = u
    rw [show BitVec.ofInt 64 0 = 0#64 by decide, BitVec.xor_zero, wrapU, BitVec.toNat_ofInt]
    omega
theorem t71_0 (n : Int) (h1 : -9223372036854775808 ≤ n) (h2 : n ≤ 9223372036854775807) : Tri Try.prog 71 0 [.int .i64 n] [] (fun d l => d = .int .u64 (zigU n) ∧ l = []) := by
  refine Tri.walk2 (L := LT) (c := {n := 10, ko := [2]}) [] [0, 2] hLT hmix Try.func71 rfl rfl ⟨rfl, rfl⟩ (by show 1 ≤ 10; decide) (Nat.le_refl _) ?_
  refine And.intro ?_ rfl
  rw [← zig_eq h1 h2]
  rfl

noncomputable def orB (u : Int) : Int := IntKind.u8.wrap (BitVec.ofInt IntKind.u8.bits (IntKind.u8.wrap u) ||| BitVec.ofInt IntKind.u8.bits 128).toNat
noncomputable def sh7 (u : Int) : Int := u.fdiv (2 ^ min (Int.toNat 7) IntKind.u64.bits)
theorem sh7_eq {u : Int} : sh7 u = u / 128 := by
  unfold sh7
  rw [show (2 : Int) ^ min (Int.toNat 7) IntKind.u64.bits = 128 by decide, Int.fdiv_eq_ediv_of_nonneg _ (by omega)]
/-- A number's groups. -/
noncomputable def putB : Nat → Int → List Int
  | 0, u => [IntKind.u8.wrap u]
  | f + 1, u => if u ≥ 128 then orB u :: putB f (sh7 u) else [IntKind.u8.wrap u]
noncomputable def numB (n : Int) : List Int := putB 9 (zigU n)
theorem putB_len : ∀ (f : Nat) (u : Int), (putB f u).length ≤ f + 1
  | 0, u => by simp [putB]
  | f + 1, u => by
    unfold putB
    split
    · have := putB_len f (sh7 u); simp; omega
    · simp
theorem putB_end {f : Nat} {u : Int} (h : ¬ u ≥ 128) : putB f u = [IntKind.u8.wrap u] := by
  cases f with
  | zero => rfl
  | succ f => unfold putB; rw [if_neg h]
theorem pow128 (f : Nat) : (128 : Int) ^ (f + 1) = 128 * 128 ^ f := by rw [Int.pow_succ, Int.mul_comm]
theorem sh7_lt {u : Int} {f : Nat} (h0 : 0 ≤ u) (h : u < 128 ^ (f + 2)) : 0 ≤ sh7 u ∧ sh7 u < 128 ^ (f + 1) := by
  rw [sh7_eq]
  rw [pow128 (f + 1)] at h
  omega

noncomputable def sP (sz : Nat) (bs : List Int) (n u : Int) : DS := ⟨[(0, .list (.own sz) (bs.map rowB)), (5, .int .u64 u), (4, .list (.own 0) [])], [], [], mR 0⟩
/-- put. -/
theorem t54_0 (sz : Nat) (hsz : sz = 0 ∨ sz = 1) (bs : List Int) (hb : bs.length ≤ 100000000000000) (n : Int) (h1 : -9223372036854775808 ≤ n) (h2 : n ≤ 9223372036854775807) :
    Tri Try.prog 54 0 [.list (.own sz) (bs.map rowB), .int .i64 n] [] (fun d l => d = .list (.own 1) ((bs ++ numB n).map rowB) ∧ l = []) := by
  refine Tri.walk2 (L := LT) (c := {n := 23, ko := [0, 4], xf := [10, 18]}) [] [0, 1, 4, 5, 9] hLT hmix Try.func54 rfl rfl ⟨rfl, rfl⟩ (by show 2 ≤ 23; decide) (Nat.le_refl _) ?_
  have hz := zigU_range n
  have start : ∀ (sz : Nat), (sz = 0 ∨ sz = 1) → ∃ (f : Nat) (u : Int) (pre : List Int), 9 = f ∧ 0 ≤ u ∧ u < 128 ^ (f + 1) ∧ pre ++ putB f u = numB n ∧ pre.length + f = 9 ∧ ((pre = [] ∧ (sz = 0 ∨ sz = 1)) ∨ sz = 1) ∧ sP sz bs n (zigU n) = sP sz (bs ++ pre) n u := fun sz hsz =>
    ⟨9, zigU n, [], rfl, hz.1, by have : (128 : Int) ^ (9 + 1) = 1180591620717411303424 := by decide
                                  omega, rfl, rfl, .inl ⟨rfl, hsz⟩, by rw [List.append_nil]⟩
  have rest : ∀ (sz : Nat), (sz = 0 ∨ sz = 1) → ∀ s, nmB [0, 5, 4] [] s = sP sz bs n (zigU n) → ∀ c Q, (∀ k s, (∃ (sz f : Nat) (u : Int) (pre : List Int), k = f ∧ 0 ≤ u ∧ u < 128 ^ (f + 1) ∧ pre ++ putB f u = numB n ∧ pre.length + f = 9 ∧ (sz = 0 ∨ sz = 1) ∧ s = sP sz (bs ++ pre) n u) → wC Try.prog ⟨LT, {n := 23, ko := [0, 4], xf := [10, 18]}, 0, 0⟩ [] [0, 1, 4, 5, 9] c s (Ex.then (fun s' => ∃ k', k' < k ∧ ∃ (sz f : Nat) (u : Int) (pre : List Int), k' = f ∧ 0 ≤ u ∧ u < 128 ^ (f + 1) ∧ pre ++ putB f u = numB n ∧ pre.length + f = 9 ∧ (sz = 0 ∨ sz = 1) ∧ nmB [0, 5, 4] [] s' = sP sz (bs ++ pre) n u) Q)) → Ok Try.prog ⟨LT, {n := 23, ko := [0, 4], xf := [10, 18]}, 0, 0⟩ (.loop c) s Q := by
    intro sz hsz s hs c Q hr
    refine Ok.loopN hLT hmix [] [0, 1, 4, 5, 9] [0, 5, 4] [] (fun k s => ∃ (sz f : Nat) (u : Int) (pre : List Int), k = f ∧ 0 ≤ u ∧ u < 128 ^ (f + 1) ∧ pre ++ putB f u = numB n ∧ pre.length + f = 9 ∧ (sz = 0 ∨ sz = 1) ∧ s = sP sz (bs ++ pre) n u) (n := 9) ?_ hr
    obtain ⟨f, u, pre, q1, q2, q3, q4, q5, q6, q7⟩ := start sz hsz
    refine ⟨sz, f, u, pre, q1, q2, q3, q4, q5, hsz, ?_⟩
    rw [hs]
    exact q7
  rcases hsz with rfl | rfl
  all_goals
    refine ⟨rfl, Nat.le_refl 0, (t71_0 n h1 h2).mono ?_⟩
    rintro d l ⟨rfl, rfl⟩
    refine ⟨rfl, fun _ _ => rfl, rfl, ?_⟩
    show Ok _ _ _ _ _
    refine rest _ (by simp) _ rfl _ _ ?_
    rintro f s ⟨sz, _, u, pre, rfl, hu0, hu1, hpre, hlen, hsz, rfl⟩
    have hroom : ((bs ++ pre).map rowB).length + 1 ≤ 140737488355328 := by
      simp only [List.length_map, List.length_append]
      omega
    rcases hsz with rfl | rfl
    all_goals
      refine And.intro (fun h => ?_) (fun h => ?_)
      · have h := of_decide_eq_true h
        cases f with
        | zero => exact absurd h (by simp at hu1; omega)
        | succ f =>
          refine And.intro trivial ?_
          refine And.intro rfl (And.intro ?_ (And.intro rfl ?_))
          · show (((bs ++ pre).map rowB).length + 1) * 1 ≤ 140737488355328
            omega
          have hs7 := sh7_lt hu0 hu1
          refine ⟨f, Nat.lt_succ_self f, 1, f, sh7 u, pre ++ [orB u], rfl, hs7.1, hs7.2, ?_, by simp; omega, .inr rfl, ?_⟩
          · rw [← hpre]
            conv => rhs; unfold putB
            rw [if_pos h]
            simp
          · have : (bs ++ (pre ++ [orB u])).map rowB = (bs ++ pre).map rowB ++ [rowB (orB u)] := by simp
            unfold sP
            rw [this]
            rfl
      · have h := of_decide_eq_false h
        refine And.intro trivial ?_
        refine And.intro rfl (And.intro ?_ (And.intro rfl ?_))
        · show (((bs ++ pre).map rowB).length + 1) * 1 ≤ 140737488355328
          omega
        refine And.intro ?_ rfl
        rw [← hpre, putB_end h]
        have : (bs ++ (pre ++ [IntKind.u8.wrap u])).map rowB = (bs ++ pre).map rowB ++ [rowB (IntKind.u8.wrap u)] := by simp
        rw [this]
        rfl

/-- again. -/
theorem t41_0 (bs : List Int) (hb : bs.length ≤ 100000000000000) (k : Int) (h1 : 0 ≤ k) (h2 : k ≤ 1000) :
    Tri Try.prog 41 0 [.list .imm (bs.map rowB), .int .i64 k] [] (fun d l => d = .list (.own 1) (bs.map rowB) ∧ l = []) := by
  refine Tri.walk2 (L := LT) (c := {n := 14, ko := [4, 5], xf := [11]}) [] [0, 1, 4, 5] hLT hmix Try.func41 rfl rfl ⟨rfl, rfl⟩ (by show 2 ≤ 14; decide) (Nat.le_refl _) ?_
  have hw : IntKind.i64.wrap (((bs.map rowB).length : Int) + k) = (bs.length : Int) + k := by
    rw [List.length_map, wrap64 (by omega) (by omega)]
  refine And.intro ?_ ?_
  · show 0 ≤ 0 ∧ (0 : Int) ≤ IntKind.i64.wrap (((bs.map rowB).length : Int) + k) ∧ IntKind.i64.wrap (((bs.map rowB).length : Int) + k) * (1 : Nat) ≤ 2 * (140737488355328 : Nat) ∧ IntKind.i64.wrap (((bs.map rowB).length : Int) + k) ≤ 9223372036854775807 ∧ 0 < 1
    rw [hw]
    omega
  refine And.intro trivial ?_
  refine And.intro rfl (And.intro ?_ (And.intro ?_ ?_))
  · show (0 + (bs.map rowB).length) * 1 ≤ 140737488355328
    simp only [List.length_map]
    omega
  · simp [allLen, rowB]
    intro a _
    rfl
  exact And.intro rfl rfl
/-- Num. -/
theorem t37_0 (bs : List Int) (hb : bs.length ≤ 100000000000000) (n : Int) (h1 : -9223372036854775808 ≤ n) (h2 : n ≤ 9223372036854775807) :
    Tri Try.prog 37 0 [.list .imm (bs.map rowB), .int .i64 n] [] (fun d l => d = .list (.own 1) ((bs ++ numB n).map rowB) ∧ l = []) := by
  refine Tri.walk2 (L := LT) (c := {n := 9, ko := [4]}) [(54, 0, [0])] [0, 1, 4] hLT hmix Try.func37 rfl rfl ⟨rfl, rfl⟩ (by show 2 ≤ 9; decide) (Nat.le_refl _) ?_
  refine ⟨rfl, Nat.le_refl 0, (t41_0 bs hb 10 (by omega) (by omega)).mono ?_⟩
  rintro d l ⟨rfl, rfl⟩
  refine ⟨rfl, fun _ _ => rfl, rfl, ?_⟩
  refine ⟨rfl, Nat.le_refl 0, (t54_0 1 (.inr rfl) bs hb n h1 h2).mono ?_⟩
  rintro d l ⟨rfl, rfl⟩
  refine ⟨rfl, fun _ _ => rfl, rfl, ?_⟩
  exact And.intro rfl rfl
end Go.Lv

namespace Go.Lv
open Go.Proofs

theorem allLenB (bs : List Int) : allLen 1 (bs.map rowB) = true := by
  simp [allLen, rowB]
noncomputable def sQ (bs : List Int) (u : Int) : DS := ⟨[(5, .list (.own 1) (bs.map rowB)), (6, .int .u64 u), (4, .list (.own 0) [])], [], [], mR 0⟩
theorem t39_0 (bs : List Int) (hb : bs.length ≤ 100000000000000) (n : Int) :
    Tri Try.prog 39 0 [.list .imm (bs.map rowB), .int .i64 n] [] (fun d l => d = .list (.own 1) ((bs ++ numB n).map rowB) ∧ l = []) := by
  refine Tri.walk2 (L := LT) (c := {n := 32, ko := [4, 5], xf := [19, 27]}) [] [0, 1, 4, 5, 6, 14, 18] hLT hmix Try.func39 rfl rfl ⟨rfl, rfl⟩ (by show 2 ≤ 32; decide) (Nat.le_refl _) ?_
  have hz := zigU_range n
  refine And.intro trivial ?_
  refine And.intro rfl (And.intro ?_ (And.intro (allLenB bs) ?_))
  · show (0 + (bs.map rowB).length) * 1 ≤ 140737488355328
    simp only [List.length_map]
    omega
  have fin : ∀ (s : DS) (u0 : Int), u0 = zigU n → nmB [5, 6, 4] [] s = sQ bs u0 → ∀ c Q, (∀ f s, (∃ (u : Int) (pre : List Int), 0 ≤ u ∧ u < 128 ^ (f + 1) ∧ pre ++ putB f u = numB n ∧ pre.length + f = 9 ∧ s = sQ (bs ++ pre) u) → wC Try.prog ⟨LT, {n := 32, ko := [4, 5], xf := [19, 27]}, 0, 0⟩ [] [0, 1, 4, 5, 6, 14, 18] c s (Ex.then (fun s' => ∃ k', k' < f ∧ ∃ (u : Int) (pre : List Int), 0 ≤ u ∧ u < 128 ^ (k' + 1) ∧ pre ++ putB k' u = numB n ∧ pre.length + k' = 9 ∧ nmB [5, 6, 4] [] s' = sQ (bs ++ pre) u) Q)) → Ok Try.prog ⟨LT, {n := 32, ko := [4, 5], xf := [19, 27]}, 0, 0⟩ (.loop c) s Q := by
    intro s u0 hu0 hs c Q hr
    refine Ok.loopN hLT hmix [] [0, 1, 4, 5, 6, 14, 18] [5, 6, 4] [] (fun f s => ∃ (u : Int) (pre : List Int), 0 ≤ u ∧ u < 128 ^ (f + 1) ∧ pre ++ putB f u = numB n ∧ pre.length + f = 9 ∧ s = sQ (bs ++ pre) u) (n := 9) ⟨zigU n, [], hz.1, ?_, rfl, rfl, ?_⟩ hr
    · have : (128 : Int) ^ (9 + 1) = 1180591620717411303424 := by decide
      omega
    · rw [List.append_nil, ← hu0]
      exact hs
  refine And.intro (fun hn => ?_) (fun hn => ?_)
  · have hn := of_decide_eq_true hn
    show Ok _ _ _ _ _
    refine fin _ (zn (zu n)) (by unfold zigU; rw [if_pos hn]) rfl _ _ ?_
    rintro f s ⟨u, pre, hu0, hu1, hpre, hlen, rfl⟩
    have hroom : ((bs ++ pre).map rowB).length + 1 ≤ 140737488355328 := by
      simp only [List.length_map, List.length_append]
      omega
    refine And.intro (fun h => ?_) (fun h => ?_)
    · have h := of_decide_eq_true h
      cases f with
      | zero => exact absurd h (by simp at hu1; omega)
      | succ f =>
        refine And.intro trivial ?_
        refine And.intro rfl (And.intro ?_ (And.intro rfl ?_))
        · show (((bs ++ pre).map rowB).length + 1) * 1 ≤ 140737488355328
          omega
        have hs7 := sh7_lt hu0 hu1
        refine ⟨f, Nat.lt_succ_self f, sh7 u, pre ++ [orB u], hs7.1, hs7.2, ?_, by simp; omega, ?_⟩
        · rw [← hpre]
          conv => rhs; unfold putB
          rw [if_pos h]
          simp
        · have : (bs ++ (pre ++ [orB u])).map rowB = (bs ++ pre).map rowB ++ [rowB (orB u)] := by simp
          unfold sQ
          rw [this]
          rfl
    · have h := of_decide_eq_false h
      refine And.intro trivial ?_
      refine And.intro rfl (And.intro ?_ (And.intro rfl ?_))
      · show (((bs ++ pre).map rowB).length + 1) * 1 ≤ 140737488355328
        omega
      refine And.intro ?_ rfl
      rw [← hpre, putB_end h]
      have : (bs ++ (pre ++ [IntKind.u8.wrap u])).map rowB = (bs ++ pre).map rowB ++ [rowB (IntKind.u8.wrap u)] := by simp
      rw [this]
      rfl
  · have hn := of_decide_eq_false hn
    show Ok _ _ _ _ _
    refine fin _ (zu n) (by unfold zigU; rw [if_neg hn]) rfl _ _ ?_
    rintro f s ⟨u, pre, hu0, hu1, hpre, hlen, rfl⟩
    have hroom : ((bs ++ pre).map rowB).length + 1 ≤ 140737488355328 := by
      simp only [List.length_map, List.length_append]
      omega
    refine And.intro (fun h => ?_) (fun h => ?_)
    · have h := of_decide_eq_true h
      cases f with
      | zero => exact absurd h (by simp at hu1; omega)
      | succ f =>
        refine And.intro trivial ?_
        refine And.intro rfl (And.intro ?_ (And.intro rfl ?_))
        · show (((bs ++ pre).map rowB).length + 1) * 1 ≤ 140737488355328
          omega
        have hs7 := sh7_lt hu0 hu1
        refine ⟨f, Nat.lt_succ_self f, sh7 u, pre ++ [orB u], hs7.1, hs7.2, ?_, by simp; omega, ?_⟩
        · rw [← hpre]
          conv => rhs; unfold putB
          rw [if_pos h]
          simp
        · have : (bs ++ (pre ++ [orB u])).map rowB = (bs ++ pre).map rowB ++ [rowB (orB u)] := by simp
          unfold sQ
          rw [this]
          rfl
    · have h := of_decide_eq_false h
      refine And.intro trivial ?_
      refine And.intro rfl (And.intro ?_ (And.intro rfl ?_))
      · show (((bs ++ pre).map rowB).length + 1) * 1 ≤ 140737488355328
        omega
      refine And.intro ?_ rfl
      rw [← hpre, putB_end h]
      have : (bs ++ (pre ++ [IntKind.u8.wrap u])).map rowB = (bs ++ pre).map rowB ++ [rowB (IntKind.u8.wrap u)] := by simp
      rw [this]
      rfl

noncomputable def in64' (z : Int) : Prop := -9223372036854775808 ≤ z ∧ z ≤ 9223372036854775807
noncomputable def inRep (r : Rep) : Prop := in64' r.why ∧ in64' r.st ∧ in64' r.dr ∧ in64' r.tm
noncomputable def repB (r : Rep) : List Int := numB r.why ++ (numB r.st ++ (numB r.dr ++ numB r.tm))
theorem numB_len (n : Int) : (numB n).length ≤ 10 := putB_len 9 _
theorem repB_len (r : Rep) : (repB r).length ≤ 40 := by
  have h1 := numB_len r.why
  have h2 := numB_len r.st
  have h3 := numB_len r.dr
  have h4 := numB_len r.tm
  simp only [repB, List.length_append]
  omega
theorem t38_0 (bs : List Int) (hb : bs.length ≤ 90000000000000) (r : Rep) (hr : inRep r) :
    Tri Try.prog 38 0 [.list .imm (bs.map rowB), encR r] [] (fun d l => d = .list (.own 1) ((bs ++ repB r).map rowB) ∧ l = []) := by
  refine Tri.walk2 (L := LT) (c := {n := 18, ko := [4]}) [] [0, 3, 4] hLT hmix Try.func38 rfl rfl ⟨rfl, rfl⟩ (by show 2 ≤ 18; decide) (Nat.le_refl _) ?_
  refine ⟨⟨16383, [0, 0, 2, 5, 0, 16, 40, 0, 128, 320, 0, 1024, 2560, 8191], [1, 2, 6, 15, 16, 48, 127, 128, 384, 1023, 1024, 3072, 8191, 16383]⟩, by kernel_rfl, ?_⟩
  have h1 := numB_len r.why
  have h2 := numB_len r.st
  have h3 := numB_len r.dr
  refine And.intro ?_ trivial
  refine ⟨rfl, Nat.le_refl 0, (t37_0 bs (by omega) r.why hr.1.1 hr.1.2).mono ?_⟩
  rintro d l ⟨rfl, rfl⟩
  refine ⟨rfl, fun _ _ => rfl, rfl, ?_⟩
  refine And.intro ⟨⟨rfl, rfl⟩, ⟨rfl, rfl⟩, ⟨rfl, rfl⟩, ⟨rfl, rfl⟩, ⟨rfl, rfl⟩, ⟨rfl, rfl⟩, trivial⟩ ?_
  refine And.intro ?_ trivial
  refine ⟨rfl, Nat.le_refl 0, (t37_0 (bs ++ numB r.why) (by simp only [List.length_append]; omega) r.st hr.2.1.1 hr.2.1.2).mono ?_⟩
  rintro d l ⟨rfl, rfl⟩
  refine ⟨rfl, fun _ _ => rfl, rfl, ?_⟩
  refine And.intro ⟨⟨rfl, rfl⟩, ⟨rfl, rfl⟩, ⟨rfl, rfl⟩, ⟨rfl, rfl⟩, trivial⟩ ?_
  refine And.intro ?_ trivial
  refine ⟨rfl, Nat.le_refl 0, (t37_0 (bs ++ numB r.why ++ numB r.st) (by simp only [List.length_append]; omega) r.dr hr.2.2.1.1 hr.2.2.1.2).mono ?_⟩
  rintro d l ⟨rfl, rfl⟩
  refine ⟨rfl, fun _ _ => rfl, rfl, ?_⟩
  refine And.intro ⟨⟨rfl, rfl⟩, ⟨rfl, rfl⟩, trivial⟩ ?_
  refine And.intro ?_ trivial
  refine ⟨rfl, Nat.le_refl 0, (t37_0 (bs ++ numB r.why ++ numB r.st ++ numB r.dr) (by simp only [List.length_append]; omega) r.tm hr.2.2.2.1 hr.2.2.2.2).mono ?_⟩
  rintro d l ⟨rfl, rfl⟩
  refine ⟨rfl, fun _ _ => rfl, rfl, ?_⟩
  refine And.intro trivial ?_
  refine And.intro ?_ trivial
  refine And.intro trivial ?_
  refine And.intro ?_ rfl
  simp only [repB, List.append_assoc]
theorem t40_0 (bs : List Int) (hb : bs.length ≤ 90000000000000) (r : Rep) :
    Tri Try.prog 40 0 [.list .imm (bs.map rowB), encR r] [] (fun d l => d = .list (.own 1) ((bs ++ repB r).map rowB) ∧ l = []) := by
  refine Tri.walk2 (L := LT) (c := {n := 18, ko := [4]}) [] [0, 3, 4] hLT hmix Try.func40 rfl rfl ⟨rfl, rfl⟩ (by show 2 ≤ 18; decide) (Nat.le_refl _) ?_
  refine ⟨⟨16383, [0, 0, 2, 5, 0, 16, 40, 0, 128, 320, 0, 1024, 2560, 8191], [1, 2, 6, 15, 16, 48, 127, 128, 384, 1023, 1024, 3072, 8191, 16383]⟩, by kernel_rfl, ?_⟩
  have h1 := numB_len r.why
  have h2 := numB_len r.st
  have h3 := numB_len r.dr
  refine And.intro ?_ trivial
  refine ⟨rfl, Nat.le_refl 0, (t39_0 bs (by omega) r.why).mono ?_⟩
  rintro d l ⟨rfl, rfl⟩
  refine ⟨rfl, fun _ _ => rfl, rfl, ?_⟩
  refine And.intro ⟨⟨rfl, rfl⟩, ⟨rfl, rfl⟩, ⟨rfl, rfl⟩, ⟨rfl, rfl⟩, ⟨rfl, rfl⟩, ⟨rfl, rfl⟩, trivial⟩ ?_
  refine And.intro ?_ trivial
  refine ⟨rfl, Nat.le_refl 0, (t39_0 (bs ++ numB r.why) (by simp only [List.length_append]; omega) r.st).mono ?_⟩
  rintro d l ⟨rfl, rfl⟩
  refine ⟨rfl, fun _ _ => rfl, rfl, ?_⟩
  refine And.intro ⟨⟨rfl, rfl⟩, ⟨rfl, rfl⟩, ⟨rfl, rfl⟩, ⟨rfl, rfl⟩, trivial⟩ ?_
  refine And.intro ?_ trivial
  refine ⟨rfl, Nat.le_refl 0, (t39_0 (bs ++ numB r.why ++ numB r.st) (by simp only [List.length_append]; omega) r.dr).mono ?_⟩
  rintro d l ⟨rfl, rfl⟩
  refine ⟨rfl, fun _ _ => rfl, rfl, ?_⟩
  refine And.intro ⟨⟨rfl, rfl⟩, ⟨rfl, rfl⟩, trivial⟩ ?_
  refine And.intro ?_ trivial
  refine ⟨rfl, Nat.le_refl 0, (t39_0 (bs ++ numB r.why ++ numB r.st ++ numB r.dr) (by simp only [List.length_append]; omega) r.tm).mono ?_⟩
  rintro d l ⟨rfl, rfl⟩
  refine ⟨rfl, fun _ _ => rfl, rfl, ?_⟩
  refine And.intro trivial ?_
  refine And.intro ?_ trivial
  refine And.intro trivial ?_
  refine And.intro ?_ rfl
  simp only [repB, List.append_assoc]

theorem t35_0 (al bl : List Int) (ha : al.length ≤ 1000000000000000) (hb : bl.length ≤ 1000000000000000) :
    Tri Try.prog 35 0 [.list .imm (al.map rowI), .list .imm (bl.map rowI)] [] (fun d l => d = .bool (decide (al = bl)) ∧ l = []) := by
  refine Tri.walk2 (L := LT) (c := {n := 26, ko := [4]}) [] [0, 1, 4, 5, 10, 14, 25] hLT hmix Try.func35 rfl rfl ⟨rfl, rfl⟩ (by show 2 ≤ 26; decide) (Nat.le_refl _) ?_
  refine And.intro (fun hn => ?_) (fun hn => ?_)
  · refine And.intro ?_ rfl
    have : ¬ al = bl := by
      rintro rfl
      simp at hn
    rw [decide_eq_false this]
  · have hlen : al.length = bl.length := by
      simp at hn
      omega
    show Ok _ _ _ _ _
    refine Ok.loopN hLT hmix [] [0, 1, 4, 5, 10, 14, 25] [0, 1, 5, 4] [] (fun n s => ∃ i : Nat, n = al.length - i ∧ i ≤ al.length ∧ (∀ j, j < i → al[j]? = bl[j]?) ∧ s = ⟨[(0, .list .imm (al.map rowI)), (1, .list .imm (bl.map rowI)), (5, .int .i64 (i : Int)), (4, .bool false)], [], [], mR 0⟩) (n := al.length) ⟨0, rfl, Nat.zero_le _, fun j hj => absurd hj (Nat.not_lt_zero j), rfl⟩ ?_
    rintro n s ⟨i, rfl, hi, heq, rfl⟩
    refine And.intro (fun h => ?_) (fun h => ?_)
    · have h : ((i : Nat) : Int) < ((al.map rowI).length : Int) := of_decide_eq_true h
      rw [List.length_map] at h
      have hi1 : i < al.length := by omega
      have hi2 : i < bl.length := by omega
      refine ⟨⟨511, [0, 0, 3, 4, 0, 0, 48, 64, 136], [1, 2, 7, 15, 16, 32, 112, 240, 511]⟩, by kernel_rfl, ?_⟩
      refine ⟨al.map rowI, [.int .i64 al[i]], rfl, by omega, by rw [Int.toNat_natCast, List.getElem?_map, List.getElem?_eq_getElem hi1]; rfl, rfl, by decide, ?_⟩
      refine And.intro rfl ?_
      refine ⟨bl.map rowI, [.int .i64 bl[i]], rfl, by omega, by rw [Int.toNat_natCast, List.getElem?_map, List.getElem?_eq_getElem hi2]; rfl, rfl, by decide, ?_⟩
      refine And.intro rfl ?_
      refine And.intro (fun hne => ?_) (fun hne => ?_)
      · refine And.intro ?_ rfl
        have : ¬ al = bl := by
          rintro rfl
          simp at hne
        rw [decide_eq_false this]
      · have hq : al[i] = bl[i] := by simpa using hne
        have hw : IntKind.i64.wrap ((i : Int) + 1) = ((i + 1 : Nat) : Int) := by
          rw [wrap64 (by omega) (by omega)]
          omega
        refine ⟨al.length - (i + 1), by omega, i + 1, rfl, by omega, fun j hj => ?_, ?_⟩
        · rcases Nat.lt_or_ge j i with h' | h'
          · exact heq j h'
          · have : j = i := by omega
            subst this
            rw [List.getElem?_eq_getElem hi1, List.getElem?_eq_getElem hi2, hq]
        · rw [← hw]
          rfl
    · have h : ¬ ((i : Nat) : Int) < ((al.map rowI).length : Int) := of_decide_eq_false h
      rw [List.length_map] at h
      refine And.intro ?_ rfl
      have : al = bl := by
        apply List.ext_getElem?
        intro j
        rcases Nat.lt_or_ge j al.length with h' | h'
        · exact heq j (by omega)
        · rw [List.getElem?_eq_none h', List.getElem?_eq_none (by omega)]
      rw [decide_eq_true this]

theorem t19_0 (al bl : List Int) (ha : al.length ≤ 1000000000000000) (hb : bl.length ≤ 1000000000000000) :
    Tri Try.prog 19 0 [.list .imm (al.map rowB), .list .imm (bl.map rowB)] [] (fun d l => d = .bool (decide (al = bl)) ∧ l = []) := by
  refine Tri.walk2 (L := LT) (c := {n := 26, ko := [4]}) [] [0, 1, 4, 5, 10, 14, 25] hLT hmix Try.func19 rfl rfl ⟨rfl, rfl⟩ (by show 2 ≤ 26; decide) (Nat.le_refl _) ?_
  refine And.intro (fun hn => ?_) (fun hn => ?_)
  · refine And.intro ?_ rfl
    have : ¬ al = bl := by
      rintro rfl
      simp at hn
    rw [decide_eq_false this]
  · have hlen : al.length = bl.length := by
      simp at hn
      omega
    show Ok _ _ _ _ _
    refine Ok.loopN hLT hmix [] [0, 1, 4, 5, 10, 14, 25] [0, 1, 5, 4] [] (fun n s => ∃ i : Nat, n = al.length - i ∧ i ≤ al.length ∧ (∀ j, j < i → al[j]? = bl[j]?) ∧ s = ⟨[(0, .list .imm (al.map rowB)), (1, .list .imm (bl.map rowB)), (5, .int .i64 (i : Int)), (4, .bool false)], [], [], mR 0⟩) (n := al.length) ⟨0, rfl, Nat.zero_le _, fun j hj => absurd hj (Nat.not_lt_zero j), rfl⟩ ?_
    rintro n s ⟨i, rfl, hi, heq, rfl⟩
    refine And.intro (fun h => ?_) (fun h => ?_)
    · have h : ((i : Nat) : Int) < ((al.map rowB).length : Int) := of_decide_eq_true h
      rw [List.length_map] at h
      have hi1 : i < al.length := by omega
      have hi2 : i < bl.length := by omega
      refine ⟨⟨511, [0, 0, 3, 4, 0, 0, 48, 64, 136], [1, 2, 7, 15, 16, 32, 112, 240, 511]⟩, by kernel_rfl, ?_⟩
      refine ⟨al.map rowB, [.int .u8 al[i]], rfl, by omega, by rw [Int.toNat_natCast, List.getElem?_map, List.getElem?_eq_getElem hi1]; rfl, rfl, by decide, ?_⟩
      refine And.intro rfl ?_
      refine ⟨bl.map rowB, [.int .u8 bl[i]], rfl, by omega, by rw [Int.toNat_natCast, List.getElem?_map, List.getElem?_eq_getElem hi2]; rfl, rfl, by decide, ?_⟩
      refine And.intro rfl ?_
      refine And.intro (fun hne => ?_) (fun hne => ?_)
      · refine And.intro ?_ rfl
        have : ¬ al = bl := by
          rintro rfl
          simp at hne
        rw [decide_eq_false this]
      · have hq : al[i] = bl[i] := by simpa using hne
        have hw : IntKind.i64.wrap ((i : Int) + 1) = ((i + 1 : Nat) : Int) := by
          rw [wrap64 (by omega) (by omega)]
          omega
        refine ⟨al.length - (i + 1), by omega, i + 1, rfl, by omega, fun j hj => ?_, ?_⟩
        · rcases Nat.lt_or_ge j i with h' | h'
          · exact heq j h'
          · have : j = i := by omega
            subst this
            rw [List.getElem?_eq_getElem hi1, List.getElem?_eq_getElem hi2, hq]
        · rw [← hw]
          rfl
    · have h : ¬ ((i : Nat) : Int) < ((al.map rowB).length : Int) := of_decide_eq_false h
      rw [List.length_map] at h
      refine And.intro ?_ rfl
      have : al = bl := by
        apply List.ext_getElem?
        intro j
        rcases Nat.lt_or_ge j al.length with h' | h'
        · exact heq j (by omega)
        · rw [List.getElem?_eq_none h', List.getElem?_eq_none (by omega)]
      rw [decide_eq_true this]
end Go.Lv

namespace Go.Lv
open Go.Proofs

noncomputable def rowT (x : Int × Ent) : List D := [.int .i64 x.1, .int .i64 x.2.seq, .int .i64 x.2.rp.why, .int .i64 x.2.rp.st, .int .i64 x.2.rp.dr, .int .i64 x.2.rp.tm]
theorem row_at {α : Type} {f : α → List D} (l : List α) {i : Nat} (hi : i < l.length) : (l.map f)[((i : Nat) : Int).toNat]? = some (f l[i]) := by
  rw [Int.toNat_natCast, List.getElem?_map, List.getElem?_eq_getElem hi]
  rfl
theorem wrap_succ {i n : Nat} (hi : i < n) (hn : n ≤ 1000000000000000) : IntKind.i64.wrap ((i : Int) + 1) = ((i + 1 : Nat) : Int) := by
  rw [wrap64 (by omega) (by omega)]
  omega
/-- Last, the document's. -/
theorem t34_0 (l : Tbl) (hl : l.length ≤ 1000000000000) (k : Int) : Tri Try.prog 34 0 [.list .imm (l.map rowT), .int .i64 k] [] (fun d l' => d = .int .i64 (seqOf k l) ∧ l' = []) := by
  refine Tri.walk2 (L := LT) (c := {n := 24, ko := [4]}) [] [0, 1, 4, 5, 9, 18] hLT hmix Try.func34 rfl rfl ⟨rfl, rfl⟩ (by show 2 ≤ 24; decide) (Nat.le_refl _) ?_
  show Ok _ _ _ _ _
  refine Ok.loopN hLT hmix [] [0, 1, 4, 5, 9, 18] [0, 1, 5, 4] [] (fun n s => ∃ i : Nat, n = l.length - i ∧ i ≤ l.length ∧ getT k (l.drop i) = getT k l ∧ s = ⟨[(0, .list .imm (l.map rowT)), (1, .int .i64 k), (5, .int .i64 (i : Int)), (4, .int .i64 0)], [], [], mR 0⟩) (n := l.length) ⟨0, rfl, Nat.zero_le _, rfl, rfl⟩ ?_
  rintro n s ⟨i, rfl, hi, heq, rfl⟩
  refine And.intro (fun h => ?_) (fun h => ?_)
  · have h : ((i : Nat) : Int) < ((l.map rowT).length : Int) := of_decide_eq_true h
    rw [List.length_map] at h
    have hi1 : i < l.length := by omega
    have hd : l.drop i = l[i] :: l.drop (i + 1) := List.drop_eq_getElem_cons hi1
    refine ⟨l.map rowT, rowT l[i], rfl, by omega, row_at l hi1, rfl, by decide, ?_⟩
    refine And.intro (fun hq => ?_) (fun hq => ?_)
    · have hq : l[i].1 = k := of_decide_eq_true hq
      refine ⟨l.map rowT, rowT l[i], rfl, by omega, row_at l hi1, rfl, by decide, ?_⟩
      refine And.intro ?_ rfl
      have : getT k l = some l[i].2 := by rw [← heq, hd]; simp [getT, hq]
      simp only [seqOf, this]
    · have hq : ¬ l[i].1 = k := of_decide_eq_false hq
      have hw := wrap_succ hi1 (by omega)
      refine ⟨l.length - (i + 1), by omega, i + 1, rfl, by omega, ?_, ?_⟩
      · rw [← heq, hd]
        have : ¬ k = l[i].1 := fun e => hq e.symm
        simp [getT, this]
      · rw [← hw]
        rfl
  · have h : ¬ ((i : Nat) : Int) < ((l.map rowT).length : Int) := of_decide_eq_false h
    rw [List.length_map] at h
    refine And.intro ?_ rfl
    have : getT k l = none := by rw [← heq, List.drop_eq_nil_of_le (by omega)]; rfl
    simp only [seqOf, this]
/-- Sessions, the document's. -/
theorem t36_0 (l : Tbl) (hl : l.length ≤ 1000000000000) : Tri Try.prog 36 0 [.list .imm (l.map rowT)] [] (fun d l' => (∃ sz, d = .list (.own sz) ((l.map Prod.fst).map rowI) ∧ (sz = 0 ∨ sz = 1)) ∧ l' = []) := by
  refine Tri.walk2 (L := LT) (c := {n := 20, ko := [2, 3], xf := [11, 19]}) [] [0, 2, 3, 4, 8] hLT hmix Try.func36 rfl rfl ⟨rfl, rfl⟩ (by show 1 ≤ 20; decide) (Nat.le_refl _) ?_
  show Ok _ _ _ _ _
  refine Ok.loopN hLT hmix [] [0, 2, 3, 4, 8] [0, 3, 4, 2] [] (fun n s => ∃ (i sz : Nat), n = l.length - i ∧ i ≤ l.length ∧ (sz = 0 ∨ sz = 1) ∧ s = ⟨[(0, .list .imm (l.map rowT)), (3, .list (.own sz) (((l.take i).map Prod.fst).map rowI)), (4, .int .i64 (i : Int)), (2, .list (.own 0) [])], [], [], mR 0⟩) (n := l.length) ⟨0, 0, rfl, Nat.zero_le _, .inl rfl, rfl⟩ ?_
  rintro n s ⟨i, sz, rfl, hi, hsz, rfl⟩
  rcases hsz with rfl | rfl
  all_goals
    refine And.intro (fun h => ?_) (fun h => ?_)
    · have h : ((i : Nat) : Int) < ((l.map rowT).length : Int) := of_decide_eq_true h
      rw [List.length_map] at h
      have hi1 : i < l.length := by omega
      refine ⟨l.map rowT, rowT l[i], rfl, by omega, row_at l hi1, rfl, by decide, ?_⟩
      refine And.intro trivial ?_
      refine And.intro rfl (And.intro ?_ (And.intro rfl ?_))
      · show ((((l.take i).map Prod.fst).map rowI).length + 1) * 8 ≤ 140737488355328
        simp only [List.length_map, List.length_take]
        omega
      have hw := wrap_succ hi1 (by omega)
      refine ⟨l.length - (i + 1), by omega, i + 1, 1, rfl, by omega, .inr rfl, ?_⟩
      have ht : ((l.take (i + 1)).map Prod.fst).map rowI = ((l.take i).map Prod.fst).map rowI ++ [rowI l[i].1] := by
        rw [List.take_succ, List.getElem?_eq_getElem hi1, List.map_append, List.map_append]
        rfl
      rw [ht, ← hw]
      rfl
    · have h : ¬ ((i : Nat) : Int) < ((l.map rowT).length : Int) := of_decide_eq_false h
      rw [List.length_map] at h
      have ht : l.take i = l := List.take_of_length_le (by omega)
      rw [ht]
      exact And.intro ⟨_, rfl, by simp⟩ rfl

/-- Ask, the document's. -/
theorem askZ_bad {k q : Int} {l : Tbl} (h : ¬ (1 ≤ k ∧ k ≤ 1000000 ∧ 1 ≤ q ∧ q ≤ 1099511627776)) : askZ k q l = (⟨1, 0, 0, 0⟩, false) := by
  have : rightZ k q = false := by
    cases hr : rightZ k q with
    | false => rfl
    | true =>
      simp only [rightZ, Bool.and_eq_true, decide_eq_true_eq] at hr
      exact absurd hr h
  simp only [askZ, this, if_true]
theorem rightZ_of {k q : Int} (h : 1 ≤ k ∧ k ≤ 1000000 ∧ 1 ≤ q ∧ q ≤ 1099511627776) : rightZ k q = true := by
  simp only [rightZ, Bool.and_eq_true, decide_eq_true_eq]
  exact h
set_option maxHeartbeats 1000000 in
theorem t52_0 (l : Tbl) (hl : l.length ≤ 1000000000000) (k q : Int) : Tri Try.prog 52 0 [.list .imm (l.map rowT), .int .i64 k, .int .i64 q] [] (fun d l' => d = askD k q l ∧ l' = []) := by
  refine Tri.walk2 (L := LT) (c := {n := 63, ko := [7], kb := [6]}) [] [0, 1, 2, 6, 7, 8, 22, 27, 36, 43, 55, 60] hLT hmix Try.func52 rfl rfl ⟨rfl, rfl⟩ (by show 3 ≤ 63; decide) (Nat.le_refl _) ?_
  have bad : ¬ (1 ≤ k ∧ k ≤ 1000000 ∧ 1 ≤ q ∧ q ≤ 1099511627776) → D.tup [.agg [.int .i64 1, .int .i64 0, .int .i64 0, .int .i64 0], .bool false] = askD k q l := fun h => by simp only [askD, askZ_bad h, encR]
  refine And.intro (fun h1 => And.intro (bad fun h => by have := of_decide_eq_true h1; omega) rfl) (fun h1 => ?_)
  refine And.intro (fun h2 => And.intro (bad fun h => by have := of_decide_eq_true h2; omega) rfl) (fun h2 => ?_)
  refine And.intro (fun h3 => And.intro (bad fun h => by have := of_decide_eq_true h3; omega) rfl) (fun h3 => ?_)
  refine And.intro (fun h4 => And.intro (bad fun h => by have := of_decide_eq_true h4; omega) rfl) (fun h4 => ?_)
  have hr : rightZ k q = true := rightZ_of ⟨by have := of_decide_eq_false h1; omega, by have := of_decide_eq_false h2; omega, by have := of_decide_eq_false h3; omega, by have := of_decide_eq_false h4; omega⟩
  clear bad
  show Ok _ _ _ _ _
  refine Ok.loopN hLT hmix [] [0, 1, 2, 6, 7, 8, 22, 27, 36, 43, 55, 60] [0, 1, 2, 8, 6, 7] [6] (fun n s => ∃ i : Nat, n = l.length - i ∧ i ≤ l.length ∧ getT k (l.drop i) = getT k l ∧ s = ⟨[(0, .list .imm (l.map rowT)), (1, .int .i64 k), (2, .int .i64 q), (8, .int .i64 (i : Int)), (6, .lptr 6 0 0), (7, .bool false)], [(6, [.int .i64 0, .int .i64 0, .int .i64 0, .int .i64 0])], [], mR 0⟩) (n := l.length) ⟨0, rfl, Nat.zero_le _, rfl, rfl⟩ ?_
  rintro n s ⟨i, rfl, hi, heq, rfl⟩
  refine And.intro (fun h => ?_) (fun h => ?_)
  · have h : ((i : Nat) : Int) < ((l.map rowT).length : Int) := of_decide_eq_true h
    rw [List.length_map] at h
    have hi1 : i < l.length := by omega
    have hd : l.drop i = l[i] :: l.drop (i + 1) := List.drop_eq_getElem_cons hi1
    refine ⟨l.map rowT, rowT l[i], rfl, by omega, row_at l hi1, rfl, by decide, ?_⟩
    refine And.intro (fun hq => ?_) (fun hq => ?_)
    · have hq : ¬ l[i].1 = k := by simpa using hq
      have hw := wrap_succ hi1 (by omega)
      refine ⟨l.length - (i + 1), by omega, i + 1, rfl, by omega, ?_, ?_⟩
      · rw [← heq, hd]
        have : ¬ k = l[i].1 := fun e => hq e.symm
        simp [getT, this]
      · rw [← hw]
        rfl
    · have hq : l[i].1 = k := by simpa using hq
      have hg : getT k l = some l[i].2 := by rw [← heq, hd]; simp [getT, hq]
      refine ⟨l.map rowT, rowT l[i], rfl, by omega, row_at l hi1, rfl, by decide, ?_⟩
      refine And.intro (fun h5 => ?_) (fun h5 => ?_)
      · have h5 : l[i].2.seq = q := of_decide_eq_true h5
        refine ⟨l.map rowT, rowT l[i], rfl, by omega, row_at l hi1, rfl, by decide, ?_⟩
        refine And.intro ?_ rfl
        simp only [askD, askZ, hr, hg, encR]
        rw [if_neg (by simp), if_pos h5]
      · have h5 : ¬ l[i].2.seq = q := of_decide_eq_false h5
        refine ⟨l.map rowT, rowT l[i], rfl, by omega, row_at l hi1, rfl, by decide, ?_⟩
        refine And.intro (fun h6 => ?_) (fun h6 => ?_)
        · have h6 : l[i].2.seq > q := of_decide_eq_true h6
          refine And.intro ?_ rfl
          simp only [askD, askZ, hr, hg, encR]
          rw [if_neg (by simp), if_neg h5, if_pos h6]
        · have h6 : ¬ l[i].2.seq > q := of_decide_eq_false h6
          refine And.intro ?_ rfl
          simp only [askD, askZ, hr, hg, encR]
          rw [if_neg (by simp), if_neg h5, if_neg h6]
          rfl
  · have h : ¬ ((i : Nat) : Int) < ((l.map rowT).length : Int) := of_decide_eq_false h
    rw [List.length_map] at h
    have hg : getT k l = none := by rw [← heq, List.drop_eq_nil_of_le (by omega)]; rfl
    refine And.intro (fun h5 => ?_) (fun h5 => ?_)
    · have h5 : ((l.map rowT).length : Int) ≥ 16 := of_decide_eq_true h5
      rw [List.length_map] at h5
      refine And.intro ?_ rfl
      simp only [askD, askZ, hr, hg, encR]
      rw [if_neg (by simp), if_pos (by omega)]
    · have h5 : ¬ ((l.map rowT).length : Int) ≥ 16 := of_decide_eq_false h5
      rw [List.length_map] at h5
      refine And.intro ?_ rfl
      simp only [askD, askZ, hr, hg, encR]
      rw [if_neg (by simp), if_neg (by omega)]
      rfl
end Go.Lv

namespace Go.Lv
open Go.Proofs

/-- An entry put among rows that rise. -/
noncomputable def insR (k : Int) (e : Ent) : Tbl → Tbl
  | [] => [(k, e)]
  | x :: r => if x.1 < k then x :: insR k e r else if x.1 = k then (k, e) :: r else (k, e) :: x :: r
theorem insR_end (k : Int) (e : Ent) : ∀ (l : Tbl), (∀ x, x ∈ l → x.1 < k) → insR k e l = l ++ [(k, e)]
  | [], _ => rfl
  | x :: r, h => by
    unfold insR
    rw [if_pos (h x (by simp)), insR_end k e r fun y hy => h y (by simp [hy])]
    rfl
theorem insR_at (k : Int) (e : Ent) : ∀ (l : Tbl) (i : Nat) (hi : i < l.length), (∀ x, x ∈ l.take i → x.1 < k) → ¬ l[i].1 < k → insR k e l = l.take i ++ (k, e) :: (if l[i].1 = k then l.drop (i + 1) else l.drop i)
  | [], i, hi, _, _ => by simp at hi
  | x :: r, 0, hi, _, h => by
    have h : ¬ x.1 < k := h
    simp only [insR, if_neg h, List.take_zero, List.nil_append, List.getElem_cons_zero, List.drop_zero]
    split <;> rfl
  | x :: r, i + 1, hi, hl, h => by
    have hx : x.1 < k := hl x (by simp)
    have hi' : i < r.length := by simpa using hi
    have := insR_at k e r i hi' (fun y hy => hl y (by simp [hy])) (by simpa using h)
    simp only [insR, if_pos hx, List.take_succ_cons, List.cons_append, List.getElem_cons_succ, List.drop_succ_cons]
    rw [this]
noncomputable def doneR (k q : Int) (r : Rep) (l : Tbl) : Int × Tbl := if (askZ k q l).2 = true then (0, insR k ⟨q, r⟩ l) else (1, l)
theorem allLenT (l : Tbl) : allLen 6 (l.map rowT) = true := by simp [allLen, rowT]
theorem allLen_mono {n : Nat} {xs ys : List (List D)} (h : allLen n xs = true) (hs : ∀ r, r ∈ ys → r ∈ xs) : allLen n ys = true := by
  unfold allLen at *
  rw [List.all_eq_true] at *
  exact fun r hr => h r (hs r hr)

theorem rows_eq (l m : Tbl) (x : Int × Ent) (i j : Nat) (h : m = l.take i ++ x :: l.drop j) :
    ([] ++ (((l.map rowT).drop 0).take (((i : Nat) : Int).toNat - 0)) ++ [rowT x]) ++ ((l.map rowT).drop j).take ((l.map rowT).length - j) = m.map rowT := by
  rw [h, Int.toNat_natCast, Nat.sub_zero, List.drop_zero, List.nil_append, ← List.map_take, List.take_of_length_le (l := (l.map rowT).drop j) (by simp), ← List.map_drop, List.map_append, List.map_cons, List.append_assoc]
  rfl

set_option maxHeartbeats 4000000 in
theorem t53_0 (l : Tbl) (hl : l.length ≤ 1000000000) (k q : Int) (r : Rep) :
    Tri Try.prog 53 0 [.list .imm (l.map rowT), .int .i64 k, .int .i64 q, encR r] [] (fun d l' => (∃ kd, d = .tup [.list kd ((doneR k q r l).2.map rowT), .int .i64 (doneR k q r l).1] ∧ (kd = .own 6 ∨ kd = .imm)) ∧ l' = []) := by
  refine Tri.walk2 (L := LT) (c := {n := 72, ko := [8, 9, 14], xf := [67]}) [] [0, 1, 2, 7, 8, 9, 11, 12, 13, 14, 23, 41, 64] hLT hmix Try.func53 rfl rfl ⟨rfl, rfl⟩ (by show 4 ≤ 72; decide) (Nat.le_refl _) ?_
  refine ⟨rfl, Nat.le_refl 0, (t52_0 l (by omega) k q).mono ?_⟩
  rintro d l' ⟨hd, rfl⟩
  obtain ⟨⟨pw, ps, pd, pt⟩, fb, hz⟩ : ∃ p b, askZ k q l = (p, b) := ⟨_, _, rfl⟩
  rw [show askD k q l = .tup [.agg [.int .i64 pw, .int .i64 ps, .int .i64 pd, .int .i64 pt], .bool fb] by simp only [askD, hz, encR]] at hd
  subst hd
  refine ⟨rfl, fun _ _ => rfl, rfl, ?_⟩
  cases fb with
  | false =>
    have hdr : doneR k q r l = (1, l) := by simp [doneR, hz]
    rw [hdr]
    exact And.intro ⟨.imm, rfl, .inr rfl⟩ rfl
  | true =>
    have hdr : doneR k q r l = (0, insR k ⟨q, r⟩ l) := by simp [doneR, hz]
    rw [hdr]
    show Ok _ _ _ _ _
    refine Ok.loopN hLT hmix [] [0, 1, 2, 7, 8, 9, 11, 12, 13, 14, 23, 41, 64] [0, 1, 13, 12, 8, 9] [12] (fun n s => ∃ i : Nat, n = l.length - i ∧ i ≤ l.length ∧ (∀ x, x ∈ l.take i → x.1 < k) ∧ s = ⟨[(0, .list .imm (l.map rowT)), (1, .int .i64 k), (13, .int .i64 (i : Int)), (12, .lptr 12 0 0), (8, .list (.own 0) []), (9, .int .i64 0)], [(12, [.int .i64 k, .int .i64 q, .int .i64 r.why, .int .i64 r.st, .int .i64 r.dr, .int .i64 r.tm])], [], mR 0⟩) (n := l.length) ⟨0, rfl, Nat.zero_le _, fun x hx => by simp at hx, rfl⟩ ?_
    rintro n s ⟨i, rfl, hi, hlt, rfl⟩
    have hroom1 : (0 + (((l.map rowT).drop 0).take (((i : Nat) : Int).toNat - 0)).length) * 48 ≤ 140737488355328 := by
      simp only [List.length_take, List.length_drop, List.length_map]
      omega
    have hall1 : allLen 6 (((l.map rowT).drop 0).take (((i : Nat) : Int).toNat - 0)) = true := allLen_mono (allLenT l) fun r hr => List.mem_of_mem_drop (List.mem_of_mem_take hr)
    have hroom2 : (([] ++ (((l.map rowT).drop 0).take (((i : Nat) : Int).toNat - 0))).length + 1) * 48 ≤ 140737488355328 := by
      simp only [List.nil_append, List.length_take, List.length_drop, List.length_map]
      omega
    have hroom3 : ∀ (y : List D) (j m : Nat), (([] ++ (((l.map rowT).drop 0).take (((i : Nat) : Int).toNat - 0)) ++ [y]).length + (((l.map rowT).drop j).take m).length) * 48 ≤ 140737488355328 := fun y j m => by
      simp only [List.nil_append, List.length_append, List.length_cons, List.length_nil, List.length_take, List.length_drop, List.length_map]
      omega
    have hall3 : ∀ (j m : Nat), allLen 6 (((l.map rowT).drop j).take m) = true := fun j m => allLen_mono (allLenT l) fun r hr => List.mem_of_mem_drop (List.mem_of_mem_take hr)
    refine And.intro (fun h => ?_) (fun h => ?_)
    · have h : ((i : Nat) : Int) < ((l.map rowT).length : Int) := of_decide_eq_true h
      rw [List.length_map] at h
      have hi1 : i < l.length := by omega
      refine ⟨l.map rowT, rowT l[i], rfl, by omega, row_at l hi1, rfl, by decide, ?_⟩
      refine And.intro (fun hq => ?_) (fun hq => ?_)
      · have hq : l[i].1 < k := of_decide_eq_true hq
        have hw := wrap_succ hi1 (by omega)
        refine ⟨l.length - (i + 1), by omega, i + 1, rfl, by omega, fun x hx => ?_, ?_⟩
        · rw [List.take_succ, List.getElem?_eq_getElem hi1] at hx
          rcases List.mem_append.1 hx with hx | hx
          · exact hlt x hx
          · have : x = l[i] := by simpa using hx
            rw [this]; exact hq
        · rw [← hw]
          rfl
      · have hq : ¬ l[i].1 < k := of_decide_eq_false hq
        refine ⟨⟨511, [0, 0, 0, 6, 9, 0, 32, 80, 255], [1, 2, 4, 14, 31, 32, 96, 255, 511]⟩, by kernel_rfl, ?_⟩
        refine And.intro ⟨by omega, by rw [List.length_map]; omega⟩ (And.intro (Nat.zero_le _) (And.intro (by decide) (And.intro (allLenT l) ?_)))
        refine And.intro rfl ?_
        refine And.intro ?_ (And.intro ?_ trivial)
        focus
          refine And.intro (And.intro ⟨rfl, rfl⟩ (And.intro (And.intro ⟨by omega, by rw [List.length_map]; omega⟩ (And.intro (Nat.zero_le _) (And.intro (by decide) (And.intro (allLenT l) (And.intro rfl (And.intro rfl rfl)))))) (And.intro ⟨rfl, rfl⟩ (And.intro ⟨rfl, rfl⟩ trivial)))) ?_
          refine And.intro ?_ (And.intro ?_ trivial)
          focus
            refine And.intro trivial (And.intro rfl (And.intro hroom1 (And.intro hall1 ?_)))
            refine And.intro ⟨⟨rfl, rfl⟩, trivial⟩ ?_
            refine And.intro ?_ trivial
            refine And.intro trivial ?_
            refine And.intro ?_ trivial
            refine And.intro trivial (And.intro rfl (And.intro hroom2 (And.intro rfl ?_)))
            refine And.intro trivial ?_
            refine And.intro ?_ trivial
            refine And.intro trivial ?_
          rotate_left
          focus
            refine And.intro (And.intro (And.intro ⟨by omega, by rw [List.length_map]; omega⟩ (And.intro (Nat.zero_le _) (And.intro (by decide) (And.intro (allLenT l) (And.intro rfl (And.intro rfl rfl)))))) (And.intro ⟨rfl, rfl⟩ (And.intro ⟨rfl, rfl⟩ trivial))) ?_
            refine And.intro ?_ trivial
            refine And.intro trivial (And.intro rfl (And.intro hroom1 (And.intro hall1 ?_)))
            refine And.intro trivial ?_
            refine And.intro ?_ trivial
            refine And.intro trivial (And.intro rfl (And.intro hroom2 (And.intro rfl ?_)))
            refine And.intro trivial ?_
            refine And.intro ?_ trivial
            refine And.intro trivial ?_
        rotate_left 2
        focus
          refine And.intro (And.intro (And.intro ⟨by omega, by rw [List.length_map]; omega⟩ (And.intro (Nat.zero_le _) (And.intro (by decide) (And.intro (allLenT l) (And.intro rfl (And.intro rfl rfl)))))) (And.intro ⟨rfl, rfl⟩ (And.intro ⟨rfl, rfl⟩ trivial))) ?_
          refine And.intro ?_ trivial
          refine And.intro (And.intro (And.intro ⟨by omega, by rw [List.length_map]; omega⟩ (And.intro (Nat.zero_le _) (And.intro (by decide) (And.intro (allLenT l) (And.intro rfl (And.intro rfl rfl)))))) (And.intro ⟨rfl, rfl⟩ (And.intro ⟨rfl, rfl⟩ trivial))) ?_
          refine And.intro ?_ trivial
          refine And.intro trivial (And.intro rfl (And.intro hroom1 (And.intro hall1 ?_)))
          refine And.intro trivial ?_
          refine And.intro ?_ trivial
          refine And.intro trivial (And.intro rfl (And.intro hroom2 (And.intro rfl ?_)))
          refine And.intro trivial ?_
          refine And.intro ?_ trivial
          refine And.intro trivial ?_
        all_goals
          refine And.intro (fun _ => ?_) (fun h9 => absurd (of_decide_eq_false h9) (by rw [List.length_map]; omega))
          refine ⟨l.map rowT, rowT l[i], rfl, by omega, row_at l hi1, rfl, by decide, ?_⟩
          have hins := insR_at k ⟨q, r⟩ l i hi1 hlt hq
          refine And.intro (fun h10 => ?_) (fun h10 => ?_)
          · have h10 : l[i].1 = k := of_decide_eq_true h10
            have hw := wrap_succ hi1 (by omega)
            rw [if_pos h10] at hins
            refine And.intro (Nat.le_refl _) (And.intro ⟨by rw [hw]; omega, by rw [hw, List.length_map]; omega⟩ (And.intro (by decide) (And.intro (allLenT l) ?_)))
            refine And.intro trivial (And.intro rfl (And.intro (hroom3 _ _ _) (And.intro (hall3 _ _) ?_)))
            have hins : insR k ⟨q, r⟩ l = l.take i ++ (k, ⟨q, r⟩) :: l.drop ((IntKind.i64.wrap ((i : Int) + 1)).toNat) := by
              rw [hw, Int.toNat_natCast]
              exact hins
            exact And.intro ⟨.own 6, congrArg (fun rows => D.tup [D.list (.own 6) rows, .int .i64 0]) (rows_eq l _ (k, ⟨q, r⟩) i _ hins), .inl rfl⟩ rfl
          · have h10 : ¬ l[i].1 = k := of_decide_eq_false h10
            rw [if_neg h10] at hins
            refine And.intro (Nat.le_refl _) (And.intro ⟨by omega, by rw [List.length_map]; omega⟩ (And.intro (by decide) (And.intro (allLenT l) ?_)))
            refine And.intro trivial (And.intro rfl (And.intro (hroom3 _ _ _) (And.intro (hall3 _ _) ?_)))
            have hins : insR k ⟨q, r⟩ l = l.take i ++ (k, ⟨q, r⟩) :: l.drop (((i : Nat) : Int).toNat) := by
              rw [Int.toNat_natCast]
              exact hins
            exact And.intro ⟨.own 6, congrArg (fun rows => D.tup [D.list (.own 6) rows, .int .i64 0]) (rows_eq l _ (k, ⟨q, r⟩) i _ hins), .inl rfl⟩ rfl
    · have h : ¬ ((i : Nat) : Int) < ((l.map rowT).length : Int) := of_decide_eq_false h
      rw [List.length_map] at h
      refine ⟨⟨511, [0, 0, 0, 6, 9, 0, 32, 80, 255], [1, 2, 4, 14, 31, 32, 96, 255, 511]⟩, by kernel_rfl, ?_⟩
      refine And.intro ⟨by omega, by rw [List.length_map]; omega⟩ (And.intro (Nat.zero_le _) (And.intro (by decide) (And.intro (allLenT l) ?_)))
      refine And.intro rfl ?_
      refine And.intro ?_ (And.intro ?_ trivial)
      focus
        refine And.intro (And.intro ⟨rfl, rfl⟩ (And.intro (And.intro ⟨by omega, by rw [List.length_map]; omega⟩ (And.intro (Nat.zero_le _) (And.intro (by decide) (And.intro (allLenT l) (And.intro rfl (And.intro rfl rfl)))))) (And.intro ⟨rfl, rfl⟩ (And.intro ⟨rfl, rfl⟩ trivial)))) ?_
        refine And.intro ?_ (And.intro ?_ trivial)
        focus
          refine And.intro trivial (And.intro rfl (And.intro hroom1 (And.intro hall1 ?_)))
          refine And.intro ⟨⟨rfl, rfl⟩, trivial⟩ ?_
          refine And.intro ?_ trivial
          refine And.intro trivial ?_
          refine And.intro ?_ trivial
          refine And.intro trivial (And.intro rfl (And.intro hroom2 (And.intro rfl ?_)))
          refine And.intro trivial ?_
          refine And.intro ?_ trivial
          refine And.intro trivial ?_
        rotate_left
        focus
          refine And.intro (And.intro (And.intro ⟨by omega, by rw [List.length_map]; omega⟩ (And.intro (Nat.zero_le _) (And.intro (by decide) (And.intro (allLenT l) (And.intro rfl (And.intro rfl rfl)))))) (And.intro ⟨rfl, rfl⟩ (And.intro ⟨rfl, rfl⟩ trivial))) ?_
          refine And.intro ?_ trivial
          refine And.intro trivial (And.intro rfl (And.intro hroom1 (And.intro hall1 ?_)))
          refine And.intro trivial ?_
          refine And.intro ?_ trivial
          refine And.intro trivial (And.intro rfl (And.intro hroom2 (And.intro rfl ?_)))
          refine And.intro trivial ?_
          refine And.intro ?_ trivial
          refine And.intro trivial ?_
      rotate_left 2
      focus
        refine And.intro (And.intro (And.intro ⟨by omega, by rw [List.length_map]; omega⟩ (And.intro (Nat.zero_le _) (And.intro (by decide) (And.intro (allLenT l) (And.intro rfl (And.intro rfl rfl)))))) (And.intro ⟨rfl, rfl⟩ (And.intro ⟨rfl, rfl⟩ trivial))) ?_
        refine And.intro ?_ trivial
        refine And.intro (And.intro (And.intro ⟨by omega, by rw [List.length_map]; omega⟩ (And.intro (Nat.zero_le _) (And.intro (by decide) (And.intro (allLenT l) (And.intro rfl (And.intro rfl rfl)))))) (And.intro ⟨rfl, rfl⟩ (And.intro ⟨rfl, rfl⟩ trivial))) ?_
        refine And.intro ?_ trivial
        refine And.intro trivial (And.intro rfl (And.intro hroom1 (And.intro hall1 ?_)))
        refine And.intro trivial ?_
        refine And.intro ?_ trivial
        refine And.intro trivial (And.intro rfl (And.intro hroom2 (And.intro rfl ?_)))
        refine And.intro trivial ?_
        refine And.intro ?_ trivial
        refine And.intro trivial ?_
      all_goals
        refine And.intro (fun h9 => absurd (of_decide_eq_true h9) (by rw [List.length_map]; omega)) (fun _ => ?_)
        refine And.intro (Nat.le_refl _) (And.intro ⟨by omega, by rw [List.length_map]; omega⟩ (And.intro (by decide) (And.intro (allLenT l) ?_)))
        refine And.intro trivial (And.intro rfl (And.intro (hroom3 _ _ _) (And.intro (hall3 _ _) ?_)))
        have ht : l.take i = l := List.take_of_length_le (by omega)
        have hins : insR k ⟨q, r⟩ l = l.take i ++ (k, ⟨q, r⟩) :: l.drop (((i : Nat) : Int).toNat) := by
          rw [Int.toNat_natCast, List.drop_eq_nil_of_le (by omega), ht]
          rw [ht] at hlt
          exact insR_end k ⟨q, r⟩ l hlt
        exact And.intro ⟨.own 6, congrArg (fun rows => D.tup [D.list (.own 6) rows, .int .i64 0]) (rows_eq l _ (k, ⟨q, r⟩) i _ hins), .inl rfl⟩ rfl
end Go.Lv
