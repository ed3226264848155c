/-
  Chapter 18: a table as bytes, by the document and by the program.
-/
import Derived.Test.YtpfoccpolaggiaaW3
set_option linter.all false
set_option maxRecDepth 100000
namespace Go.Lv
open Go.Proofs

noncomputable def rowsB : Tbl → List Int
  | [] => []
  | x :: r => numB x.1 ++ (numB x.2.seq ++ (repB x.2.rp ++ rowsB r))
noncomputable def tblB (l : Tbl) : List Int := numB (l.length : Int) ++ rowsB l
theorem rowsB_len : ∀ l : Tbl, (rowsB l).length ≤ 60 * l.length
  | [] => by simp [rowsB]
  | x :: r => by
    have h1 := numB_len x.1
    have h2 := numB_len x.2.seq
    have h3 := repB_len x.2.rp
    have h4 := rowsB_len r
    simp only [rowsB, List.length_append, List.length_cons]
    omega
theorem rowsB_append : ∀ l m : Tbl, rowsB (l ++ m) = rowsB l ++ rowsB m
  | [], m => rfl
  | x :: r, m => by simp only [List.cons_append, rowsB, rowsB_append r m, List.append_assoc]
theorem rowsB_take (l : Tbl) {i : Nat} (hi : i < l.length) : rowsB (l.take (i + 1)) = rowsB (l.take i) ++ (numB l[i].1 ++ (numB l[i].2.seq ++ repB l[i].2.rp)) := by
  rw [List.take_succ, List.getElem?_eq_getElem hi, rowsB_append]
  simp [rowsB]
set_option maxHeartbeats 4000000 in
/-- The document's Put. -/
theorem t20_0 (bs : List Int) (hb : bs.length ≤ 10000000000000) (l : Tbl) (hl : l.length ≤ 1000000000) :
    Tri Try.prog 20 0 [.list .imm (bs.map rowB), .list .imm (l.map rowT)] [] (fun d l' => d = .list .imm ((bs ++ tblB l).map rowB) ∧ l' = []) := by
  refine Tri.walk2 (L := LT) (c := {n := 37, ko := [4]}) [] [0, 1, 4, 5, 6, 14] hLT hmix Try.func20 rfl rfl ⟨rfl, rfl⟩ (by show 2 ≤ 37; decide) (Nat.le_refl _) ?_
  refine ⟨rfl, Nat.le_refl 0, (t39_0 bs (by omega) ((l.map rowT).length : Int)).mono ?_⟩
  rintro d l' ⟨rfl, rfl⟩
  refine ⟨rfl, fun _ _ => rfl, rfl, ?_⟩
  show Ok _ _ _ _ _
  refine Ok.loopN hLT hmix [] [0, 1, 4, 5, 6, 14] [1, 5, 6, 4] [] (fun n s => ∃ i : Nat, n = l.length - i ∧ i ≤ l.length ∧ s = ⟨[(1, .list .imm (l.map rowT)), (5, .list .imm ((bs ++ numB ((l.map rowT).length : Int) ++ rowsB (l.take i)).map rowB)), (6, .int .i64 (i : Int)), (4, .list (.own 0) [])], [], [], mR 0⟩) (n := l.length) ⟨0, rfl, Nat.zero_le _, by rw [List.take_zero]; show _ = (⟨[(1, _), (5, .list .imm ((bs ++ numB ((l.map rowT).length : Int) ++ []).map rowB)), _, _], _, _, _⟩ : DS); rw [List.append_nil]; rfl⟩ ?_
  rintro n s ⟨i, rfl, hi, rfl⟩
  have hn := numB_len ((l.map rowT).length : Int)
  have hrb := rowsB_len (l.take i)
  have hti : (l.take i).length ≤ l.length := by rw [List.length_take]; omega
  refine And.intro (fun h => ?_) (fun h => ?_)
  · have h : ((i : Nat) : Int) < ((l.map rowT).length : Int) := of_decide_eq_true h
    rw [List.length_map] at h
    have hi1 : i < l.length := by omega
    have h1 := numB_len l[i].1
    have h2 := numB_len l[i].2.seq
    have hw := wrap_succ hi1 (by omega)
    refine ⟨⟨524287, [0, 0, 0, 6, 8, 16, 33, 0, 0, 384, 512, 1024, 2112, 0, 0, 24576, 32768, 65536, 135168, 524287], [1, 2, 4, 14, 30, 62, 127, 128, 256, 896, 1920, 3968, 8191, 8192, 16384, 57344, 122880, 253952, 524287, 1048575]⟩, by kernel_rfl, ?_⟩
    refine ⟨l.map rowT, rowT l[i], rfl, by omega, row_at l hi1, rfl, by decide, ?_⟩
    refine And.intro rfl ?_
    refine ⟨l.map rowT, rowT l[i], rfl, by omega, row_at l hi1, rfl, by decide, ?_⟩
    refine And.intro rfl ?_
    refine ⟨l.map rowT, rowT l[i], rfl, by omega, row_at l hi1, rfl, by decide, ?_⟩
    refine And.intro rfl ?_
    refine And.intro ?_ trivial
    refine ⟨rfl, Nat.le_refl 0, (t39_0 (bs ++ numB ((l.map rowT).length : Int) ++ rowsB (l.take i)) (by simp only [List.length_append]; omega) l[i].1).mono ?_⟩
    rintro d l' ⟨rfl, rfl⟩
    refine ⟨rfl, fun _ _ => rfl, rfl, ?_⟩
    refine And.intro (And.intro ⟨rfl, rfl⟩ (And.intro ⟨rfl, rfl⟩ (And.intro ⟨l.map rowT, rowT l[i], rfl, by omega, row_at l hi1, rfl, by decide, And.intro rfl (And.intro rfl rfl)⟩ (And.intro ⟨rfl, rfl⟩ (And.intro ⟨rfl, rfl⟩ (And.intro ⟨rfl, rfl⟩ (And.intro ⟨rfl, rfl⟩ (And.intro ⟨l.map rowT, rowT l[i], rfl, by omega, row_at l hi1, rfl, by decide, And.intro rfl (And.intro rfl rfl)⟩ (And.intro ⟨rfl, rfl⟩ (And.intro ⟨rfl, rfl⟩ trivial)))))))))) ?_
    refine And.intro ?_ trivial
    refine ⟨rfl, Nat.le_refl 0, (t39_0 (bs ++ numB ((l.map rowT).length : Int) ++ rowsB (l.take i) ++ numB l[i].1) (by simp only [List.length_append]; omega) l[i].2.seq).mono ?_⟩
    rintro d l' ⟨rfl, rfl⟩
    refine ⟨rfl, fun _ _ => rfl, rfl, ?_⟩
    refine And.intro (And.intro ⟨rfl, rfl⟩ (And.intro ⟨rfl, rfl⟩ (And.intro ⟨l.map rowT, rowT l[i], rfl, by omega, row_at l hi1, rfl, by decide, And.intro rfl (And.intro rfl rfl)⟩ (And.intro ⟨rfl, rfl⟩ (And.intro ⟨rfl, rfl⟩ trivial))))) ?_
    refine And.intro ?_ trivial
    refine ⟨rfl, Nat.le_refl 0, (t40_0 (bs ++ numB ((l.map rowT).length : Int) ++ rowsB (l.take i) ++ numB l[i].1 ++ numB l[i].2.seq) (by simp only [List.length_append]; omega) l[i].2.rp).mono ?_⟩
    rintro d l' ⟨rfl, rfl⟩
    refine ⟨rfl, fun _ _ => rfl, rfl, ?_⟩
    refine And.intro trivial ?_
    refine And.intro ?_ trivial
    refine And.intro trivial ?_
    refine ⟨l.length - (i + 1), by omega, i + 1, rfl, by omega, ?_⟩
    rw [rowsB_take l hi1, ← hw]
    have : bs ++ numB ((l.map rowT).length : Int) ++ (rowsB (l.take i) ++ (numB l[i].1 ++ (numB l[i].2.seq ++ repB l[i].2.rp))) = bs ++ numB ((l.map rowT).length : Int) ++ rowsB (l.take i) ++ numB l[i].1 ++ numB l[i].2.seq ++ repB l[i].2.rp := by simp only [List.append_assoc]
    rw [this]
    rfl
  · have h : ¬ ((i : Nat) : Int) < ((l.map rowT).length : Int) := of_decide_eq_false h
    rw [List.length_map] at h
    refine And.intro ?_ rfl
    have ht : l.take i = l := List.take_of_length_le (by omega)
    rw [ht]
    simp only [tblB, List.length_map, List.append_assoc]
end Go.Lv

namespace Go.Lv
open Go.Proofs

theorem nrBLL_B : ∀ bs : List Int, nrBLL 0 (bs.map rowB) = true
  | [] => rfl
  | b :: r => by
    show (nrBL 0 (rowB b) && nrBLL 0 (r.map rowB)) = true
    rw [nrBLL_B r]
    rfl
theorem nrBL_B {bs : List Int} {d : D} (hd : nrB 0 d = true) : nrBL 0 [.list .imm (bs.map rowB), d] = true := by
  show (nrBLL 0 (bs.map rowB) && (nrB 0 d && true)) = true
  rw [nrBLL_B, hd]
  rfl
theorem t37 (bs : List Int) (hb : bs.length ≤ 100000000000000) (n : Int) (h1 : -9223372036854775808 ≤ n) (h2 : n ≤ 9223372036854775807) {r : Nat} {sto : List Ob} (hr : r ≤ sto.length) :
    Tri Try.prog 37 r [.list .imm (bs.map rowB), .int .i64 n] sto (fun d l => d = .list (.own 1) ((bs ++ numB n).map rowB) ∧ l = sto) :=
  (t37_0 bs hb n h1 h2).pure rfl (nrBL_B rfl) rfl (nrBLL_B _) hr
theorem t38 (bs : List Int) (hb : bs.length ≤ 90000000000000) (p : Rep) (hp : inRep p) {r : Nat} {sto : List Ob} (hr : r ≤ sto.length) :
    Tri Try.prog 38 r [.list .imm (bs.map rowB), encR p] sto (fun d l => d = .list (.own 1) ((bs ++ repB p).map rowB) ∧ l = sto) :=
  (t38_0 bs hb p hp).pure rfl (nrBL_B rfl) rfl (nrBLL_B _) hr

noncomputable def tabK (m : Tbl) (ks : List Int) : Tbl := ks.map fun k => (k, (getT k m).getD ⟨0, rep0⟩)
noncomputable def tabR (m : Tbl) : Tbl := tabK m (sortI (m.map Prod.fst))
theorem getT_mem {k : Int} {e : Ent} : ∀ {m : Tbl}, getT k m = some e → (k, e) ∈ m
  | [], h => by cases h
  | x :: r, h => by
    unfold getT at h
    split at h
    · rename_i hk
      cases h
      rw [hk]
      exact List.mem_cons_self
    · exact List.mem_cons_of_mem _ (getT_mem h)
theorem getT_key {k : Int} : ∀ {m : Tbl}, k ∈ m.map Prod.fst → ∃ e, getT k m = some e
  | [], h => by simp at h
  | x :: r, h => by
    unfold getT
    split
    · exact ⟨_, rfl⟩
    · rename_i hk
      refine getT_key ?_
      rcases List.mem_cons.1 h with h | h
      · exact absurd h hk
      · exact h
noncomputable def inTbl (m : Tbl) : Prop := ∀ x, x ∈ m → in64' x.1 ∧ in64' x.2.seq ∧ inRep x.2.rp
set_option maxHeartbeats 8000000 in
/-- Put. -/
theorem t18 (hC : TurnC Try.prog 32 sortI) (m : Tbl) (hm : m.length ≤ 1000) (hin : inTbl m) (bs : List Int) (hb : bs.length ≤ 10000000000000) :
    Tri Try.prog 18 2 [.gptr 1 0, .list .imm (bs.map rowB)] (stT m) (fun d l' => d = .list (.own 1) ((bs ++ (numB (m.length : Int) ++ rowsB (tabR m))).map rowB) ∧ l' = stT m) := by
  refine Tri.walk2 (L := LT) (c := {n := 41, ko := [4, 5], xf := [29, 40]}) [] [0, 1, 4, 5, 7, 8, 17, 18, 19, 20] hLT hmix Try.func18 rfl rfl ⟨rfl, rfl⟩ (by show 2 ≤ 41; decide) (by show 2 ≤ 2; decide) ?_
  have hlm : ((encT m).length : Int) = (m.length : Int) := by rw [encT_len]
  refine ⟨rfl, Nat.le_refl 2, (t37 bs (by omega) ((encT m).length : Int) (by rw [hlm]; omega) (by rw [hlm]; omega) (r := 2) (sto := stT m) (Nat.le_refl 2)).mono ?_⟩
  rintro d l' ⟨rfl, rfl⟩
  refine ⟨rfl, fun _ _ => rfl, rfl, ?_⟩
  refine ⟨rfl, Nat.le_refl 2, (t14 hC m hm).mono ?_⟩
  rintro d l' ⟨⟨sz, rfl, hsz⟩, rfl⟩
  refine ⟨rfl, fun _ _ => rfl, rfl, ?_⟩
  unfold tabR
  have hkeys : ∀ k, k ∈ sortI (m.map Prod.fst) → k ∈ m.map Prod.fst := fun k h => (sortI_perm _).mem_iff.1 h
  have hlk : (sortI (m.map Prod.fst)).length = m.length := by rw [(sortI_perm _).length_eq, List.length_map]
  generalize sortI (m.map Prod.fst) = ks at hkeys hlk
  rw [hlm]
  rcases hsz with rfl | rfl
  · show Ok _ _ _ _ _
    refine Ok.loopN hLT hmix [] [0, 1, 4, 5, 7, 8, 17, 18, 19, 20] [0, 5, 17, 18, 19, 4] [] (fun n s => ∃ i : Nat, n = ks.length - i ∧ i ≤ ks.length ∧ s = ⟨[(0, .gptr 1 0), (5, .list (.own 1) ((bs ++ numB (m.length : Int) ++ rowsB (tabK m (ks.take i))).map rowB)), (17, .list (.own 0) (ks.map rowI)), (18, .int .i64 ((ks.map rowI).length : Int)), (19, .int .i64 (i : Int)), (4, .list (.own 0) [])], [], stT m, mR 2⟩) (n := ks.length) ⟨0, rfl, Nat.zero_le _, by rw [List.take_zero]; show _ = (⟨[_, (5, .list (.own 1) ((bs ++ numB (m.length : Int) ++ []).map rowB)), _, _, _, _], _, _, _⟩ : DS); rw [List.append_nil]; rfl⟩ ?_
    rintro n s ⟨i, rfl, hi, rfl⟩
    have hn := numB_len (m.length : Int)
    have hrb := rowsB_len (tabK m (ks.take i))
    have hti : (tabK m (ks.take i)).length ≤ ks.length := by simp only [tabK, List.length_map, List.length_take]; omega
    refine And.intro (fun h => ?_) (fun h => ?_)
    · have h : ((i : Nat) : Int) < ((ks.map rowI).length : Int) := of_decide_eq_true h
      rw [List.length_map] at h
      have hi1 : i < ks.length := by omega
      have hrow := row_at (f := rowI) ks hi1
      have hw := wrap_succ hi1 (by omega)
      refine ⟨ks.map rowI, rowI ks[i], rfl, by omega, hrow, rfl, (by show 0 < 1; decide), ?_⟩
      refine ⟨[.int .i64 ks[i]], .int .i64 ks[i], ?_, rfl, rfl, ?_⟩
      · show (match (match ((ks.map rowI)[((i : Nat) : Int).toNat]? : Option (List D)) with | some r => if r.length = 1 then some r else none | none => none) with | some r => sliceL r 0 1 | none => none) = _
        rw [hrow]
        rfl
      obtain ⟨e, hg⟩ := getT_key (hkeys ks[i] (List.getElem_mem hi1))
      obtain ⟨hk, hq, he⟩ := hin _ (getT_mem hg)
      have hf := findT ks[i] m
      rw [hg] at hf
      have htk : rowsB (tabK m (ks.take (i + 1))) = rowsB (tabK m (ks.take i)) ++ (numB ks[i] ++ (numB e.seq ++ repB e.rp)) := by
        unfold tabK
        rw [List.take_succ, List.getElem?_eq_getElem hi1, List.map_append, rowsB_append]
        simp [rowsB, hg]
      generalize ks[i] = k at hg hk hf htk
      refine And.intro rfl ⟨some (encE e), hf, ?_⟩
      have h1 := numB_len k
      have h2 := numB_len e.seq
      have h3 := repB_len e.rp
      have hroom : (((bs ++ numB (m.length : Int) ++ rowsB (tabK m (ks.take i))).map rowB).length + (([] ++ numB k ++ numB e.seq ++ repB e.rp).map rowB).length) * 1 ≤ 140737488355328 := by
        simp only [List.length_map, List.length_append, List.length_nil]
        omega
      refine ⟨⟨1023, [0, 0, 2, 0, 8, 20, 0, 64, 160, 257, 1023], [1, 2, 6, 8, 24, 62, 64, 192, 510, 1023, 2047]⟩, by kernel_rfl, ?_⟩
      refine And.intro ?_ (And.intro ?_ trivial)
      focus
        refine And.intro (And.intro ⟨rfl, rfl⟩ (And.intro ⟨rfl, rfl⟩ (And.intro ⟨rfl, rfl⟩ (And.intro ⟨rfl, rfl⟩ (And.intro ⟨rfl, rfl⟩ trivial))))) ?_
        refine And.intro ?_ trivial
        refine ⟨rfl, Nat.le_refl 2, (t37 [] (by simp) k hk.1 hk.2 (r := 2) (sto := stT m) (Nat.le_refl 2)).mono ?_⟩
        rintro d l' ⟨rfl, rfl⟩
        refine ⟨rfl, fun _ _ => rfl, rfl, ?_⟩
        refine And.intro (And.intro ⟨rfl, rfl⟩ (And.intro ⟨rfl, rfl⟩ (And.intro ⟨rfl, rfl⟩ (And.intro ⟨rfl, rfl⟩ trivial)))) ?_
        refine And.intro ?_ trivial
        refine ⟨rfl, Nat.le_refl 2, (t37 ([] ++ numB k) (by simp only [List.length_append, List.length_nil]; omega) e.seq hq.1 hq.2 (r := 2) (sto := stT m) (Nat.le_refl 2)).mono ?_⟩
        rintro d l' ⟨rfl, rfl⟩
        refine ⟨rfl, fun _ _ => rfl, rfl, ?_⟩
        refine And.intro (And.intro ⟨rfl, rfl⟩ (And.intro ⟨rfl, rfl⟩ trivial)) ?_
        refine And.intro ?_ trivial
        refine ⟨rfl, Nat.le_refl 2, (t38 ([] ++ numB k ++ numB e.seq) (by simp only [List.length_append, List.length_nil]; omega) e.rp he (r := 2) (sto := stT m) (Nat.le_refl 2)).mono ?_⟩
        rintro d l' ⟨rfl, rfl⟩
        refine ⟨rfl, fun _ _ => rfl, rfl, ?_⟩
        refine And.intro trivial ?_
        refine And.intro ?_ trivial
        refine And.intro trivial (And.intro rfl (And.intro hroom (And.intro (allLenB _) ?_)))
        refine And.intro trivial ?_
        refine And.intro ?_ trivial
        refine And.intro trivial ?_
      rotate_left
      focus
        refine ⟨rfl, Nat.le_refl 2, (t37 [] (by simp) k hk.1 hk.2 (r := 2) (sto := stT m) (Nat.le_refl 2)).mono ?_⟩
        rintro d l' ⟨rfl, rfl⟩
        refine ⟨rfl, fun _ _ => rfl, rfl, ?_⟩
        refine And.intro (And.intro ⟨rfl, rfl⟩ (And.intro ⟨rfl, rfl⟩ (And.intro ⟨rfl, rfl⟩ (And.intro ⟨rfl, rfl⟩ trivial)))) ?_
        refine And.intro ?_ (And.intro ?_ trivial)
        focus
          refine And.intro (And.intro ⟨rfl, rfl⟩ (And.intro ⟨rfl, rfl⟩ (And.intro ⟨rfl, rfl⟩ (And.intro ⟨rfl, rfl⟩ trivial)))) ?_
          refine And.intro ?_ trivial
          refine ⟨rfl, Nat.le_refl 2, (t37 ([] ++ numB k) (by simp only [List.length_append, List.length_nil]; omega) e.seq hq.1 hq.2 (r := 2) (sto := stT m) (Nat.le_refl 2)).mono ?_⟩
          rintro d l' ⟨rfl, rfl⟩
          refine ⟨rfl, fun _ _ => rfl, rfl, ?_⟩
          refine And.intro (And.intro ⟨rfl, rfl⟩ (And.intro ⟨rfl, rfl⟩ trivial)) ?_
          refine And.intro ?_ trivial
          refine ⟨rfl, Nat.le_refl 2, (t38 ([] ++ numB k ++ numB e.seq) (by simp only [List.length_append, List.length_nil]; omega) e.rp he (r := 2) (sto := stT m) (Nat.le_refl 2)).mono ?_⟩
          rintro d l' ⟨rfl, rfl⟩
          refine ⟨rfl, fun _ _ => rfl, rfl, ?_⟩
          refine And.intro trivial ?_
          refine And.intro ?_ trivial
          refine And.intro trivial (And.intro rfl (And.intro hroom (And.intro (allLenB _) ?_)))
          refine And.intro trivial ?_
          refine And.intro ?_ trivial
          refine And.intro trivial ?_
        rotate_left
        focus
          refine ⟨rfl, Nat.le_refl 2, (t37 ([] ++ numB k) (by simp only [List.length_append, List.length_nil]; omega) e.seq hq.1 hq.2 (r := 2) (sto := stT m) (Nat.le_refl 2)).mono ?_⟩
          rintro d l' ⟨rfl, rfl⟩
          refine ⟨rfl, fun _ _ => rfl, rfl, ?_⟩
          refine And.intro (And.intro ⟨rfl, rfl⟩ (And.intro ⟨rfl, rfl⟩ trivial)) ?_
          refine And.intro ?_ (And.intro ?_ trivial)
          focus
            refine And.intro (And.intro ⟨rfl, rfl⟩ (And.intro ⟨rfl, rfl⟩ trivial)) ?_
            refine And.intro ?_ trivial
            refine ⟨rfl, Nat.le_refl 2, (t38 ([] ++ numB k ++ numB e.seq) (by simp only [List.length_append, List.length_nil]; omega) e.rp he (r := 2) (sto := stT m) (Nat.le_refl 2)).mono ?_⟩
            rintro d l' ⟨rfl, rfl⟩
            refine ⟨rfl, fun _ _ => rfl, rfl, ?_⟩
            refine And.intro trivial ?_
            refine And.intro ?_ trivial
            refine And.intro trivial (And.intro rfl (And.intro hroom (And.intro (allLenB _) ?_)))
            refine And.intro trivial ?_
            refine And.intro ?_ trivial
            refine And.intro trivial ?_
          rotate_left
          focus
            refine ⟨rfl, Nat.le_refl 2, (t38 ([] ++ numB k ++ numB e.seq) (by simp only [List.length_append, List.length_nil]; omega) e.rp he (r := 2) (sto := stT m) (Nat.le_refl 2)).mono ?_⟩
            rintro d l' ⟨rfl, rfl⟩
            refine ⟨rfl, fun _ _ => rfl, rfl, ?_⟩
            refine And.intro trivial ?_
            refine And.intro ?_ trivial
            refine And.intro trivial ?_
            refine And.intro ?_ trivial
            refine And.intro trivial (And.intro rfl (And.intro hroom (And.intro (allLenB _) ?_)))
            refine And.intro trivial ?_
            refine And.intro ?_ trivial
            refine And.intro trivial ?_
      all_goals
        refine ⟨ks.length - (i + 1), by omega, i + 1, rfl, by omega, ?_⟩
        rw [htk, ← hw]
        have : (bs ++ numB (m.length : Int) ++ (rowsB (tabK m (ks.take i)) ++ (numB k ++ (numB e.seq ++ repB e.rp)))).map rowB = (bs ++ numB (m.length : Int) ++ rowsB (tabK m (ks.take i))).map rowB ++ ([] ++ numB k ++ numB e.seq ++ repB e.rp).map rowB := by simp only [List.map_append, List.append_assoc, List.nil_append, List.map_nil]
        rw [this]
        rfl
    · have h : ¬ ((i : Nat) : Int) < ((ks.map rowI).length : Int) := of_decide_eq_false h
      rw [List.length_map] at h
      refine And.intro ?_ rfl
      have ht : ks.take i = ks := List.take_of_length_le (by omega)
      rw [ht]
      simp only [List.append_assoc]
  · show Ok _ _ _ _ _
    refine Ok.loopN hLT hmix [] [0, 1, 4, 5, 7, 8, 17, 18, 19, 20] [0, 5, 17, 18, 19, 4] [] (fun n s => ∃ i : Nat, n = ks.length - i ∧ i ≤ ks.length ∧ s = ⟨[(0, .gptr 1 0), (5, .list (.own 1) ((bs ++ numB (m.length : Int) ++ rowsB (tabK m (ks.take i))).map rowB)), (17, .list (.own 1) (ks.map rowI)), (18, .int .i64 ((ks.map rowI).length : Int)), (19, .int .i64 (i : Int)), (4, .list (.own 0) [])], [], stT m, mR 2⟩) (n := ks.length) ⟨0, rfl, Nat.zero_le _, by rw [List.take_zero]; show _ = (⟨[_, (5, .list (.own 1) ((bs ++ numB (m.length : Int) ++ []).map rowB)), _, _, _, _], _, _, _⟩ : DS); rw [List.append_nil]; rfl⟩ ?_
    rintro n s ⟨i, rfl, hi, rfl⟩
    have hn := numB_len (m.length : Int)
    have hrb := rowsB_len (tabK m (ks.take i))
    have hti : (tabK m (ks.take i)).length ≤ ks.length := by simp only [tabK, List.length_map, List.length_take]; omega
    refine And.intro (fun h => ?_) (fun h => ?_)
    · have h : ((i : Nat) : Int) < ((ks.map rowI).length : Int) := of_decide_eq_true h
      rw [List.length_map] at h
      have hi1 : i < ks.length := by omega
      have hrow := row_at (f := rowI) ks hi1
      have hw := wrap_succ hi1 (by omega)
      refine ⟨ks.map rowI, rowI ks[i], rfl, by omega, hrow, rfl, (by show 0 < 1; decide), ?_⟩
      refine ⟨[.int .i64 ks[i]], .int .i64 ks[i], ?_, rfl, rfl, ?_⟩
      · show (match (match ((ks.map rowI)[((i : Nat) : Int).toNat]? : Option (List D)) with | some r => if r.length = 1 then some r else none | none => none) with | some r => sliceL r 0 1 | none => none) = _
        rw [hrow]
        rfl
      obtain ⟨e, hg⟩ := getT_key (hkeys ks[i] (List.getElem_mem hi1))
      obtain ⟨hk, hq, he⟩ := hin _ (getT_mem hg)
      have hf := findT ks[i] m
      rw [hg] at hf
      have htk : rowsB (tabK m (ks.take (i + 1))) = rowsB (tabK m (ks.take i)) ++ (numB ks[i] ++ (numB e.seq ++ repB e.rp)) := by
        unfold tabK
        rw [List.take_succ, List.getElem?_eq_getElem hi1, List.map_append, rowsB_append]
        simp [rowsB, hg]
      generalize ks[i] = k at hg hk hf htk
      refine And.intro rfl ⟨some (encE e), hf, ?_⟩
      have h1 := numB_len k
      have h2 := numB_len e.seq
      have h3 := repB_len e.rp
      have hroom : (((bs ++ numB (m.length : Int) ++ rowsB (tabK m (ks.take i))).map rowB).length + (([] ++ numB k ++ numB e.seq ++ repB e.rp).map rowB).length) * 1 ≤ 140737488355328 := by
        simp only [List.length_map, List.length_append, List.length_nil]
        omega
      refine ⟨⟨1023, [0, 0, 2, 0, 8, 20, 0, 64, 160, 257, 1023], [1, 2, 6, 8, 24, 62, 64, 192, 510, 1023, 2047]⟩, by kernel_rfl, ?_⟩
      refine And.intro ?_ (And.intro ?_ trivial)
      focus
        refine And.intro (And.intro ⟨rfl, rfl⟩ (And.intro ⟨rfl, rfl⟩ (And.intro ⟨rfl, rfl⟩ (And.intro ⟨rfl, rfl⟩ (And.intro ⟨rfl, rfl⟩ trivial))))) ?_
        refine And.intro ?_ trivial
        refine ⟨rfl, Nat.le_refl 2, (t37 [] (by simp) k hk.1 hk.2 (r := 2) (sto := stT m) (Nat.le_refl 2)).mono ?_⟩
        rintro d l' ⟨rfl, rfl⟩
        refine ⟨rfl, fun _ _ => rfl, rfl, ?_⟩
        refine And.intro (And.intro ⟨rfl, rfl⟩ (And.intro ⟨rfl, rfl⟩ (And.intro ⟨rfl, rfl⟩ (And.intro ⟨rfl, rfl⟩ trivial)))) ?_
        refine And.intro ?_ trivial
        refine ⟨rfl, Nat.le_refl 2, (t37 ([] ++ numB k) (by simp only [List.length_append, List.length_nil]; omega) e.seq hq.1 hq.2 (r := 2) (sto := stT m) (Nat.le_refl 2)).mono ?_⟩
        rintro d l' ⟨rfl, rfl⟩
        refine ⟨rfl, fun _ _ => rfl, rfl, ?_⟩
        refine And.intro (And.intro ⟨rfl, rfl⟩ (And.intro ⟨rfl, rfl⟩ trivial)) ?_
        refine And.intro ?_ trivial
        refine ⟨rfl, Nat.le_refl 2, (t38 ([] ++ numB k ++ numB e.seq) (by simp only [List.length_append, List.length_nil]; omega) e.rp he (r := 2) (sto := stT m) (Nat.le_refl 2)).mono ?_⟩
        rintro d l' ⟨rfl, rfl⟩
        refine ⟨rfl, fun _ _ => rfl, rfl, ?_⟩
        refine And.intro trivial ?_
        refine And.intro ?_ trivial
        refine And.intro trivial (And.intro rfl (And.intro hroom (And.intro (allLenB _) ?_)))
        refine And.intro trivial ?_
        refine And.intro ?_ trivial
        refine And.intro trivial ?_
      rotate_left
      focus
        refine ⟨rfl, Nat.le_refl 2, (t37 [] (by simp) k hk.1 hk.2 (r := 2) (sto := stT m) (Nat.le_refl 2)).mono ?_⟩
        rintro d l' ⟨rfl, rfl⟩
        refine ⟨rfl, fun _ _ => rfl, rfl, ?_⟩
        refine And.intro (And.intro ⟨rfl, rfl⟩ (And.intro ⟨rfl, rfl⟩ (And.intro ⟨rfl, rfl⟩ (And.intro ⟨rfl, rfl⟩ trivial)))) ?_
        refine And.intro ?_ (And.intro ?_ trivial)
        focus
          refine And.intro (And.intro ⟨rfl, rfl⟩ (And.intro ⟨rfl, rfl⟩ (And.intro ⟨rfl, rfl⟩ (And.intro ⟨rfl, rfl⟩ trivial)))) ?_
          refine And.intro ?_ trivial
          refine ⟨rfl, Nat.le_refl 2, (t37 ([] ++ numB k) (by simp only [List.length_append, List.length_nil]; omega) e.seq hq.1 hq.2 (r := 2) (sto := stT m) (Nat.le_refl 2)).mono ?_⟩
          rintro d l' ⟨rfl, rfl⟩
          refine ⟨rfl, fun _ _ => rfl, rfl, ?_⟩
          refine And.intro (And.intro ⟨rfl, rfl⟩ (And.intro ⟨rfl, rfl⟩ trivial)) ?_
          refine And.intro ?_ trivial
          refine ⟨rfl, Nat.le_refl 2, (t38 ([] ++ numB k ++ numB e.seq) (by simp only [List.length_append, List.length_nil]; omega) e.rp he (r := 2) (sto := stT m) (Nat.le_refl 2)).mono ?_⟩
          rintro d l' ⟨rfl, rfl⟩
          refine ⟨rfl, fun _ _ => rfl, rfl, ?_⟩
          refine And.intro trivial ?_
          refine And.intro ?_ trivial
          refine And.intro trivial (And.intro rfl (And.intro hroom (And.intro (allLenB _) ?_)))
          refine And.intro trivial ?_
          refine And.intro ?_ trivial
          refine And.intro trivial ?_
        rotate_left
        focus
          refine ⟨rfl, Nat.le_refl 2, (t37 ([] ++ numB k) (by simp only [List.length_append, List.length_nil]; omega) e.seq hq.1 hq.2 (r := 2) (sto := stT m) (Nat.le_refl 2)).mono ?_⟩
          rintro d l' ⟨rfl, rfl⟩
          refine ⟨rfl, fun _ _ => rfl, rfl, ?_⟩
          refine And.intro (And.intro ⟨rfl, rfl⟩ (And.intro ⟨rfl, rfl⟩ trivial)) ?_
          refine And.intro ?_ (And.intro ?_ trivial)
          focus
            refine And.intro (And.intro ⟨rfl, rfl⟩ (And.intro ⟨rfl, rfl⟩ trivial)) ?_
            refine And.intro ?_ trivial
            refine ⟨rfl, Nat.le_refl 2, (t38 ([] ++ numB k ++ numB e.seq) (by simp only [List.length_append, List.length_nil]; omega) e.rp he (r := 2) (sto := stT m) (Nat.le_refl 2)).mono ?_⟩
            rintro d l' ⟨rfl, rfl⟩
            refine ⟨rfl, fun _ _ => rfl, rfl, ?_⟩
            refine And.intro trivial ?_
            refine And.intro ?_ trivial
            refine And.intro trivial (And.intro rfl (And.intro hroom (And.intro (allLenB _) ?_)))
            refine And.intro trivial ?_
            refine And.intro ?_ trivial
            refine And.intro trivial ?_
          rotate_left
          focus
            refine ⟨rfl, Nat.le_refl 2, (t38 ([] ++ numB k ++ numB e.seq) (by simp only [List.length_append, List.length_nil]; omega) e.rp he (r := 2) (sto := stT m) (Nat.le_refl 2)).mono ?_⟩
            rintro d l' ⟨rfl, rfl⟩
            refine ⟨rfl, fun _ _ => rfl, rfl, ?_⟩
            refine And.intro trivial ?_
            refine And.intro ?_ trivial
            refine And.intro trivial ?_
            refine And.intro ?_ trivial
            refine And.intro trivial (And.intro rfl (And.intro hroom (And.intro (allLenB _) ?_)))
            refine And.intro trivial ?_
            refine And.intro ?_ trivial
            refine And.intro trivial ?_
      all_goals
        refine ⟨ks.length - (i + 1), by omega, i + 1, rfl, by omega, ?_⟩
        rw [htk, ← hw]
        have : (bs ++ numB (m.length : Int) ++ (rowsB (tabK m (ks.take i)) ++ (numB k ++ (numB e.seq ++ repB e.rp)))).map rowB = (bs ++ numB (m.length : Int) ++ rowsB (tabK m (ks.take i))).map rowB ++ ([] ++ numB k ++ numB e.seq ++ repB e.rp).map rowB := by simp only [List.map_append, List.append_assoc, List.nil_append, List.map_nil]
        rw [this]
        rfl
    · have h : ¬ ((i : Nat) : Int) < ((ks.map rowI).length : Int) := of_decide_eq_false h
      rw [List.length_map] at h
      refine And.intro ?_ rfl
      have ht : ks.take i = ks := List.take_of_length_le (by omega)
      rw [ht]
      simp only [List.append_assoc]
end Go.Lv
