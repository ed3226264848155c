/-
  Part 2 of the texts under the proof: an abstract run of loaded code on data, and what the functions do. No condition.
-/
import Derived.Test.YtbddalnnhelinaaRepairBetterE1
import Derived.Shelf.Sort.Plain
import Derived.Shelf.Slices.CompactI
import Derived.Shelf.Slices.In.SortNone
import Derived.Ground.NamesProg
import Derived.Ground.Names2Prog
import Derived.KernelRfl
set_option linter.all false
set_option maxRecDepth 100000
namespace Go.Proofs
open Go.Shelf
def Try.lays189_ren : Go.Shelf.Ren := ⟨fun | 189 => 38 | 125 => 59 | 257 => 58 | 128 => 85 | 129 => 86 | 294 => 76 | 295 => 77 | 296 => 78 | 297 => 79 | 298 => 80 | 299 => 81 | 216 => 82 | 300 => 83 | 301 => 84 | 328 => 105 | 329 => 106 | 330 => 107 | 331 => 108 | 332 => 109 | 215 => 110 | 343 => 116 | n => n, fun | 28 => 52 | 3 => 3 | 46 => 121 | 0 => 0 | 51 => 151 | 53 => 153 | 4 => 4 | 183 => 144 | 182 => 143 | 131 => 43 | 5 => 5 | 9 => 9 | 218 => 166 | 222 => 170 | 228 => 179 | 229 => 180 | n => n, fun | n => n⟩
theorem Try.lays189 : Go.Proofs.Lays.n189 Try.prog Try.lays189_ren := {
  mixed := by kernel_rfl
  f125 := Try.func59.trans (congrArg some (by kernel_rfl))
  f128 := Try.func85.trans (congrArg some (by kernel_rfl))
  f129 := Try.func86.trans (congrArg some (by kernel_rfl))
  f189 := Try.func38.trans (congrArg some (by kernel_rfl))
  f215 := Try.func110.trans (congrArg some (by kernel_rfl))
  f216 := Try.func82.trans (congrArg some (by kernel_rfl))
  f257 := Try.func58.trans (congrArg some (by kernel_rfl))
  f294 := Try.func76.trans (congrArg some (by kernel_rfl))
  f295 := Try.func77.trans (congrArg some (by kernel_rfl))
  f296 := Try.func78.trans (congrArg some (by kernel_rfl))
  f297 := Try.func79.trans (congrArg some (by kernel_rfl))
  f298 := Try.func80.trans (congrArg some (by kernel_rfl))
  f299 := Try.func81.trans (congrArg some (by kernel_rfl))
  f300 := Try.func83.trans (congrArg some (by kernel_rfl))
  f301 := Try.func84.trans (congrArg some (by kernel_rfl))
  f328 := Try.func105.trans (congrArg some (by kernel_rfl))
  f329 := Try.func106.trans (congrArg some (by kernel_rfl))
  f330 := Try.func107.trans (congrArg some (by kernel_rfl))
  f331 := Try.func108.trans (congrArg some (by kernel_rfl))
  f332 := Try.func109.trans (congrArg some (by kernel_rfl))
  f343 := Try.func116.trans (congrArg some (by kernel_rfl))
  t0 := Try.underlying0
  a0 := Try.isAgg0
  z0 := Try.sizeOf0
  v0 := Try.zeroValue0
  t3 := Try.underlying3
  a3 := Try.isAgg3
  z3 := Try.sizeOf3
  v3 := Try.zeroValue3
  t4 := Try.underlying4
  a4 := Try.isAgg4
  z4 := Try.sizeOf4
  v4 := Try.zeroValue4
  t5 := Try.underlying5
  a5 := Try.isAgg5
  z5 := Try.sizeOf5
  v5 := Try.zeroValue5
  t9 := Try.underlying9
  a9 := Try.isAgg9
  z9 := Try.sizeOf9
  v9 := Try.zeroValue9
  t28 := Try.underlying52
  a28 := Try.isAgg52
  z28 := Try.sizeOf52
  v28 := Try.zeroValue52
  t46 := Try.underlying121
  a46 := Try.isAgg121
  z46 := Try.sizeOf121
  v46 := Try.zeroValue121
  t51 := Try.underlying151
  a51 := Try.isAgg151
  z51 := Try.sizeOf151
  v51 := Try.zeroValue151
  t53 := Try.underlying153
  a53 := Try.isAgg153
  z53 := Try.sizeOf153
  v53 := Try.zeroValue153
  t131 := Try.underlying43
  a131 := Try.isAgg43
  z131 := Try.sizeOf43
  v131 := Try.zeroValue43
  t182 := Try.underlying143
  a182 := Try.isAgg143
  z182 := Try.sizeOf143
  v182 := Try.zeroValue143
  t183 := Try.underlying144
  a183 := Try.isAgg144
  z183 := Try.sizeOf144
  v183 := Try.zeroValue144
  t218 := Try.underlying166
  a218 := Try.isAgg166
  z218 := Try.sizeOf166
  v218 := Try.zeroValue166
  t222 := Try.underlying170
  a222 := Try.isAgg170
  z222 := Try.sizeOf170
  v222 := Try.zeroValue170
  t228 := Try.underlying179
  a228 := Try.isAgg179
  z228 := Try.sizeOf179
  v228 := Try.zeroValue179
  t229 := Try.underlying180
  a229 := Try.isAgg180
  z229 := Try.sizeOf180
  v229 := Try.zeroValue180 }
def Try.lays220_ren : Go.Shelf.Ren := ⟨fun | 20 => 39 | n => n, fun | 22 => 52 | 3 => 3 | 4 => 4 | 0 => 0 | n => n, fun | n => n⟩
theorem Try.lays220 : Go.Proofs.Lays2.n20 Try.prog Try.lays220_ren := {
  mixed := by kernel_rfl
  f20 := Try.func39.trans (congrArg some (by kernel_rfl))
  t0 := Try.underlying0
  a0 := Try.isAgg0
  z0 := Try.sizeOf0
  v0 := Try.zeroValue0
  t3 := Try.underlying3
  a3 := Try.isAgg3
  z3 := Try.sizeOf3
  v3 := Try.zeroValue3
  t4 := Try.underlying4
  a4 := Try.isAgg4
  z4 := Try.sizeOf4
  v4 := Try.zeroValue4
  t22 := Try.underlying52
  a22 := Try.isAgg52
  z22 := Try.sizeOf52
  v22 := Try.zeroValue52
  i3 := by kernel_rfl }
end Go.Proofs
namespace Go.Lv
open Go Go.Proofs Go.Sort

theorem sortC : TurnC Try.prog 38 sortI where
  fn := ⟨_, Try.func38, rfl, rfl⟩
  len := fun zs => (sortI_perm zs).length_eq
  nil := fun p cap w => Any.slices_Sort_int_none Try.lays189 p cap w
  some := fun blk off cap zs w hH hb hz => by
    have := Any.slices_Sort_int Try.lays189 blk off cap zs w hH hb hz
    rw [mergeSort_sortI] at this
    exact this
theorem compC : CompC Try.prog 39 where
  fn := ⟨_, Try.func39, rfl, rfl, by decide⟩
  nil := fun p cap w => Any.slices_Compact_int_empty Try.lays220 p cap w
  some := fun blk off cap zs w hH hz hc => Any.slices_Compact_int Try.lays220 blk off cap zs w hH hz hc
end Go.Lv

namespace Go.Lv
open Go.Proofs

theorem strict_ext : ∀ {l m : List Int}, l.Pairwise (· < ·) → m.Pairwise (· < ·) → (∀ x, x ∈ l ↔ x ∈ m) → l = m
  | [], [], _, _, _ => rfl
  | [], y :: m, _, _, h => absurd ((h y).2 (by simp)) (by simp)
  | x :: l, [], _, _, h => absurd ((h x).1 (by simp)) (by simp)
  | x :: l, y :: m, hl, hm, h => by
    rw [List.pairwise_cons] at hl hm
    have hxy : x = y := by
      rcases List.mem_cons.1 ((h x).1 (by simp)) with e | h1
      · exact e
      · rcases List.mem_cons.1 ((h y).2 (by simp)) with e | h2
        · exact e.symm
        · have := hm.1 x h1
          have := hl.1 y h2
          omega
    subst hxy
    rw [strict_ext hl.2 hm.2 fun z => ?_]
    constructor
    · intro hz
      rcases List.mem_cons.1 ((h z).1 (by simp [hz])) with e | h1
      · have := hl.1 z hz; omega
      · exact h1
    · intro hz
      rcases List.mem_cons.1 ((h z).2 (by simp [hz])) with e | h1
      · have := hm.1 z hz; omega
      · exact h1
theorem compact_upto {zs : List Int} (hs : zs.Pairwise (· ≤ ·)) : ∀ m, m ≤ zs.length → (Lib.compactUpTo zs.toArray m).Pairwise (· < ·) ∧ (∀ x, x ∈ Lib.compactUpTo zs.toArray m ↔ x ∈ zs.take m)
  | 0, _ => by simp [Lib.compactUpTo]
  | m + 1, hm => by
    obtain ⟨h1, h2⟩ := compact_upto hs m (by omega)
    rw [Lib.compactUpTo_succ]
    have hd : zs.toArray[m]! = zs[m] := by simp [getElem!_def, show m < zs.length by omega]
    have hle : ∀ x, x ∈ zs.take m → x ≤ zs[m] := fun x hx => by
      obtain ⟨j, hj, rfl⟩ := List.mem_iff_getElem.1 hx
      rw [List.length_take] at hj
      rw [List.getElem_take]
      exact List.pairwise_iff_getElem.1 hs j m (by omega) (by omega) (by omega)
    rw [List.take_succ_eq_append_getElem (by omega)]
    cases hk : Lib.keeps zs.toArray m with
    | true =>
      rw [if_pos rfl, hd]
      have hlt : ∀ x, x ∈ zs.take m → x < zs[m] := fun x hx => by
        have h3 := hle x hx
        rcases Int.lt_or_eq_of_le h3 with h | h
        · exact h
        · exfalso
          have h0 : 0 < m := by
            rcases Nat.eq_zero_or_pos m with e | e
            · subst e; simp at hx
            · exact e
          have hd1 : zs.toArray[m - 1]! = zs[m - 1] := by simp [getElem!_def, show m - 1 < zs.length by omega]
          have hne : zs[m] ≠ zs[m - 1] := by
            intro e
            rw [Lib.keeps_neg h0 (by rw [hd, hd1]; exact e)] at hk
            cases hk
          obtain ⟨j, hj, e⟩ := List.mem_iff_getElem.1 hx
          rw [List.length_take] at hj
          rw [List.getElem_take] at e
          have h5 : zs[m - 1] ≤ zs[m] := List.pairwise_iff_getElem.1 hs (m - 1) m (by omega) (by omega) (by omega)
          have h6 : zs[j] ≤ zs[m - 1] := by
            rcases Nat.lt_or_ge j (m - 1) with q | q
            · exact List.pairwise_iff_getElem.1 hs j (m - 1) (by omega) (by omega) q
            · have : j = m - 1 := by omega
              subst this
              exact Int.le_refl _
          omega
      refine ⟨List.pairwise_append.2 ⟨h1, by simp, fun x hx y hy => ?_⟩, fun x => by simp only [List.mem_append, h2, List.mem_singleton]⟩
      rw [List.mem_singleton.1 hy]
      exact hlt x ((h2 x).1 hx)
    | false =>
      rw [if_neg (by simp), List.append_nil]
      refine ⟨h1, fun x => ?_⟩
      rw [h2]
      have h0 : 0 < m ∧ zs[m] = zs[m - 1] := by
        refine Classical.byContradiction fun hn => ?_
        have : Lib.keeps zs.toArray m = true := by
          rcases Nat.eq_zero_or_pos m with e | e
          · subst e; exact Lib.keeps_lt_one _ 0 (by omega)
          · refine Lib.keeps_pos ?_
            have hd1 : zs.toArray[m - 1]! = zs[m - 1] := by simp [getElem!_def, show m - 1 < zs.length by omega]
            rw [hd, hd1]
            exact fun q => hn ⟨e, q⟩
        rw [this] at hk
        cases hk
      have hm1 : zs[m - 1] ∈ zs.take m := List.mem_iff_getElem.2 ⟨m - 1, by rw [List.length_take]; omega, by rw [List.getElem_take]⟩
      simp only [List.mem_append, List.mem_singleton]
      constructor
      · exact .inl
      · rintro (h | h)
        · exact h
        · rw [h, h0.2]; exact hm1
theorem compact_sorted {zs : List Int} (hs : zs.Pairwise (· ≤ ·)) : (Lib.compact zs).Pairwise (· < ·) ∧ (∀ x, x ∈ Lib.compact zs ↔ x ∈ zs) := by
  have := compact_upto hs zs.length (Nat.le_refl _)
  rw [List.take_length] at this
  exact this
noncomputable def allO (p : Pln) : List Int := (p.map fun r => r.st.map Stp.ord).flatten
noncomputable def ordP (p : Pln) : List Int := Lib.compact (sortI (allO p))
theorem ordP_strict (p : Pln) : (ordP p).Pairwise (· < ·) := (compact_sorted (sortI_sorted _)).1
theorem ordP_mem (p : Pln) (x : Int) : x ∈ ordP p ↔ x ∈ allO p := by
  unfold ordP
  rw [(compact_sorted (sortI_sorted _)).2, (sortI_perm _).mem_iff]
theorem allO_take {p : Pln} {i : Nat} (h : i < p.length) : allO (p.take (i + 1)) = allO (p.take i) ++ p[i].st.map Stp.ord := by
  unfold allO
  rw [List.take_succ_eq_append_getElem h, List.map_append, List.flatten_append]
  simp
theorem allO_le {p : Pln} (i : Nat) : (allO (p.take i)).length ≤ (allO p).length := by
  have : allO p = allO (p.take i) ++ allO (p.drop i) := by
    unfold allO
    rw [← List.flatten_append, ← List.map_append, List.take_append_drop]
  rw [this, List.length_append]
  omega
theorem intsOf_rows : ∀ l : List Int, intsOf (l.map rowI) = some l
  | [] => rfl
  | x :: l => by
    have ih := intsOf_rows l
    simp only [List.map_cons, intsOf, rowI, intOf] at ih ⊢
    rw [ih]
    rfl
noncomputable def sOi (p : Pln) (acc : List Int) (sz i : Nat) : DS := ⟨[(3, .list (.own sz) (acc.map rowI)), (8, encP p), (9, .int .i64 (p.length : Int)), (10, .int .i64 (i : Int)), (2, .list (.own 0) [])], [], [], mR 0⟩
noncomputable def sOj (p : Pln) (l : List Stp) (acc : List Int) (sz i j : Nat) : DS := ⟨[(3, .list (.own sz) (acc.map rowI)), (8, encP p), (9, .int .i64 (p.length : Int)), (10, .int .i64 (i : Int)), (15, .list .imm (l.map rowS)), (16, .int .i64 (l.length : Int)), (17, .int .i64 (j : Int)), (2, .list (.own 0) [])], [], [], mR 0⟩
noncomputable def ordR (p : Pln) (d : D) : Prop := ∃ sz, d = .list (.own sz) ((ordP p).map rowI)
set_option maxHeartbeats 8000000 in
theorem c_plan_Orders_0 (p : Pln) (hp : szP p) (htot : (allO p).length ≤ 4000000000000) : Tri Try.prog 22 0 [encP p] [] (fun d k => ordR p d ∧ k = []) := by
  refine Tri.walk2 (L := LT) (c := {n := 32, ko := [2, 3], xf := [21, 30]}) [(38,3,[]),(39,0,[0])] [0, 2, 3, 5, 7, 8, 9, 10, 11, 15, 16, 17, 18] hLT hmix Try.func22 rfl rfl ⟨rfl, rfl⟩ (by show 1 ≤ 32; decide) (by first | exact Nat.zero_le _ | exact Nat.le_refl _ | exact Nat.le_succ 1 | decide) ?_
  have hlen : ((p.map rowR).length : Int) = (p.length : Int) := by rw [List.length_map]
  show Ok _ _ _ _ _
  refine Ok.loopN hLT hmix [(38,3,[]),(39,0,[0])] [0, 2, 3, 5, 7, 8, 9, 10, 11, 15, 16, 17, 18] [3,8,9,10,2] [] (fun n t => ∃ (i sz : Nat), n = p.length - i ∧ i ≤ p.length ∧ ((sz = 0 ∧ allO (p.take i) = []) ∨ sz = 1) ∧ t = sOi p (allO (p.take i)) sz i) (n := p.length) ⟨0, 0, rfl, Nat.zero_le _, .inl ⟨rfl, rfl⟩, by unfold sOi; rw [← hlen]; rfl⟩ ?_
  rintro n t ⟨i, sz, rfl, hi, hsz, rfl⟩
  refine And.intro (fun h1 => ?_) (fun h1 => ?_)
  rotate_left
  · have h1 : ¬ ((i : Nat) : Int) < (p.length : Int) := of_decide_eq_false h1
    rw [List.take_of_length_le (by omega)] at hsz ⊢
    have fin : ∀ zs : List Int, Lib.compact zs = ordP p → ∀ sz, Tri Try.prog 39 0 [.list (.own sz) (zs.map rowI)] [] (fun d k => d = .list (.own sz) ((ordP p).map rowI) ∧ k = []) ∨ zs.length > 9223372036854775807 := fun zs hz sz => by
      by_cases hl : zs.length ≤ 9223372036854775807
      · have := compC_tri compC (intsOf_rows zs) hl (r := 0) (sto := []) (sz := sz) (Nat.le_refl 0)
        rw [hz] at this
        exact .inl this
      · exact .inr (by omega)
    have hsl : (sortI (allO p)).length ≤ 4000000000000 := by rw [(sortI_perm _).length_eq]; exact htot
    rcases hsz with ⟨rfl, he⟩ | rfl
    · have hz : Lib.compact ([] : List Int) = ordP p := by unfold ordP; rw [he]; rfl
      rw [he]
      refine OpOk.turn (zs := []) sortC rfl rfl rfl rfl (fun _ => ?_) (fun h => absurd rfl h)
      refine ⟨rfl, (by first | exact Nat.zero_le _ | exact Nat.le_refl _ | exact Nat.le_succ 1 | decide), (((fin [] hz 0).resolve_right (by simp))).mono ?_⟩
      rintro d l ⟨rfl, rfl⟩
      refine ⟨rfl, fun _ _ => rfl, rfl, ?_⟩
      exact And.intro ⟨0, rfl⟩ rfl
    · have cc := (fin (sortI (allO p)) rfl 1).resolve_right (by omega)
      refine OpOk.turn (zs := allO p) sortC rfl rfl rfl rfl (fun h => ?_) (fun h => ⟨⟨rfl, rfl⟩, rfl, by omega, ?_⟩)
      · rw [h] at cc ⊢
        refine ⟨rfl, (by first | exact Nat.zero_le _ | exact Nat.le_refl _ | exact Nat.le_succ 1 | decide), (cc).mono ?_⟩
        rintro d l ⟨rfl, rfl⟩
        refine ⟨rfl, fun _ _ => rfl, rfl, ?_⟩
        exact And.intro ⟨1, rfl⟩ rfl
      · refine ⟨rfl, (by first | exact Nat.zero_le _ | exact Nat.le_refl _ | exact Nat.le_succ 1 | decide), (cc).mono ?_⟩
        rintro d l ⟨rfl, rfl⟩
        refine ⟨rfl, fun _ _ => rfl, rfl, ?_⟩
        exact And.intro ⟨1, rfl⟩ rfl
  have h1 : ((i : Nat) : Int) < (p.length : Int) := of_decide_eq_true h1
  have hip : i < p.length := by omega
  have hw := wrap_succ (i := i) (n := p.length) (by omega) hp.len
  have hst := hp.st p[i] (List.getElem_mem _)
  have htk := allO_take hip
  have hle := allO_le (p := p) (i + 1)
  refine ⟨(p).map rowR, rowR ((p)[i]'(by omega)), rfl, by omega, row_at' rowR (p) (by omega) (by omega), rfl, of_decide_eq_true rfl, ?_⟩
  generalize p[i] = r at hst htk ⊢
  rw [htk] at hle
  generalize allO (p.take i) = acc at hsz htk hle ⊢
  have hls : ((r.st.map rowS).length : Int) = (r.st.length : Int) := by rw [List.length_map]
  show Ok _ _ _ _ _
  refine Ok.loopN hLT hmix [(38,3,[]),(39,0,[0])] [0, 2, 3, 5, 7, 8, 9, 10, 11, 15, 16, 17, 18] [3,8,9,10,15,16,17,2] [] (fun n t => ∃ (j sz : Nat), n = r.st.length - j ∧ j ≤ r.st.length ∧ ((sz = 0 ∧ acc ++ (r.st.take j).map Stp.ord = []) ∨ sz = 1) ∧ t = sOj p r.st (acc ++ (r.st.take j).map Stp.ord) sz i j) (n := r.st.length) ⟨0, sz, rfl, Nat.zero_le _, by rw [List.take_zero, List.map_nil, List.append_nil]; exact hsz, by rw [List.take_zero, List.map_nil, List.append_nil]; unfold sOj; rw [← hls]; rfl⟩ ?_
  rintro n t ⟨j, sz, rfl, hj, hsz, rfl⟩
  refine And.intro (fun g1 => ?_) (fun g1 => ?_)
  rotate_left
  · have g1 : ¬ ((j : Nat) : Int) < (r.st.length : Int) := of_decide_eq_false g1
    rw [List.take_of_length_le (by omega)] at hsz ⊢
    refine ⟨p.length - (i + 1), by omega, i + 1, sz, rfl, by omega, by rw [htk]; exact hsz, ?_⟩
    unfold sOi
    rw [htk, ← hw]
    rfl
  have g1 : ((j : Nat) : Int) < (r.st.length : Int) := of_decide_eq_true g1
  have hjr : j < r.st.length := by omega
  have hwj := wrap_succ (i := j) (n := r.st.length) (by omega) hst
  have hjk : acc ++ (r.st.take (j + 1)).map Stp.ord = acc ++ (r.st.take j).map Stp.ord ++ [r.st[j].ord] := by
    rw [List.take_succ_eq_append_getElem hjr, List.map_append, List.append_assoc]
    rfl
  have hcl : (acc ++ (r.st.take j).map Stp.ord).length + 1 ≤ 4000000000000 := by
    rw [List.length_append, List.length_map] at hle
    rw [List.length_append, List.length_map, List.length_take]
    omega
  refine ⟨(r.st).map rowS, rowS ((r.st)[j]'(by omega)), rfl, by omega, row_at' rowS (r.st) (by omega) (by omega), rfl, of_decide_eq_true rfl, ?_⟩
  generalize r.st[j] = x at hjk ⊢
  generalize acc ++ (r.st.take j).map Stp.ord = cs at hsz hjk hcl ⊢
  refine And.intro trivial (And.intro (show ((sz == 0 || sz == LT.size 3) && decide (0 < LT.size 3) && decide (0 < LT.bytes 3) && (LT.zero 3).isSome) = true by rcases hsz with ⟨rfl, _⟩ | rfl <;> rfl) (And.intro (show ((cs.map rowI).length + 1) * 8 ≤ 140737488355328 by rw [List.length_map]; omega) (And.intro rfl ?_)))
  refine ⟨r.st.length - (j + 1), by omega, j + 1, 1, rfl, by omega, .inr rfl, ?_⟩
  unfold sOj
  rw [hjk, ← hwj, List.map_append]
  rfl
theorem ordR_ok {p : Pln} {d : D} (h : ordR p d) : partsOK d = true ∧ nrB 0 d = true := by
  obtain ⟨sz, rfl⟩ := h
  exact ⟨rfl, nrBLL_I _⟩
end Go.Lv

namespace Go.Lv
open Go.Proofs

theorem bestG_max {m : Mp} {x : Srch} {B : Int} : ∀ {ps : List (Nat × Nat)} {o : Spt} {t : Int} {f : Bool}, t ≤ B → (bestG m x B ps o t f).2.1 ≤ B
  | [], _, _, _, h => h
  | (i, j) :: ps, o, t, f, h => by
    unfold bestG
    split
    · exact h
    · split
      · exact bestG_max (by omega)
      · exact bestG_max (by omega)
theorem lookG_max {m : Mp} {ds : List Drv} {os : List Ord} {o : Ord} {B : Int} : ∀ {p : Pln} {out : Spt} {t : Int} {f : Bool}, t ≤ B → (lookG m ds os o B p out t f).2.1 ≤ B
  | [], _, _, _, h => h
  | r :: p, out, t, f, h => by
    have hb : (bestX m (madeX m (drOf r.drv ds) os r.st o) r.srv.toNat (B - t)).2.1 ≤ B - t := bestG_max (by omega)
    unfold lookG
    generalize bestX m (madeX m (drOf r.drv ds) os r.st o) r.srv.toNat (B - t) = b at hb ⊢
    split
    · exact lookG_max h
    · split
      · exact lookG_max (by omega)
      · exact lookG_max (by omega)
theorem cheapR_max {m : Mp} {ds : List Drv} {os : List Ord} {p : Pln} {o : Ord} {B : Int} (h : 0 ≤ B) : (cheapR m ds os p o B).2.1 ≤ B := by
  unfold cheapR
  split
  · have := lookG_max (m := m) (ds := ds) (os := os) (o := o) (B := B) (p := p) (out := ⟨0, 0, 0, 0⟩) (t := 0) (f := false) h
    unfold lookR
    generalize lookG m ds os o B p ⟨0, 0, 0, 0⟩ 0 false = x at this ⊢
    obtain ⟨a, b, c⟩ := x
    cases c
    · exact this
    · exact this
  · exact h
theorem passG_max {m : Mp} {ds : List Drv} {os : List Ord} {B : Int} : ∀ {l : List Ord} {out : Pln} {t : Int} {ch : Bool}, t ≤ B → (passG m ds os B l out t ch).2.1 ≤ B
  | [], _, _, _, h => h
  | o :: l, out, t, ch, h => by
    unfold passG
    split
    · exact h
    · split
      · exact passG_max h
      · refine passG_max ?_
        rw [movedR_step]
        have := cheapR_max (m := m) (ds := ds) (os := othersO o.id os) (p := woP out [o.id]) (o := o) (B := B - t) (by omega)
        omega
theorem repG_max {m : Mp} {ds : List Drv} {os : List Ord} {B : Int} : ∀ {n : Nat} {out : Pln} {t k : Int} {ch : Bool}, t ≤ B → (repG m ds os B n out t k ch).2.1 ≤ B
  | 0, _, _, _, _, h => h
  | n + 1, out, t, k, ch, h => by
    unfold repG
    split
    · exact h
    · rename_i hc
      have ht : ¬ t ≥ B := fun q => hc (.inr q)
      have : (passR m ds os out (B - t)).2.1 ≤ B - t := passG_max (by omega)
      exact repG_max (by omega)
noncomputable def relL : Pln → Pln → Prop
  | [], [] => True
  | a :: p, b :: q => relR a b ∧ relL p q
  | _, _ => False
theorem relR.refl (a : Rte) : relR a a := ⟨rfl, rfl, rfl⟩
theorem relR.trans {a b c : Rte} (h : relR a b) (g : relR b c) : relR a c := ⟨h.drv.trans g.drv, h.srv.trans g.srv, h.done.trans (by rw [h.srv]; exact g.done)⟩
theorem relL.refl : ∀ p : Pln, relL p p
  | [] => trivial
  | a :: p => ⟨.refl a, relL.refl p⟩
theorem relL.trans : ∀ {p q r : Pln}, relL p q → relL q r → relL p r
  | [], [], [], _, _ => trivial
  | a :: p, b :: q, c :: r, h, g => ⟨h.1.trans g.1, relL.trans h.2 g.2⟩
  | [], _ :: _, _, h, _ => h.elim
  | _ :: _, [], _, h, _ => h.elim
  | [], [], _ :: _, _, g => g.elim
  | _ :: _, _ :: _, [], _, g => g.elim
theorem relL.app {r r2 : Rte} (h : relR r r2) {b : Pln} : ∀ {a : Pln}, relL (a ++ r :: b) (a ++ r2 :: b)
  | [] => ⟨h, relL.refl b⟩
  | x :: a => ⟨.refl x, relL.app h⟩
theorem relL.map {f : Rte → Rte} : ∀ {p : Pln}, (∀ r, r ∈ p → relR r (f r)) → relL p (p.map f)
  | [], _ => trivial
  | x :: p, h => ⟨h x (by simp), relL.map (fun r hr => h r (by simp [hr]))⟩
theorem relL.P : ∀ {p q : Pln}, relL p q → relP p q
  | [], [], _ => ⟨rfl, fun i h => by cases h⟩
  | a :: p, b :: q, h => by
    have g := relL.P h.2
    refine ⟨by simp [g.len], fun i h1 h2 => ?_⟩
    cases i with
    | zero => exact h.1
    | succ i => exact g.at_ i (by simpa using h1) (by simpa using h2)
  | [], _ :: _, h => h.elim
  | _ :: _, [], h => h.elim
theorem filter_take {f : Stp → Bool} : ∀ {l : List Stp} {n : Nat}, (∀ s, s ∈ l.take n → f s = true) → (l.filter f).take n = l.take n
  | [], n, _ => by simp
  | s :: l, 0, _ => by simp
  | s :: l, n + 1, h => by
    have hs : f s = true := h s (by simp)
    rw [List.filter_cons_of_pos hs, List.take_succ_cons, List.take_succ_cons, filter_take (fun x hx => h x (by simp [hx]))]
theorem begR_take {srv o : Int} : ∀ {l : List Stp} {j : Nat}, begR srv o j l = false → ∀ s, s ∈ l.take (srv.toNat - j) → s.ord ≠ o
  | [], j, _, s, hs => by simp at hs
  | x :: l, j, h, s, hs => by
    unfold begR at h
    rw [Bool.or_eq_false_iff] at h
    cases hk : srv.toNat - j with
    | zero => rw [hk] at hs; simp at hs
    | succ k =>
      rw [hk, List.take_succ_cons] at hs
      rcases List.mem_cons.1 hs with e | hs
      · subst e
        intro q
        have := h.1
        rw [decide_eq_true (show (j : Int) < srv by omega), decide_eq_true q] at this
        cases this
      · exact begR_take h.2 s (by rw [show srv.toNat - (j + 1) = k by omega]; exact hs)
theorem begP_mem {o : Int} : ∀ {p : Pln}, begP o p = false → ∀ r, r ∈ p → begR r.srv o 0 r.st = false
  | [], _, r, hr => by cases hr
  | x :: p, h, r, hr => by
    unfold begP at h
    rw [Bool.or_eq_false_iff] at h
    rcases List.mem_cons.1 hr with e | hr
    · rw [e]; exact h.1
    · exact begP_mem h.2 r hr
theorem wo_rel (p : Pln) (o : Int) : relL p (woP p [o]) := by
  refine relL.map (fun r hr => ⟨rfl, rfl, ?_⟩)
  show r.st.take r.srv.toNat = (r.st.filter fun s => !goneB p [o] s.ord).take r.srv.toNat
  rw [filter_take]
  intro s hs
  unfold goneB
  by_cases hso : s.ord = o
  · subst hso
    cases hb : begP s.ord p with
    | true => simp
    | false => exact absurd rfl (begR_take (j := 0) (begP_mem hb r hr) s (by simpa using hs))
  · simp [hso]
theorem insS_take {l : List Stp} {o : Int} {i j n : Nat} (h : n ≤ i) (hi : i ≤ l.length) : (insS l o i j).take n = l.take n := by
  unfold insS
  rw [List.take_append_of_le_length (by rw [List.length_take]; omega), List.take_take, Nat.min_eq_left h]
theorem Mvd.rel {m : Mp} {ds : List Drv} {os : List Ord} {p q : Pln} {o : Ord} {a : Pln} {r : Rte} {b : Pln} {i j : Nat} {d : Drv} (h : Mvd m ds os p q o a r b i j d) : relL p q := by
  refine (wo_rel p o.id).trans ?_
  have hok : okIn r ⟨d.id, (i : Nat), (j : Nat), priceW m (madeX m d (othersO o.id os) r.st o) i j⟩ := h.put.ok
  have h1 : r.srv ≤ (i : Int) := hok.2.1
  have hij := h.ij
  have hjn := h.jn
  rw [h.put.p, h.put.q]
  have hrr : relR r (inR r o.id ⟨d.id, (i : Nat), (j : Nat), priceW m (madeX m d (othersO o.id os) r.st o) i j⟩) := by
    refine ⟨rfl, rfl, ?_⟩
    show r.st.take r.srv.toNat = (insS r.st o.id (i : Int).toNat (j : Int).toNat).take r.srv.toNat
    rw [insS_take (by omega) (by omega)]
  exact relL.app hrr
theorem allO_stp (p : Pln) : allO p = (stops p).map Stp.ord := by
  unfold allO stops
  rw [List.map_flatten, List.map_map]
  rfl
theorem mem_allO {p : Pln} {x : Int} : x ∈ allO p ↔ ∃ r, r ∈ p ∧ ∃ s, s ∈ r.st ∧ s.ord = x := by
  unfold allO
  constructor
  · intro h
    obtain ⟨l, hl, hx⟩ := List.mem_flatten.1 h
    obtain ⟨r, hr, rfl⟩ := List.mem_map.1 hl
    obtain ⟨s, hs, e⟩ := List.mem_map.1 hx
    exact ⟨r, hr, s, hs, e⟩
  · rintro ⟨r, hr, s, hs, e⟩
    exact List.mem_flatten.2 ⟨_, List.mem_map.2 ⟨r, hr, rfl⟩, List.mem_map.2 ⟨s, hs, e⟩⟩
theorem movB_mem {p : Pln} {o : Int} (h : movB p o = true) : o ∈ allO p := by
  refine Classical.byContradiction fun hn => ?_
  have : findP o p = none := by
    have := findP_skip (o := o) (a := p) (p := []) (fun r hr s hs e => hn (mem_allO.2 ⟨r, hr, s, hs, e⟩))
    rw [List.append_nil] at this
    exact this
  unfold movB at h
  rw [this] at h
  cases h
theorem Mvd.ords {m : Mp} {ds : List Drv} {os : List Ord} {p q : Pln} {o : Ord} {a : Pln} {r : Rte} {b : Pln} {i j : Nat} {d : Drv} (h : Mvd m ds os p q o a r b i j d) (ho : o.id ∈ allO p) (x : Int) : x ∈ allO q ↔ x ∈ allO p := by
  have h1 : x ∈ allO q ↔ x = o.id ∨ x ∈ allO (woP p [o.id]) := by
    rw [allO_stp, allO_stp, (h.put.stops.map Stp.ord).mem_iff]
    simp
  rw [h1]
  constructor
  · rintro (e | hx)
    · rw [e]; exact ho
    · obtain ⟨r', hr', s, hs, e⟩ := mem_allO.1 hx
      obtain ⟨r0, hr0, rfl⟩ := List.mem_map.1 hr'
      exact mem_allO.2 ⟨r0, hr0, s, (List.mem_filter.1 hs).1, e⟩
  · intro hx
    by_cases e : x = o.id
    · exact .inl e
    · obtain ⟨r0, hr0, s, hs, e2⟩ := mem_allO.1 hx
      refine .inr (mem_allO.2 ⟨woR p [o.id] r0, List.mem_map.2 ⟨r0, hr0, rfl⟩, s, List.mem_filter.2 ⟨hs, ?_⟩, e2⟩)
      unfold goneB
      rw [e2]
      simp [e]
theorem wayG_run {m : Mp} {os : List Ord} : ∀ {st : List Stp} {s : Sta}, wayG m os s.at_ s.way st = (runS m s (legsOf os st)).way
  | [], _ => rfl
  | x :: r, s => by
    have e : runS m s (legsOf os (x :: r)) = runS m (stepS m s (legO (ordOf os x) x.drop)) (legsOf os r) := rfl
    rw [e, ← wayG_run]
    show wayG m os (sitOf os x).place (s.way + timeM m s.at_ (sitOf os x).place) r = wayG m os (legO (ordOf os x) x.drop).site.place (s.way + timeM m s.at_ (legO (ordOf os x) x.drop).site.place) r
    rw [show (legO (ordOf os x) x.drop).site = sitOf os x from legO_site _ _]
theorem wayP_run {m : Mp} {d : Drv} {os : List Ord} {st : List Stp} : wayP m d os st = (runS m (sta0 d) (legsOf os st)).way := wayG_run (s := sta0 d)
theorem totG_sum {m : Mp} {ds : List Drv} {os : List Ord} : ∀ {p : Pln} {n : Int}, totG m ds os n p = n + (p.map fun r => wayP m (drOf r.drv ds) os r.st).sum
  | [], n => by show n = n + 0; omega
  | r :: p, n => by
    unfold totG
    rw [totG_sum, List.map_cons, List.sum_cons]
    omega
theorem totP_sum {m : Mp} {ds : List Drv} {os : List Ord} {p : Pln} : totP m ds os p = (p.map fun r => wayP m (drOf r.drv ds) os r.st).sum := by
  unfold totP
  rw [totG_sum]
  omega
theorem Mvd.tot {m : Mp} {ds : List Drv} {os : List Ord} {p q : Pln} {o : Ord} {a : Pln} {r : Rte} {b : Pln} {i j : Nat} {d : Drv} (h : Mvd m ds os p q o a r b i j d) (hv : (makeR m ds os p).2.2 = 0) (ho : o ∈ os) : totP m ds os q < totP m ds os p := by
  have htg := makeR_tog hv
  have hf := findO_self ho htg.2.1.2.2
  have hno := findP_none h.none
  have hrm : r ∈ woP p [o.id] := by rw [h.put.p]; simp
  have hl := legs_others (os := os) (hno r hrm)
  obtain ⟨e, h1, _, _, _, h2⟩ := makeR_dr h.make r hrm
  have : e = d := by rw [h.dr] at h1; exact (Option.some.inj h1).symm
  subst this
  have hw := (timed_ok.1 ((timed_others (os := os) (hno r hrm)).1 h2)).2.1
  have hes := endS_walk (o := o) h.ij h.jn hl hw
  have hpr := h.price
  unfold priceB at hpr
  rw [Bool.and_eq_true] at hpr
  have hpr := hpr.1
  rw [hes, ← legs_ins hf] at hpr
  have hcost : priceW m (madeX m e (othersO o.id os) r.st o) i j = wayP m e os (insS r.st o.id i j) - wayP m e os r.st := by
    unfold priceW
    rw [hes, ← legs_ins hf, walkS_run hpr, wayP_run, wayP_run]
    congr 1
    show ((preOf m e (legsOf (othersO o.id os) r.st) r.st.length).getD (legsOf (othersO o.id os) r.st).length ⟨0, 0, 0, 0⟩).way = _
    have hlen : (legsOf os r.st).length = r.st.length := by unfold legsOf; rw [List.length_map]
    rw [hl, hlen]
    unfold preOf
    rw [List.getD_eq_getElem?_getD, List.getElem?_map, List.getElem?_range (by omega)]
    show (runS m (sta0 e) ((legsOf os r.st).take r.st.length)).way = _
    rw [List.take_of_length_le (by omega)]
  have hls := h.less
  rw [hcost] at hls
  have hrest : totP m ds (othersO o.id os) (woP p [o.id]) = totP m ds os (woP p [o.id]) := by
    rw [totP_sum, totP_sum]
    congr 1
    exact List.map_congr_left fun x hx => by rw [wayP_run, wayP_run, legs_others (hno x hx)]
  rw [hrest, h.put.p] at hls
  rw [h.put.q]
  rw [totP_sum] at hls ⊢
  have hdo : drOf r.drv ds = e := (drOf_some h.dr).1
  simp only [List.map_append, List.map_cons, List.sum_append, List.sum_cons] at hls ⊢
  rw [hdo] at hls
  have hin : wayP m (drOf (inR r o.id ⟨e.id, (i : Nat), (j : Nat), priceW m (madeX m e (othersO o.id os) r.st o) i j⟩).drv ds) os (inR r o.id ⟨e.id, (i : Nat), (j : Nat), priceW m (madeX m e (othersO o.id os) r.st o) i j⟩).st = wayP m e os (insS r.st o.id i j) := by
    show wayP m (drOf r.drv ds) os (insS r.st o.id (i : Int).toNat (j : Int).toNat) = _
    rw [hdo]
    rfl
  rw [hin]
  omega
structure Bet (m : Mp) (ds : List Drv) (os : List Ord) (p q : Pln) : Prop where
  vd : (makeR m ds os q).2.2 = 0
  rel : relL p q
  ords : ∀ x, x ∈ allO q ↔ x ∈ allO p
  tot : q = p ∨ totP m ds os q < totP m ds os p
theorem Bet.refl {m : Mp} {ds : List Drv} {os : List Ord} {p : Pln} (h : (makeR m ds os p).2.2 = 0) : Bet m ds os p p := ⟨h, relL.refl p, fun _ => Iff.rfl, .inl rfl⟩
theorem Bet.trans {m : Mp} {ds : List Drv} {os : List Ord} {p q r : Pln} (h : Bet m ds os p q) (g : Bet m ds os q r) : Bet m ds os p r := by
  refine ⟨g.vd, h.rel.trans g.rel, fun x => (g.ords x).trans (h.ords x), ?_⟩
  rcases g.tot with e | hg
  · rw [e]; exact h.tot
  · rcases h.tot with e | hh
    · rw [e] at hg; exact .inr hg
    · exact .inr (by omega)
theorem movedR_bet {m : Mp} {ds : List Drv} {os : List Ord} {p : Pln} {o : Ord} {B : Int} (hv : (makeR m ds os p).2.2 = 0) (ho : o ∈ os) (hm : movB p o.id = true) : Bet m ds os p (movedR m ds os p o B).1 := by
  cases hc : (movedR m ds os p o B).2.2 with
  | false => rw [movedR_same hc]; exact .refl hv
  | true =>
    obtain ⟨a, r, b, i, j, d, h⟩ := movedR_mvd hc
    exact ⟨h.vd hv ho, h.rel, h.ords (movB_mem hm), .inr (h.tot hv ho)⟩
theorem passG_bet {m : Mp} {ds : List Drv} {os : List Ord} {B : Int} : ∀ {l : List Ord} {out : Pln} {t : Int} {ch : Bool}, (∀ o, o ∈ l → o ∈ os) → (makeR m ds os out).2.2 = 0 → Bet m ds os out (passG m ds os B l out t ch).1
  | [], _, _, _, _, h => .refl h
  | o :: l, out, t, ch, hl, h => by
    unfold passG
    split
    · exact .refl h
    · split
      · exact passG_bet (fun x hx => hl x (by simp [hx])) h
      · rename_i hm
        have hb := movedR_bet (B := B - t) h (hl o (by simp)) (by simpa using hm)
        exact hb.trans (passG_bet (fun x hx => hl x (by simp [hx])) hb.vd)
theorem passR_bet {m : Mp} {ds : List Drv} {os : List Ord} {p : Pln} {B : Int} (h : (makeR m ds os p).2.2 = 0) : Bet m ds os p (passR m ds os p B).1 := passG_bet (fun o ho => (sortB_perm os).mem_iff.1 ho) h
theorem repG_bet {m : Mp} {ds : List Drv} {os : List Ord} {B : Int} : ∀ {n : Nat} {out : Pln} {t k : Int} {ch : Bool}, (makeR m ds os out).2.2 = 0 → Bet m ds os out (repG m ds os B n out t k ch).1
  | 0, _, _, _, _, h => .refl h
  | n + 1, out, t, k, ch, h => by
    unfold repG
    split
    · exact .refl h
    · have hb := passR_bet (B := B - t) h
      exact hb.trans (repG_bet hb.vd)
theorem repG_ge {m : Mp} {ds : List Drv} {os : List Ord} {B : Int} (hB : B ≤ 100000) : ∀ {n : Nat} {out : Pln} {t k : Int} {ch : Bool}, (makeR m ds os out).2.2 = 0 → 0 ≤ t → 0 ≤ (repG m ds os B n out t k ch).2.1
  | 0, _, _, _, _, _, h => h
  | n + 1, out, t, k, ch, hv, h => by
    unfold repG
    split
    · exact h
    · have := (passR_found (m := m) (ds := ds) (os := os) (B := B - t) (by omega) (smP_right (makeR_tog hv).2.2.1)).1.1
      exact repG_ge hB (passR_vd hv) (by omega)
theorem repR_all {m : Mp} {ds : List Drv} {os : List Ord} {p : Pln} {B : Int} (h : askR m ds os p B) : Bet m ds os p (repR m ds os p B).1 ∧ 0 ≤ (repR m ds os p B).2.1 ∧ (repR m ds os p B).2.1 ≤ B :=
  ⟨repG_bet h.1, repG_ge h.2.2 h.1 (Int.le_refl 0), repG_max h.2.1⟩
theorem PassR_all {m : Mp} {ds : List Drv} {os : List Ord} {p : Pln} {B : Int} (h : askR m ds os p B) : Bet m ds os p (passR m ds os p B).1 ∧ 0 ≤ (passR m ds os p B).2.1 ∧ (passR m ds os p B).2.1 ≤ B :=
  ⟨passR_bet h.1, (passR_found h.2.2 (smP_right (makeR_tog h.1).2.2.1)).1.1, passG_max h.2.1⟩
theorem ordP_same {p q : Pln} (h : ∀ x, x ∈ allO q ↔ x ∈ allO p) : ordP q = ordP p := strict_ext (ordP_strict q) (ordP_strict p) (fun x => by rw [ordP_mem, ordP_mem]; exact h x)
end Go.Lv

namespace Go.Lv
open Go.Proofs

theorem c_repair_Pass_nil (ds : List Drv) (os : List Ord) (p : Pln) (B : Int) {r : Nat} {sto : List Ob} (hr : r ≤ sto.length) : Tri Try.prog 10 r [.nil, encDs ds, encOs os, encP p, .int .i64 B] sto (fun x k => isPs ([], 0, 1) x ∧ k = sto) :=
  (c_repair_Pass_nil_0 ds os p B).pureR rfl (nrBL_Dr (nrBL_O (nrBL_P rfl))) (fun d h => isPs_ok h) hr
theorem c_plan_Orders (p : Pln) (hp : szP p) (htot : (allO p).length ≤ 4000000000000) {r : Nat} {sto : List Ob} (hr : r ≤ sto.length) : Tri Try.prog 22 r [encP p] sto (fun d k => ordR p d ∧ k = sto) :=
  (c_plan_Orders_0 p hp htot).pureR rfl (nrBL_P rfl) (fun d h => ordR_ok h) hr
theorem sm_sz {p : Pln} (h : smP p) : szP p := ⟨by have := h.len; omega, fun r hr => by have := h.st r hr; omega⟩
theorem allO_sm : ∀ {p : Pln}, (∀ r, r ∈ p → r.st.length ≤ 80) → (allO p).length ≤ 80 * p.length
  | [], _ => by simp [allO]
  | r :: p, h => by
    have e : allO (r :: p) = r.st.map Stp.ord ++ allO p := by unfold allO; rw [List.map_cons, List.flatten_cons]
    have h1 := h r (by simp)
    have h2 := allO_sm (p := p) (fun x hx => h x (by simp [hx]))
    rw [e, List.length_append, List.length_map, List.length_cons]
    omega
theorem ordP_len (p : Pln) : (ordP p).length ≤ (allO p).length := by
  unfold ordP Lib.compact Lib.compactUpTo
  rw [List.length_map]
  refine Nat.le_trans (List.length_filter_le _ _) ?_
  rw [List.length_range, (sortI_perm _).length_eq]
  exact Nat.le_refl _
set_option maxHeartbeats 32000000 in
theorem l_Better (k : Int) (l : List Int) (hl : l.length ≤ 1000000000000000) (ds : List Drv) (os : List Ord) (p : Pln) (hp : szQ p) (B : Int) (al : Bool) : Tri Try.prog 7 0 [.agg (encW k l ds os p), .int .i64 B, .bool al] [] (fun d _ => d = .bool true) := by
  have hpl : p.length ≤ 1000000000000000 := by have := hp.len; omega
  refine Tri.walk2 (L := LT) (c := {n := 175, ko := [6], xf := [36, 50, 113]}) [] [0, 1, 2, 3, 6, 7, 9, 10, 11, 12, 13, 14, 15, 16, 18, 31, 49, 76, 158] hLT hmix Try.func7 rfl rfl ⟨rfl, rfl⟩ (by show 3 ≤ 175; decide) (by first | exact Nat.zero_le _ | exact Nat.le_refl _ | exact Nat.le_succ 1 | decide) ?_
  refine ⟨rfl, Nat.le_refl _, (c_draykeep_Maps_0 k l hl ds os p).mono ?_⟩
  rintro d k2 (⟨rfl, rfl⟩ | ⟨hm, rfl, rfl⟩)
  · refine ⟨rfl, fun k hk => absurd hk (Nat.not_lt_zero k), rfl, ?_⟩
    repeat (first | refine And.intro (fun _ => ?_) (fun h => Bool.noConfusion h) | refine And.intro (fun h => Bool.noConfusion h) (fun _ => ?_))
    refine ⟨rfl, Nat.zero_le _, (c_draykeep_Small k l ds os p hpl (r := 0) (sto := []) (Nat.le_refl 0)).mono ?_⟩
    rintro d k2 ⟨⟨b, rfl⟩, rfl⟩
    refine ⟨rfl, fun _ _ => rfl, rfl, ?_⟩
    cases b with
    | false =>
      repeat (first | refine And.intro (fun _ => ?_) (fun h => Bool.noConfusion h) | refine And.intro (fun h => Bool.noConfusion h) (fun _ => ?_))
      refine ⟨rfl, (by first | exact Nat.zero_le _ | exact Nat.le_refl _ | exact Nat.le_succ 1 | decide), (tRunsR (r := 0) (sto := []) (Nat.le_refl 0)).mono ?_⟩
      rintro d l ⟨rfl, rfl⟩
      refine ⟨rfl, fun _ _ => rfl, rfl, ?_⟩
      repeat (first | refine And.intro (fun _ => ?_) (fun h => Bool.noConfusion h) | refine And.intro (fun h => Bool.noConfusion h) (fun _ => ?_))
      exact rfl
    | true =>
    repeat (first | refine And.intro (fun _ => ?_) (fun h => Bool.noConfusion h) | refine And.intro (fun h => Bool.noConfusion h) (fun _ => ?_))
    refine ⟨rfl, Nat.zero_le _, (c_repair_Pass_nil ds os p B (r := 0) (sto := []) (Nat.le_refl 0)).mono ?_⟩
    rintro x l2 ⟨⟨q, hq, rfl⟩, rfl⟩
    rcases hq with rfl | ⟨sz, rfl⟩
    all_goals
      refine ⟨rfl, fun _ _ => rfl, rfl, ?_⟩
      cases al with
      | false =>
        repeat (first | refine And.intro (fun _ => ?_) (fun h => Bool.noConfusion h) | refine And.intro (fun h => Bool.noConfusion h) (fun _ => ?_))
        refine ⟨rfl, (by first | exact Nat.zero_le _ | exact Nat.le_refl _ | exact Nat.le_succ 1 | decide), (c_repair_Total_nil ds os p (r := 0) (sto := []) (Nat.le_refl 0)).mono ?_⟩
        rintro d l ⟨rfl, rfl⟩
        refine ⟨rfl, fun _ _ => rfl, rfl, ?_⟩
        repeat (first | refine And.intro (fun _ => ?_) (fun h => Bool.noConfusion h) | refine And.intro (fun h => Bool.noConfusion h) (fun _ => ?_))
        refine ⟨rfl, (by first | exact Nat.zero_le _ | exact Nat.le_refl _ | exact Nat.le_succ 1 | decide), (tRunsR (r := 0) (sto := []) (Nat.le_refl 0)).mono ?_⟩
        rintro d l ⟨rfl, rfl⟩
        refine ⟨rfl, fun _ _ => rfl, rfl, ?_⟩
        repeat (first | refine And.intro (fun _ => ?_) (fun h => Bool.noConfusion h) | refine And.intro (fun h => Bool.noConfusion h) (fun _ => ?_))
        exact rfl
      | true =>
        repeat (first | refine And.intro (fun _ => ?_) (fun h => Bool.noConfusion h) | refine And.intro (fun h => Bool.noConfusion h) (fun _ => ?_))
        refine ⟨rfl, Nat.zero_le _, (c_repair_Repair_nil ds os p B (r := 0) (sto := []) (Nat.le_refl 0)).mono ?_⟩
        rintro x l2 ⟨⟨q2, hq2, rfl⟩, rfl⟩
        rcases hq2 with rfl | ⟨sz2, rfl⟩
        all_goals
          refine ⟨rfl, fun _ _ => rfl, rfl, ?_⟩
          refine ⟨rfl, (by first | exact Nat.zero_le _ | exact Nat.le_refl _ | exact Nat.le_succ 1 | decide), (c_repair_Total_nil ds os p (r := 0) (sto := []) (Nat.le_refl 0)).mono ?_⟩
          rintro d l ⟨rfl, rfl⟩
          refine ⟨rfl, fun _ _ => rfl, rfl, ?_⟩
          repeat (first | refine And.intro (fun _ => ?_) (fun h => Bool.noConfusion h) | refine And.intro (fun h => Bool.noConfusion h) (fun _ => ?_))
          refine ⟨rfl, (by first | exact Nat.zero_le _ | exact Nat.le_refl _ | exact Nat.le_succ 1 | decide), (tRunsR (r := 0) (sto := []) (Nat.le_refl 0)).mono ?_⟩
          rintro d l ⟨rfl, rfl⟩
          refine ⟨rfl, fun _ _ => rfl, rfl, ?_⟩
          repeat (first | refine And.intro (fun _ => ?_) (fun h => Bool.noConfusion h) | refine And.intro (fun h => Bool.noConfusion h) (fun _ => ?_))
          exact rfl
  refine ⟨rfl, fun k hk => absurd hk (Nat.not_lt_zero k), rfl, ?_⟩
  repeat (first | refine And.intro (fun _ => ?_) (fun h => Bool.noConfusion h) | refine And.intro (fun h => Bool.noConfusion h) (fun _ => ?_))
  refine ⟨rfl, Nat.zero_le _, (c_draykeep_Small k l ds os p hpl (r := 2) (sto := [mbox ⟨k, l⟩, mbox ⟨k, l⟩]) (Nat.le_refl 2)).mono ?_⟩
  rintro d k2 ⟨⟨b, rfl⟩, rfl⟩
  refine ⟨rfl, fun _ _ => rfl, rfl, ?_⟩
  cases b with
  | false =>
    repeat (first | refine And.intro (fun _ => ?_) (fun h => Bool.noConfusion h) | refine And.intro (fun h => Bool.noConfusion h) (fun _ => ?_))
    refine ⟨rfl, (by first | exact Nat.zero_le _ | exact Nat.le_refl _ | exact Nat.le_succ 1 | decide), (tRunsR (r := 2) (sto := [mbox ⟨k, l⟩, mbox ⟨k, l⟩]) (Nat.le_refl 2)).mono ?_⟩
    rintro d l ⟨rfl, rfl⟩
    refine ⟨rfl, fun _ _ => rfl, rfl, ?_⟩
    repeat (first | refine And.intro (fun _ => ?_) (fun h => Bool.noConfusion h) | refine And.intro (fun h => Bool.noConfusion h) (fun _ => ?_))
    exact rfl
  | true =>
  repeat (first | refine And.intro (fun _ => ?_) (fun h => Bool.noConfusion h) | refine And.intro (fun h => Bool.noConfusion h) (fun _ => ?_))
  have hT := fun p => c_repair_Total ⟨k, l⟩ hm ds os p (r := 2) (b := 0) (sto := [mbox ⟨k, l⟩, mbox ⟨k, l⟩]) (Nat.le_refl 2) rfl (by decide)
  have hM := fun p => c_cert_Make ⟨k, l⟩ hm ds os p (r := 2) (b := 0) (sto := [mbox ⟨k, l⟩, mbox ⟨k, l⟩]) (Nat.le_refl 2) rfl (by decide)
  have hR := c_repair_Repair ⟨k, l⟩ hm ds os p B (r := 2) (b := 0) (sto := [mbox ⟨k, l⟩, mbox ⟨k, l⟩]) (Nat.le_refl 2) rfl (by decide)
  have hP := c_repair_Pass ⟨k, l⟩ hm ds os p B (r := 2) (b := 0) (sto := [mbox ⟨k, l⟩, mbox ⟨k, l⟩]) (Nat.le_refl 2) rfl (by decide)
  unfold totalD at hT
  by_cases ha : askR ⟨k, l⟩ ds os p B
  rotate_left
  · have hP2 : PassR ⟨k, l⟩ ds os p B = ([], 0, 1) := if_neg ha
    rw [hP2] at hP
    have hR2 := hR.mono (R' := fun x k2 => isRp ([], 0, 0) 1 x ∧ k2 = [mbox ⟨k, l⟩, mbox ⟨k, l⟩]) (fun d k2 h => by
      rcases h with ⟨⟨h, _⟩ | ⟨_, h⟩, h2⟩
      · exact absurd h ha
      · exact ⟨h, h2⟩)
    have hTp := hT p
    cases hmk : decide ((makeR ⟨k, l⟩ ds os p).2.2 = 0) with
    | false =>
      rw [if_neg (of_decide_eq_false hmk)] at hTp
      refine ⟨rfl, Nat.zero_le _, hP.mono ?_⟩
      rintro x l2 ⟨⟨q, hq, rfl⟩, rfl⟩
      rcases hq with rfl | ⟨sz, rfl⟩
      all_goals
        refine ⟨rfl, fun _ _ => rfl, rfl, ?_⟩
        cases al with
        | false =>
          repeat (first | refine And.intro (fun _ => ?_) (fun h => Bool.noConfusion h) | refine And.intro (fun h => Bool.noConfusion h) (fun _ => ?_))
          refine ⟨rfl, (by first | exact Nat.zero_le _ | exact Nat.le_refl _ | exact Nat.le_succ 1 | decide), (hTp).mono ?_⟩
          rintro d l ⟨rfl, rfl⟩
          refine ⟨rfl, fun _ _ => rfl, rfl, ?_⟩
          repeat (first | refine And.intro (fun _ => ?_) (fun h => Bool.noConfusion h) | refine And.intro (fun h => Bool.noConfusion h) (fun _ => ?_))
          refine ⟨rfl, (by first | exact Nat.zero_le _ | exact Nat.le_refl _ | exact Nat.le_succ 1 | decide), (tRunsR (r := 2) (sto := [mbox ⟨k, l⟩, mbox ⟨k, l⟩]) (Nat.le_refl 2)).mono ?_⟩
          rintro d l ⟨rfl, rfl⟩
          refine ⟨rfl, fun _ _ => rfl, rfl, ?_⟩
          repeat (first | refine And.intro (fun _ => ?_) (fun h => Bool.noConfusion h) | refine And.intro (fun h => Bool.noConfusion h) (fun _ => ?_))
          exact rfl
        | true =>
          repeat (first | refine And.intro (fun _ => ?_) (fun h => Bool.noConfusion h) | refine And.intro (fun h => Bool.noConfusion h) (fun _ => ?_))
          refine ⟨rfl, Nat.zero_le _, hR2.mono ?_⟩
          rintro x l2 ⟨⟨q2, hq2, rfl⟩, rfl⟩
          rcases hq2 with rfl | ⟨sz2, rfl⟩
          all_goals
            refine ⟨rfl, fun _ _ => rfl, rfl, ?_⟩
            refine ⟨rfl, (by first | exact Nat.zero_le _ | exact Nat.le_refl _ | exact Nat.le_succ 1 | decide), (hTp).mono ?_⟩
            rintro d l ⟨rfl, rfl⟩
            refine ⟨rfl, fun _ _ => rfl, rfl, ?_⟩
            repeat (first | refine And.intro (fun _ => ?_) (fun h => Bool.noConfusion h) | refine And.intro (fun h => Bool.noConfusion h) (fun _ => ?_))
            refine ⟨rfl, (by first | exact Nat.zero_le _ | exact Nat.le_refl _ | exact Nat.le_succ 1 | decide), (tRunsR (r := 2) (sto := [mbox ⟨k, l⟩, mbox ⟨k, l⟩]) (Nat.le_refl 2)).mono ?_⟩
            rintro d l ⟨rfl, rfl⟩
            refine ⟨rfl, fun _ _ => rfl, rfl, ?_⟩
            repeat (first | refine And.intro (fun _ => ?_) (fun h => Bool.noConfusion h) | refine And.intro (fun h => Bool.noConfusion h) (fun _ => ?_))
            exact rfl
    | true =>
      have hmk := of_decide_eq_true hmk
      rw [if_pos hmk] at hTp
      have hB : ¬ (0 ≤ B ∧ B ≤ 100000) := fun h => ha ⟨hmk, h⟩
      generalize totP ⟨k, l⟩ ds os p = T at hTp
      refine ⟨rfl, Nat.zero_le _, hP.mono ?_⟩
      rintro x l2 ⟨⟨q, hq, rfl⟩, rfl⟩
      rcases hq with rfl | ⟨sz, rfl⟩
      all_goals
        refine ⟨rfl, fun _ _ => rfl, rfl, ?_⟩
        cases al with
        | false =>
          repeat (first | refine And.intro (fun _ => ?_) (fun h => Bool.noConfusion h) | refine And.intro (fun h => Bool.noConfusion h) (fun _ => ?_))
          refine ⟨rfl, (by first | exact Nat.zero_le _ | exact Nat.le_refl _ | exact Nat.le_succ 1 | decide), (hTp).mono ?_⟩
          rintro d l ⟨rfl, rfl⟩
          refine ⟨rfl, fun _ _ => rfl, rfl, ?_⟩
          repeat (first | refine And.intro (fun _ => ?_) (fun h => Bool.noConfusion h) | refine And.intro (fun h => Bool.noConfusion h) (fun _ => ?_))
          refine And.intro (fun h1 => ?_) (fun h1 => ?_)
          · repeat (first | refine And.intro (fun _ => ?_) (fun h => Bool.noConfusion h) | refine And.intro (fun h => Bool.noConfusion h) (fun _ => ?_))
            refine ⟨rfl, (by first | exact Nat.zero_le _ | exact Nat.le_refl _ | exact Nat.le_succ 1 | decide), (tRunsR (r := 2) (sto := [mbox ⟨k, l⟩, mbox ⟨k, l⟩]) (Nat.le_refl 2)).mono ?_⟩
            rintro d l ⟨rfl, rfl⟩
            refine ⟨rfl, fun _ _ => rfl, rfl, ?_⟩
            repeat (first | refine And.intro (fun _ => ?_) (fun h => Bool.noConfusion h) | refine And.intro (fun h => Bool.noConfusion h) (fun _ => ?_))
            exact rfl
          · repeat (first | refine And.intro (fun _ => ?_) (fun h => Bool.noConfusion h) | refine And.intro (fun h => Bool.noConfusion h) (fun _ => ?_))
            refine And.intro (fun h2 => ?_) (fun h2 => ?_)
            · repeat (first | refine And.intro (fun _ => ?_) (fun h => Bool.noConfusion h) | refine And.intro (fun h => Bool.noConfusion h) (fun _ => ?_))
              refine ⟨rfl, (by first | exact Nat.zero_le _ | exact Nat.le_refl _ | exact Nat.le_succ 1 | decide), (tRunsR (r := 2) (sto := [mbox ⟨k, l⟩, mbox ⟨k, l⟩]) (Nat.le_refl 2)).mono ?_⟩
              rintro d l ⟨rfl, rfl⟩
              refine ⟨rfl, fun _ _ => rfl, rfl, ?_⟩
              repeat (first | refine And.intro (fun _ => ?_) (fun h => Bool.noConfusion h) | refine And.intro (fun h => Bool.noConfusion h) (fun _ => ?_))
              exact rfl
            · exact absurd ⟨by have := of_decide_eq_false h1; omega, by have := of_decide_eq_false h2; omega⟩ hB
        | true =>
          repeat (first | refine And.intro (fun _ => ?_) (fun h => Bool.noConfusion h) | refine And.intro (fun h => Bool.noConfusion h) (fun _ => ?_))
          refine ⟨rfl, Nat.zero_le _, hR2.mono ?_⟩
          rintro x l2 ⟨⟨q2, hq2, rfl⟩, rfl⟩
          rcases hq2 with rfl | ⟨sz2, rfl⟩
          all_goals
            refine ⟨rfl, fun _ _ => rfl, rfl, ?_⟩
            refine ⟨rfl, (by first | exact Nat.zero_le _ | exact Nat.le_refl _ | exact Nat.le_succ 1 | decide), (hTp).mono ?_⟩
            rintro d l ⟨rfl, rfl⟩
            refine ⟨rfl, fun _ _ => rfl, rfl, ?_⟩
            repeat (first | refine And.intro (fun _ => ?_) (fun h => Bool.noConfusion h) | refine And.intro (fun h => Bool.noConfusion h) (fun _ => ?_))
            refine And.intro (fun h1 => ?_) (fun h1 => ?_)
            · repeat (first | refine And.intro (fun _ => ?_) (fun h => Bool.noConfusion h) | refine And.intro (fun h => Bool.noConfusion h) (fun _ => ?_))
              refine ⟨rfl, (by first | exact Nat.zero_le _ | exact Nat.le_refl _ | exact Nat.le_succ 1 | decide), (tRunsR (r := 2) (sto := [mbox ⟨k, l⟩, mbox ⟨k, l⟩]) (Nat.le_refl 2)).mono ?_⟩
              rintro d l ⟨rfl, rfl⟩
              refine ⟨rfl, fun _ _ => rfl, rfl, ?_⟩
              repeat (first | refine And.intro (fun _ => ?_) (fun h => Bool.noConfusion h) | refine And.intro (fun h => Bool.noConfusion h) (fun _ => ?_))
              exact rfl
            · repeat (first | refine And.intro (fun _ => ?_) (fun h => Bool.noConfusion h) | refine And.intro (fun h => Bool.noConfusion h) (fun _ => ?_))
              refine And.intro (fun h2 => ?_) (fun h2 => ?_)
              · repeat (first | refine And.intro (fun _ => ?_) (fun h => Bool.noConfusion h) | refine And.intro (fun h => Bool.noConfusion h) (fun _ => ?_))
                refine ⟨rfl, (by first | exact Nat.zero_le _ | exact Nat.le_refl _ | exact Nat.le_succ 1 | decide), (tRunsR (r := 2) (sto := [mbox ⟨k, l⟩, mbox ⟨k, l⟩]) (Nat.le_refl 2)).mono ?_⟩
                rintro d l ⟨rfl, rfl⟩
                refine ⟨rfl, fun _ _ => rfl, rfl, ?_⟩
                repeat (first | refine And.intro (fun _ => ?_) (fun h => Bool.noConfusion h) | refine And.intro (fun h => Bool.noConfusion h) (fun _ => ?_))
                exact rfl
              · exact absurd ⟨by have := of_decide_eq_false h1; omega, by have := of_decide_eq_false h2; omega⟩ hB
  have hTp := hT p
  rw [if_pos ha.1] at hTp
  have hP2 : PassR ⟨k, l⟩ ds os p B = ((passR ⟨k, l⟩ ds os p B).1, (passR ⟨k, l⟩ ds os p B).2.1, 0) := if_pos ha
  have hPa := PassR_all ha
  have hRa := repR_all ha
  have hR2 := hR.mono (R' := fun x k2 => isRp (repR ⟨k, l⟩ ds os p B) 0 x ∧ k2 = [mbox ⟨k, l⟩, mbox ⟨k, l⟩]) (fun d k2 h => by
    rcases h with ⟨⟨_, h⟩ | ⟨h, _⟩, h2⟩
    · exact ⟨h, h2⟩
    · exact absurd ha h)
  rw [hP2] at hP
  generalize passR ⟨k, l⟩ ds os p B = y at hP hPa
  generalize repR ⟨k, l⟩ ds os p B = z at hR2 hRa
  obtain ⟨y1, y2, y3⟩ := y
  obtain ⟨z1, z2, z3⟩ := z
  have hsp := smP_right (makeR_tog ha.1).2.2.1
  have hrp := (makeR_tog ha.1).2.2.1
  have key : ∀ (P : Pln) (n : Int), Bet ⟨k, l⟩ ds os p P → 0 ≤ n → n ≤ B → True := fun _ _ _ _ _ => trivial
  refine ⟨rfl, Nat.zero_le _, hP.mono ?_⟩
  rintro x l2 ⟨⟨q, hq, rfl⟩, rfl⟩
  rcases hq with rfl | ⟨sz, rfl⟩
  all_goals
    refine ⟨rfl, fun _ _ => rfl, rfl, ?_⟩
    cases al with
    | false =>
      repeat (first | refine And.intro (fun _ => ?_) (fun h => Bool.noConfusion h) | refine And.intro (fun h => Bool.noConfusion h) (fun _ => ?_))
      have hbt := hPa.1
      have hn0 := hPa.2.1
      have hn1 := hPa.2.2
      replace hbt : Bet ⟨k, l⟩ ds os p y1 := hbt
      replace hn0 : 0 ≤ y2 := hn0
      replace hn1 : y2 ≤ B := hn1
      have hv := hbt.vd
      have hs2 := smP_right (makeR_tog hv).2.2.1
      have hr2 := (makeR_tog hv).2.2.1
      have hTq := hT y1
      rw [if_pos hv] at hTq
      have hMq := hM y1
      have hkp := c_audit_Kept p y1 hrp hr2 hbt.rel.P (r := 2) (sto := [mbox ⟨k, l⟩, mbox ⟨k, l⟩]) (Nat.le_refl 2)
      have ho1 := c_plan_Orders y1 (sm_sz hs2) (by have := allO_sm hs2.st; have := hs2.len; omega) (r := 2) (sto := [mbox ⟨k, l⟩, mbox ⟨k, l⟩]) (Nat.le_refl 2)
      have ho2 := c_plan_Orders p (sm_sz hsp) (by have := allO_sm hsp.st; have := hsp.len; omega) (r := 2) (sto := [mbox ⟨k, l⟩, mbox ⟨k, l⟩]) (Nat.le_refl 2)
      have hsa := c_draybook_Same_int (ordP y1) (ordP p) (by have := ordP_len y1; have := allO_sm hs2.st; have := hs2.len; omega) (by have := ordP_len p; have := allO_sm hsp.st; have := hsp.len; omega) (r := 2) (sto := [mbox ⟨k, l⟩, mbox ⟨k, l⟩]) (Nat.le_refl 2)
      rw [decide_eq_true (ordP_same hbt.ords)] at hsa
      have hrt := c_draykeep_Routes y1 p (sm_sz hs2) (sm_sz hsp) (r := 2) (sto := [mbox ⟨k, l⟩, mbox ⟨k, l⟩]) (Nat.le_refl 2)
      have htt : (totP ⟨k, l⟩ ds os y1 ≤ totP ⟨k, l⟩ ds os p) ∧ (decide (totP ⟨k, l⟩ ds os y1 = totP ⟨k, l⟩ ds os p) = decide (y1 = p)) := by
        rcases hbt.tot with e | e
        · rw [e]; exact ⟨Int.le_refl _, by rw [decide_eq_true rfl, decide_eq_true rfl]⟩
        · refine ⟨by omega, ?_⟩
          rw [decide_eq_false (show ¬ totP ⟨k, l⟩ ds os y1 = totP ⟨k, l⟩ ds os p by omega), decide_eq_false (fun q => by rw [q] at e; omega)]
      generalize totP ⟨k, l⟩ ds os p = T at hTp htt
      generalize totP ⟨k, l⟩ ds os y1 = T2 at hTq htt
      generalize hmx : makeR ⟨k, l⟩ ds os y1 = mx at hMq hv
      obtain ⟨mc, ma, me⟩ := mx
      have hme : me = 0 := hv
      subst hme
      refine ⟨rfl, (by first | exact Nat.zero_le _ | exact Nat.le_refl _ | exact Nat.le_succ 1 | decide), (hTp).mono ?_⟩
      rintro d l ⟨rfl, rfl⟩
      refine ⟨rfl, fun _ _ => rfl, rfl, ?_⟩
      repeat (first | refine And.intro (fun _ => ?_) (fun h => Bool.noConfusion h) | refine And.intro (fun h => Bool.noConfusion h) (fun _ => ?_))
      refine ⟨rfl, (by first | exact Nat.zero_le _ | exact Nat.le_refl _ | exact Nat.le_succ 1 | decide), (hTq).mono ?_⟩
      rintro d l ⟨rfl, rfl⟩
      refine ⟨rfl, fun _ _ => rfl, rfl, ?_⟩
      refine ⟨rfl, Nat.zero_le _, hMq.mono ?_⟩
      rintro x l2 ⟨⟨sz9, hsz9, rfl⟩, rfl⟩
      refine ⟨rfl, fun _ _ => rfl, rfl, ?_⟩
      refine ⟨⟨68719476735, [0, 1, 2, 4, 12, 20, 36, 64, 192, 320, 576, 1280, 2048, 6144, 2048, 26624, 34816, 67584, 163840, 262144, 786432, 262144, 2359296, 5505024, 9699328, 17039360, 33816576, 83886080, 134217728, 402653184, 671088640, 1207959552, 2147483648, 2147483648, 15032385536, 19327352832], [1, 3, 7, 15, 31, 63, 127, 255, 511, 1023, 2047, 4095, 8191, 16383, 20479, 65535, 131071, 262143, 524287, 1048575, 2097151, 2621439, 6815743, 16777215, 33554431, 67108863, 134217727, 268435455, 536870911, 1073741823, 2147483647, 4294967295, 8589934591, 12884901887, 34359738367, 68719476735]⟩, by kernel_rfl, ?_⟩
      repeat (first | refine And.intro (fun _ => ?_) (fun h => Bool.noConfusion h) | refine And.intro (fun h => Bool.noConfusion h) (fun _ => ?_))
      refine And.intro ?_ trivial
      refine ⟨rfl, (by first | exact Nat.zero_le _ | exact Nat.le_refl _ | exact Nat.le_succ 1 | decide), (c_api_Good ma 0 (r := 2) (sto := [mbox ⟨k, l⟩, mbox ⟨k, l⟩]) (Nat.le_refl 2)).mono ?_⟩
      rintro d l ⟨rfl, rfl⟩
      refine ⟨rfl, fun _ _ => rfl, rfl, ?_⟩
      refine And.intro (by repeat (first | exact trivial | refine And.intro ⟨rfl, rfl⟩ ?_)) ?_
      repeat (first | refine And.intro (fun _ => ?_) (fun h => Bool.noConfusion h) | refine And.intro (fun h => Bool.noConfusion h) (fun _ => ?_))
      refine And.intro ?_ trivial
      refine ⟨rfl, (by first | exact Nat.zero_le _ | exact Nat.le_refl _ | exact Nat.le_succ 1 | decide), (hkp).mono ?_⟩
      rintro d l ⟨rfl, rfl⟩
      refine ⟨rfl, fun _ _ => rfl, rfl, ?_⟩
      refine And.intro (by repeat (first | exact trivial | refine And.intro ⟨rfl, rfl⟩ ?_)) ?_
      repeat (first | refine And.intro (fun _ => ?_) (fun h => Bool.noConfusion h) | refine And.intro (fun h => Bool.noConfusion h) (fun _ => ?_))
      refine And.intro ?_ trivial
      refine ⟨rfl, Nat.zero_le _, ho1.mono ?_⟩
      rintro d l2 ⟨⟨sz8, rfl⟩, rfl⟩
      refine ⟨rfl, fun _ _ => rfl, rfl, ?_⟩
      refine And.intro (by repeat (first | exact trivial | refine And.intro ⟨rfl, rfl⟩ ?_)) ?_
      repeat (first | refine And.intro (fun _ => ?_) (fun h => Bool.noConfusion h) | refine And.intro (fun h => Bool.noConfusion h) (fun _ => ?_))
      refine And.intro ?_ trivial
      refine ⟨rfl, Nat.zero_le _, ho2.mono ?_⟩
      rintro d l2 ⟨⟨sz7, rfl⟩, rfl⟩
      refine ⟨rfl, fun _ _ => rfl, rfl, ?_⟩
      refine And.intro (by repeat (first | exact trivial | refine And.intro ⟨rfl, rfl⟩ ?_)) ?_
      repeat (first | refine And.intro (fun _ => ?_) (fun h => Bool.noConfusion h) | refine And.intro (fun h => Bool.noConfusion h) (fun _ => ?_))
      refine And.intro ?_ trivial
      refine ⟨rfl, (by first | exact Nat.zero_le _ | exact Nat.le_refl _ | exact Nat.le_succ 1 | decide), (hsa).mono ?_⟩
      rintro d l ⟨rfl, rfl⟩
      refine ⟨rfl, fun _ _ => rfl, rfl, ?_⟩
      refine And.intro (by repeat (first | exact trivial | refine And.intro ⟨rfl, rfl⟩ ?_)) ?_
      repeat (first | refine And.intro (fun _ => ?_) (fun h => Bool.noConfusion h) | refine And.intro (fun h => Bool.noConfusion h) (fun _ => ?_))
      refine And.intro (fun h1 => ?_) (fun h1 => ?_)
      · exact absurd (of_decide_eq_true h1) (by show ¬ y2 < 0; omega)
      repeat (first | refine And.intro (fun _ => ?_) (fun h => Bool.noConfusion h) | refine And.intro (fun h => Bool.noConfusion h) (fun _ => ?_))
      refine And.intro (fun h2 => ?_) (fun h2 => ?_)
      · exact absurd (of_decide_eq_true h2) (by show ¬ y2 > B; omega)
      repeat (first | refine And.intro (fun _ => ?_) (fun h => Bool.noConfusion h) | refine And.intro (fun h => Bool.noConfusion h) (fun _ => ?_))
      refine And.intro (fun h3 => ?_) (fun h3 => ?_)
      rotate_left
      · exact absurd (of_decide_eq_false h3) (by omega)
      repeat (first | refine And.intro (fun _ => ?_) (fun h => Bool.noConfusion h) | refine And.intro (fun h => Bool.noConfusion h) (fun _ => ?_))
      have htq := htt.2
      generalize decide (y1 = p) = bq at hrt htq
      cases bq with
      | true =>
        refine And.intro (fun h5 => ?_) (fun h5 => ?_)
        rotate_left
        · rw [htq] at h5
          cases h5
        refine ⟨rfl, (by first | exact Nat.zero_le _ | exact Nat.le_refl _ | exact Nat.le_succ 1 | decide), (hrt).mono ?_⟩
        rintro d l ⟨rfl, rfl⟩
        refine ⟨rfl, fun _ _ => rfl, rfl, ?_⟩
        repeat (first | refine And.intro (fun _ => ?_) (fun h => Bool.noConfusion h) | refine And.intro (fun h => Bool.noConfusion h) (fun _ => ?_))
        refine ⟨rfl, (by first | exact Nat.zero_le _ | exact Nat.le_refl _ | exact Nat.le_succ 1 | decide), (tRunsR (r := 2) (sto := [mbox ⟨k, l⟩, mbox ⟨k, l⟩]) (Nat.le_refl 2)).mono ?_⟩
        rintro d l ⟨rfl, rfl⟩
        refine ⟨rfl, fun _ _ => rfl, rfl, ?_⟩
        repeat (first | refine And.intro (fun _ => ?_) (fun h => Bool.noConfusion h) | refine And.intro (fun h => Bool.noConfusion h) (fun _ => ?_))
        exact rfl
      | false =>
        refine And.intro (fun h5 => ?_) (fun h5 => ?_)
        · rw [htq] at h5
          cases h5
        refine ⟨rfl, (by first | exact Nat.zero_le _ | exact Nat.le_refl _ | exact Nat.le_succ 1 | decide), (hrt).mono ?_⟩
        rintro d l ⟨rfl, rfl⟩
        refine ⟨rfl, fun _ _ => rfl, rfl, ?_⟩
        repeat (first | refine And.intro (fun _ => ?_) (fun h => Bool.noConfusion h) | refine And.intro (fun h => Bool.noConfusion h) (fun _ => ?_))
        refine ⟨rfl, (by first | exact Nat.zero_le _ | exact Nat.le_refl _ | exact Nat.le_succ 1 | decide), (tRunsR (r := 2) (sto := [mbox ⟨k, l⟩, mbox ⟨k, l⟩]) (Nat.le_refl 2)).mono ?_⟩
        rintro d l ⟨rfl, rfl⟩
        refine ⟨rfl, fun _ _ => rfl, rfl, ?_⟩
        repeat (first | refine And.intro (fun _ => ?_) (fun h => Bool.noConfusion h) | refine And.intro (fun h => Bool.noConfusion h) (fun _ => ?_))
        exact rfl
    | true =>
      repeat (first | refine And.intro (fun _ => ?_) (fun h => Bool.noConfusion h) | refine And.intro (fun h => Bool.noConfusion h) (fun _ => ?_))
      refine ⟨rfl, Nat.zero_le _, hR2.mono ?_⟩
      rintro x l2 ⟨⟨q2, hq2, rfl⟩, rfl⟩
      rcases hq2 with rfl | ⟨sz2, rfl⟩
      all_goals
        refine ⟨rfl, fun _ _ => rfl, rfl, ?_⟩
        have hbt := hRa.1
        have hn0 := hRa.2.1
        have hn1 := hRa.2.2
        replace hbt : Bet ⟨k, l⟩ ds os p z1 := hbt
        replace hn0 : 0 ≤ z2 := hn0
        replace hn1 : z2 ≤ B := hn1
        have hv := hbt.vd
        have hs2 := smP_right (makeR_tog hv).2.2.1
        have hr2 := (makeR_tog hv).2.2.1
        have hTq := hT z1
        rw [if_pos hv] at hTq
        have hMq := hM z1
        have hkp := c_audit_Kept p z1 hrp hr2 hbt.rel.P (r := 2) (sto := [mbox ⟨k, l⟩, mbox ⟨k, l⟩]) (Nat.le_refl 2)
        have ho1 := c_plan_Orders z1 (sm_sz hs2) (by have := allO_sm hs2.st; have := hs2.len; omega) (r := 2) (sto := [mbox ⟨k, l⟩, mbox ⟨k, l⟩]) (Nat.le_refl 2)
        have ho2 := c_plan_Orders p (sm_sz hsp) (by have := allO_sm hsp.st; have := hsp.len; omega) (r := 2) (sto := [mbox ⟨k, l⟩, mbox ⟨k, l⟩]) (Nat.le_refl 2)
        have hsa := c_draybook_Same_int (ordP z1) (ordP p) (by have := ordP_len z1; have := allO_sm hs2.st; have := hs2.len; omega) (by have := ordP_len p; have := allO_sm hsp.st; have := hsp.len; omega) (r := 2) (sto := [mbox ⟨k, l⟩, mbox ⟨k, l⟩]) (Nat.le_refl 2)
        rw [decide_eq_true (ordP_same hbt.ords)] at hsa
        have hrt := c_draykeep_Routes z1 p (sm_sz hs2) (sm_sz hsp) (r := 2) (sto := [mbox ⟨k, l⟩, mbox ⟨k, l⟩]) (Nat.le_refl 2)
        have htt : (totP ⟨k, l⟩ ds os z1 ≤ totP ⟨k, l⟩ ds os p) ∧ (decide (totP ⟨k, l⟩ ds os z1 = totP ⟨k, l⟩ ds os p) = decide (z1 = p)) := by
          rcases hbt.tot with e | e
          · rw [e]; exact ⟨Int.le_refl _, by rw [decide_eq_true rfl, decide_eq_true rfl]⟩
          · refine ⟨by omega, ?_⟩
            rw [decide_eq_false (show ¬ totP ⟨k, l⟩ ds os z1 = totP ⟨k, l⟩ ds os p by omega), decide_eq_false (fun q => by rw [q] at e; omega)]
        generalize totP ⟨k, l⟩ ds os p = T at hTp htt
        generalize totP ⟨k, l⟩ ds os z1 = T2 at hTq htt
        generalize hmx : makeR ⟨k, l⟩ ds os z1 = mx at hMq hv
        obtain ⟨mc, ma, me⟩ := mx
        have hme : me = 0 := hv
        subst hme
        refine ⟨rfl, (by first | exact Nat.zero_le _ | exact Nat.le_refl _ | exact Nat.le_succ 1 | decide), (hTp).mono ?_⟩
        rintro d l ⟨rfl, rfl⟩
        refine ⟨rfl, fun _ _ => rfl, rfl, ?_⟩
        repeat (first | refine And.intro (fun _ => ?_) (fun h => Bool.noConfusion h) | refine And.intro (fun h => Bool.noConfusion h) (fun _ => ?_))
        refine ⟨rfl, (by first | exact Nat.zero_le _ | exact Nat.le_refl _ | exact Nat.le_succ 1 | decide), (hTq).mono ?_⟩
        rintro d l ⟨rfl, rfl⟩
        refine ⟨rfl, fun _ _ => rfl, rfl, ?_⟩
        refine ⟨rfl, Nat.zero_le _, hMq.mono ?_⟩
        rintro x l2 ⟨⟨sz9, hsz9, rfl⟩, rfl⟩
        refine ⟨rfl, fun _ _ => rfl, rfl, ?_⟩
        refine ⟨⟨68719476735, [0, 1, 2, 4, 12, 20, 36, 64, 192, 320, 576, 1280, 2048, 6144, 2048, 26624, 34816, 67584, 163840, 262144, 786432, 262144, 2359296, 5505024, 9699328, 17039360, 33816576, 83886080, 134217728, 402653184, 671088640, 1207959552, 2147483648, 2147483648, 15032385536, 19327352832], [1, 3, 7, 15, 31, 63, 127, 255, 511, 1023, 2047, 4095, 8191, 16383, 20479, 65535, 131071, 262143, 524287, 1048575, 2097151, 2621439, 6815743, 16777215, 33554431, 67108863, 134217727, 268435455, 536870911, 1073741823, 2147483647, 4294967295, 8589934591, 12884901887, 34359738367, 68719476735]⟩, by kernel_rfl, ?_⟩
        repeat (first | refine And.intro (fun _ => ?_) (fun h => Bool.noConfusion h) | refine And.intro (fun h => Bool.noConfusion h) (fun _ => ?_))
        refine And.intro ?_ trivial
        refine ⟨rfl, (by first | exact Nat.zero_le _ | exact Nat.le_refl _ | exact Nat.le_succ 1 | decide), (c_api_Good ma 0 (r := 2) (sto := [mbox ⟨k, l⟩, mbox ⟨k, l⟩]) (Nat.le_refl 2)).mono ?_⟩
        rintro d l ⟨rfl, rfl⟩
        refine ⟨rfl, fun _ _ => rfl, rfl, ?_⟩
        refine And.intro (by repeat (first | exact trivial | refine And.intro ⟨rfl, rfl⟩ ?_)) ?_
        repeat (first | refine And.intro (fun _ => ?_) (fun h => Bool.noConfusion h) | refine And.intro (fun h => Bool.noConfusion h) (fun _ => ?_))
        refine And.intro ?_ trivial
        refine ⟨rfl, (by first | exact Nat.zero_le _ | exact Nat.le_refl _ | exact Nat.le_succ 1 | decide), (hkp).mono ?_⟩
        rintro d l ⟨rfl, rfl⟩
        refine ⟨rfl, fun _ _ => rfl, rfl, ?_⟩
        refine And.intro (by repeat (first | exact trivial | refine And.intro ⟨rfl, rfl⟩ ?_)) ?_
        repeat (first | refine And.intro (fun _ => ?_) (fun h => Bool.noConfusion h) | refine And.intro (fun h => Bool.noConfusion h) (fun _ => ?_))
        refine And.intro ?_ trivial
        refine ⟨rfl, Nat.zero_le _, ho1.mono ?_⟩
        rintro d l2 ⟨⟨sz8, rfl⟩, rfl⟩
        refine ⟨rfl, fun _ _ => rfl, rfl, ?_⟩
        refine And.intro (by repeat (first | exact trivial | refine And.intro ⟨rfl, rfl⟩ ?_)) ?_
        repeat (first | refine And.intro (fun _ => ?_) (fun h => Bool.noConfusion h) | refine And.intro (fun h => Bool.noConfusion h) (fun _ => ?_))
        refine And.intro ?_ trivial
        refine ⟨rfl, Nat.zero_le _, ho2.mono ?_⟩
        rintro d l2 ⟨⟨sz7, rfl⟩, rfl⟩
        refine ⟨rfl, fun _ _ => rfl, rfl, ?_⟩
        refine And.intro (by repeat (first | exact trivial | refine And.intro ⟨rfl, rfl⟩ ?_)) ?_
        repeat (first | refine And.intro (fun _ => ?_) (fun h => Bool.noConfusion h) | refine And.intro (fun h => Bool.noConfusion h) (fun _ => ?_))
        refine And.intro ?_ trivial
        refine ⟨rfl, (by first | exact Nat.zero_le _ | exact Nat.le_refl _ | exact Nat.le_succ 1 | decide), (hsa).mono ?_⟩
        rintro d l ⟨rfl, rfl⟩
        refine ⟨rfl, fun _ _ => rfl, rfl, ?_⟩
        refine And.intro (by repeat (first | exact trivial | refine And.intro ⟨rfl, rfl⟩ ?_)) ?_
        repeat (first | refine And.intro (fun _ => ?_) (fun h => Bool.noConfusion h) | refine And.intro (fun h => Bool.noConfusion h) (fun _ => ?_))
        refine And.intro (fun h1 => ?_) (fun h1 => ?_)
        · exact absurd (of_decide_eq_true h1) (by show ¬ z2 < 0; omega)
        repeat (first | refine And.intro (fun _ => ?_) (fun h => Bool.noConfusion h) | refine And.intro (fun h => Bool.noConfusion h) (fun _ => ?_))
        refine And.intro (fun h2 => ?_) (fun h2 => ?_)
        · exact absurd (of_decide_eq_true h2) (by show ¬ z2 > B; omega)
        repeat (first | refine And.intro (fun _ => ?_) (fun h => Bool.noConfusion h) | refine And.intro (fun h => Bool.noConfusion h) (fun _ => ?_))
        refine And.intro (fun h3 => ?_) (fun h3 => ?_)
        rotate_left
        · exact absurd (of_decide_eq_false h3) (by omega)
        repeat (first | refine And.intro (fun _ => ?_) (fun h => Bool.noConfusion h) | refine And.intro (fun h => Bool.noConfusion h) (fun _ => ?_))
        have htq := htt.2
        generalize decide (z1 = p) = bq at hrt htq
        cases bq with
        | true =>
          refine And.intro (fun h5 => ?_) (fun h5 => ?_)
          rotate_left
          · rw [htq] at h5
            cases h5
          refine ⟨rfl, (by first | exact Nat.zero_le _ | exact Nat.le_refl _ | exact Nat.le_succ 1 | decide), (hrt).mono ?_⟩
          rintro d l ⟨rfl, rfl⟩
          refine ⟨rfl, fun _ _ => rfl, rfl, ?_⟩
          repeat (first | refine And.intro (fun _ => ?_) (fun h => Bool.noConfusion h) | refine And.intro (fun h => Bool.noConfusion h) (fun _ => ?_))
          refine ⟨rfl, (by first | exact Nat.zero_le _ | exact Nat.le_refl _ | exact Nat.le_succ 1 | decide), (tRunsR (r := 2) (sto := [mbox ⟨k, l⟩, mbox ⟨k, l⟩]) (Nat.le_refl 2)).mono ?_⟩
          rintro d l ⟨rfl, rfl⟩
          refine ⟨rfl, fun _ _ => rfl, rfl, ?_⟩
          repeat (first | refine And.intro (fun _ => ?_) (fun h => Bool.noConfusion h) | refine And.intro (fun h => Bool.noConfusion h) (fun _ => ?_))
          exact rfl
        | false =>
          refine And.intro (fun h5 => ?_) (fun h5 => ?_)
          · rw [htq] at h5
            cases h5
          refine ⟨rfl, (by first | exact Nat.zero_le _ | exact Nat.le_refl _ | exact Nat.le_succ 1 | decide), (hrt).mono ?_⟩
          rintro d l ⟨rfl, rfl⟩
          refine ⟨rfl, fun _ _ => rfl, rfl, ?_⟩
          repeat (first | refine And.intro (fun _ => ?_) (fun h => Bool.noConfusion h) | refine And.intro (fun h => Bool.noConfusion h) (fun _ => ?_))
          refine ⟨rfl, (by first | exact Nat.zero_le _ | exact Nat.le_refl _ | exact Nat.le_succ 1 | decide), (tRunsR (r := 2) (sto := [mbox ⟨k, l⟩, mbox ⟨k, l⟩]) (Nat.le_refl 2)).mono ?_⟩
          rintro d l ⟨rfl, rfl⟩
          refine ⟨rfl, fun _ _ => rfl, rfl, ?_⟩
          repeat (first | refine And.intro (fun _ => ?_) (fun h => Bool.noConfusion h) | refine And.intro (fun h => Bool.noConfusion h) (fun _ => ?_))
          exact rfl
end Go.Lv
