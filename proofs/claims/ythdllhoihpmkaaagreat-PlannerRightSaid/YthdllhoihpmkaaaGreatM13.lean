/-
  Part 13 of the texts under the proof: an abstract run of loaded code on data, and what the functions do. No condition.
-/
import Derived.Test.YthdllhoihpmkaaaGreatM12
import Derived.Shelf.SlSortCmp.NoneTotal
set_option linter.all false
set_option maxRecDepth 100000
namespace Go.Lv
open Go Go.Proofs Go.Sort Go.Shelf Go.RowKit

noncomputable def CmpOK (P : Program) (g k κ : Nat) : Prop :=
  ∀ (x y : List Value) (zx zy : Int), x.length = k → y.length = k → x[κ]? = some (.int .i64 zx) → y[κ]? = some (.int .i64 zy) →
    -4611686018427387904 ≤ zx → zx ≤ 4611686018427387903 → -4611686018427387904 ≤ zy → zy ≤ 4611686018427387903 → ∀ W : World,
    Calls P g #[.agg x.toArray, .agg y.toArray] W fun e w' => e = .returned (.int .i64 (zx - zy)) ∧ ∃ q os', w' = grow (W.drewN q) os'

theorem flatK_flatten {α : Type} [Inhabited α] (enc : α → List Value) (k : Nat) (hk : ∀ x, (enc x).length = k) (d : Array α) : flatK enc k d = ((d.toList.map enc).flatten).toArray := by
  have hl : ∀ r, r ∈ d.toList.map enc → r.length = k := fun r hr => by
    obtain ⟨x, _, rfl⟩ := List.mem_map.1 hr
    exact hk x
  have hlen := flatten_len _ hl
  simp only [List.length_map, Array.length_toList] at hlen
  apply Array.ext_getElem?
  intro t
  by_cases ht : t < d.size * k
  · have hk0 : 0 < k := by
      rcases Nat.eq_zero_or_pos k with e | e
      · rw [e, Nat.mul_zero] at ht; omega
      · exact e
    have hi : t / k < d.size := Nat.div_lt_of_lt_mul (by rw [Nat.mul_comm]; exact ht)
    have hc : t % k < k := Nat.mod_lt _ hk0
    have hdiv : (t / k) * k + t % k = t := by rw [Nat.mul_comm]; exact Nat.div_add_mod t k
    have hfg := flatten_get _ hl (t / k) (t % k) (enc d[t / k]) (by simp [hi]) hc
    rw [hdiv] at hfg
    have h1 : (flatK enc k d)[t]? = some ((enc d[t / k]!)[t % k]!) := by
      rw [Array.getElem?_eq_getElem (by simpa using ht)]
      have := get_flatK enc k d t ht
      rw [getElem!_pos _ t (by simpa using ht)] at this
      rw [this]
    rw [h1]
    simp only [List.getElem?_toArray]
    rw [hfg]
    have e1 : d[t / k]! = d[t / k] := getElem!_pos d _ hi
    rw [e1]
    have h2 : t % k < (enc d[t / k]).length := by rw [hk]; exact hc
    rw [getElem!_pos (enc d[t / k]) _ h2, List.getElem?_eq_getElem h2]
  · rw [Array.getElem?_eq_none (by simp; omega), Array.getElem?_eq_none (by simp only [List.size_toArray]; omega)]

theorem sortC_of {P : Program} {ρ : Ren} (L : SlLaysF0.n6 P ρ) {g k κ : Nat} (hk0 : 0 < k) (aE : ∀ w, (isAgg (ρ.t 24)).run P w = .ok true w) (zE : ∀ w, (Go.sizeOf (ρ.t 24)).run P w = .ok k w)
    (hfn : ∃ fn, P.funcs[ρ.f 6]? = some fn ∧ fn.body.isNone = false ∧ (fn.name == "runtime.NumGoroutine") = false) (eg : ∀ args w, (callFunc g args).run P w = .ok (.enter g args) w) (hg : CmpOK P g k κ) : SortC P (ρ.f 6) g k κ where
  fn := hfn
  pos := hk0
  nil := fun p cap fv w => AnyF.slices_SortFunc_none L p cap fv w
  some := fun blk off cap ps w hKV hne hH hblk hsz => by
    haveI : Inhabited {r : List Value // r ∈ ps} := ⟨⟨ps.head hne, List.head_mem hne⟩⟩
    have hkey : ∀ x : {r : List Value // r ∈ ps}, ∃ z, x.1[κ]? = some (.int .i64 z) ∧ keyV κ x.1 = z ∧ -4611686018427387904 ≤ z ∧ z ≤ 4611686018427387903 := fun x => by
      obtain ⟨_, _, z, h1, h2, h3⟩ := hKV.row x.1 x.2
      exact ⟨z, h1, by simp [keyV, h1], h2, h3⟩
    have hk : ∀ x : {r : List Value // r ∈ ps}, x.1.length = k := fun x => (hKV.row x.1 x.2).1
    have hlt : ∀ x y : {r : List Value // r ∈ ps}, ltOf (fun x y : {r : List Value // r ∈ ps} => keyV κ x.1 - keyV κ y.1) x y = decide (keyV κ x.1 < keyV κ y.1) := fun x y => by
      show decide (keyV κ x.1 - keyV κ y.1 < 0) = decide (keyV κ x.1 < keyV κ y.1)
      by_cases h : keyV κ x.1 < keyV κ y.1
      · rw [decide_eq_true h, decide_eq_true (by omega)]
      · rw [decide_eq_false h, decide_eq_false (by omega)]
    have hT : ∀ x y : {r : List Value // r ∈ ps}, keyV κ x.1 = keyV κ y.1 → x = y := fun x y he => by
      obtain ⟨i, hi, hxi⟩ := List.mem_iff_getElem.1 x.2
      obtain ⟨j, hj, hyj⟩ := List.mem_iff_getElem.1 y.2
      have hnd := hKV.keys
      have hp := List.pairwise_iff_getElem.1 hnd
      have : i = j := by
        rcases Nat.lt_trichotomy i j with h | h | h
        · exact (hp i j (by simpa using hi) (by simpa using hj) h (by simp only [List.getElem_map, hxi, hyj]; exact he)).elim
        · exact h
        · exact (hp j i (by simpa using hj) (by simpa using hi) h (by simp only [List.getElem_map, hxi, hyj]; exact he.symm)).elim
      subst this
      exact Subtype.ext (hxi.symm.trans hyj)
    have hval : (ps.attach.toArray.toList.map fun x : {r : List Value // r ∈ ps} => x.1) = ps := by simp
    have hcon := AnyQ.slices_SortFunc_total L k aE zE (fun x : {r : List Value // r ∈ ps} => x.1) hk (fun x => (hKV.row x.1 x.2).2.1) (fun x y => keyV κ x.1 - keyV κ y.1)
      ⟨fun x => by rw [hlt]; simp, fun x y z h1 h2 => by rw [hlt] at *; simp at *; omega, fun x y z h1 h2 => by rw [hlt] at *; simp at *; omega⟩ g #[] blk off cap ps.attach.toArray w eg
      (fun m os dk _ x y => by
        obtain ⟨zx, x1, x2, x3, x4⟩ := hkey x
        obtain ⟨zy, y1, y2, y3, y4⟩ := hkey y
        have := hg x.1 y.1 zx zy (hk x) (hk y) x1 y1 x3 x4 y3 y4 (sortWorldK (fun x : {r : List Value // r ∈ ps} => x.1) k w blk off m dk os)
        rw [← x2, ← y2] at this
        exact this)
      (by
        unfold HoldsK
        rw [flatK_flatten _ _ hk, hval]
        exact hH) hblk (by simpa using hsz) (fun x y h1 h2 => hT x y (by rw [hlt] at h1 h2; simp at h1 h2; omega))
    have hs : ps.attach.toArray.size = ps.length := by simp
    rw [hs] at hcon
    refine hcon.mono fun e w' he => ?_
    obtain ⟨rfl, n, os, rfl⟩ := he
    refine ⟨rfl, n, os, ?_⟩
    unfold sortWorldK putRowK
    rw [flatK_flatten _ _ hk]
    have hsort : (ps.attach.mergeSort fun x y => !(ltOf (fun x y : {r : List Value // r ∈ ps} => keyV κ x.1 - keyV κ y.1) y x)) = sortB (fun x : {r : List Value // r ∈ ps} => keyV κ x.1) ps.attach := by
      refine List.Perm.eq_of_pairwise (le := fun x y => keyV κ x.1 ≤ keyV κ y.1) (fun x y _ _ h1 h2 => hT x y (by omega)) ?_ (sortB_sorted _) ((List.mergeSort_perm _ _).trans (sortB_perm _).symm)
      have := List.pairwise_mergeSort (le := fun x y : {r : List Value // r ∈ ps} => !(ltOf (fun x y : {r : List Value // r ∈ ps} => keyV κ x.1 - keyV κ y.1) y x)) (fun a b c h1 h2 => by rw [hlt] at *; simp at *; omega) (fun a b => by rw [hlt, hlt]; simp; omega) ps.attach
      exact this.imp fun h => by rw [hlt] at h; simp at h; exact h
    simp only [List.toList_toArray]
    rw [hsort, sortB_map (fun x : {r : List Value // r ∈ ps} => x.1) ps.attach (fun x _ => rfl)]
    simp

end Go.Lv

namespace Go.Lv

section
variable {P : Program} {T : St} {X : Ctx} {G : Gh} {s : DS} {a : Act} {w : World} {m : Mt}

end

end Go.Lv

namespace Go.Lv

section
variable {β : Type}
end

abbrev Ms := List (Nat × Nat × List Nat)

section
variable {P : Program} {T : St} {X : Ctx} {G : Gh} {M : Ms} {s s1 : DS} {a : Act} {w : World} {o : Oper} {ops : Array Oper} {K K' : DS → Prop} {Q : Ex → DS → Prop}

end

end Go.Lv
