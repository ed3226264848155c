/-
  Part 13 of the texts under the proof: an abstract run of loaded code on data, and what the functions do. No condition.
-/
import Derived.Test.YtmbkdljolcmmiaaGreatM12
import Derived.Shelf.SlSortCmp.NoneTotal
set_option linter.all false
set_option maxRecDepth 100000
namespace Go.Lv
open Go Go.Proofs Go.Sort Go.Shelf Go.RowKit

noncomputable def CmpOK (P : Program) (g k κ : Nat) : Prop :=
  ∀ (x y : List Value) (zx zy : Int), x.length = k → y.length = k → x[κ]? = some (.int .i64 zx) → y[κ]? = some (.int .i64 zy) →
    -4611686018427387904 ≤ zx → zx ≤ 4611686018427387903 → -4611686018427387904 ≤ zy → zy ≤ 4611686018427387903 → ∀ W : World,
    Calls P g #[.agg x.toArray, .agg y.toArray] W fun e w' => e = .returned (.int .i64 (zx - zy)) ∧ ∃ q os', w' = grow (W.drewN q) os'

theorem flatK_flatten {α : Type} [Inhabited α] (enc : α → List Value) (k : Nat) (hk : ∀ x, (enc x).length = k) (d : Array α) : flatK enc k d = ((d.toList.map enc).flatten).toArray := by
  have hl : ∀ r, r ∈ d.toList.map enc → r.length = k := fun r hr => by
    obtain ⟨x, _, rfl⟩ := List.mem_map.1 hr
    exact hk x
  have hlen := flatten_len _ hl
  simp only [List.length_map, Array.length_toList] at hlen
  apply Array.ext_getElem?
  intro t
  by_cases ht : t < d.size * k
  · have hk0 : 0 < k := by
      rcases Nat.eq_zero_or_pos k with e | e
      · rw [e, Nat.mul_zero] at ht; omega
      · exact e
    have hi : t / k < d.size := Nat.div_lt_of_lt_mul (by rw [Nat.mul_comm]; exact ht)
    have hc : t % k < k := Nat.mod_lt _ hk0
    have hdiv : (t / k) * k + t % k = t := by rw [Nat.mul_comm]; exact Nat.div_add_mod t k
    have hfg := flatten_get _ hl (t / k) (t % k) (enc d[t / k]) (by simp [hi]) hc
    rw [hdiv] at hfg
    have h1 : (flatK enc k d)[t]? = some ((enc d[t / k]!)[t % k]!) := by
      rw [Array.getElem?_eq_getElem (by simpa using ht)]
      have := get_flatK enc k d t ht
      rw [getElem!_pos _ t (by simpa using ht)] at this
      rw [this]
    rw [h1]
    simp only [List.getElem?_toArray]
    rw [hfg]
    have e1 : d[t / k]! = d[t / k] := getElem!_pos d _ hi
    rw [e1]
    have h2 : t % k < (enc d[t / k]).length := by rw [hk]; exact hc
    rw [getElem!_pos (enc d[t / k]) _ h2, List.getElem?_eq_getElem h2]
  · rw [Array.getElem?_eq_none (by simp; omega), Array.getElem?_eq_none (by simp only [List.size_toArray]; omega)]

theorem sortC_of {P : Program} {ρ : Ren} (L : SlLaysF0.n6 P ρ) {g k κ : Nat} (hk0 : 0 < k) (aE : ∀ w, (isAgg (ρ.t 24)).run P w = .ok true w) (zE : ∀ w, (Go.sizeOf (ρ.t 24)).run P w = .ok k w)
    (hfn : ∃ fn, P.funcs[ρ.f 6]? = some fn ∧ fn.body.isNone = false ∧ (fn.name == "runtime.NumGoroutine") = false) (eg : ∀ args w, (callFunc g args).run P w = .ok (.enter g args) w) (hg : CmpOK P g k κ) : SortC P (ρ.f 6) g k κ where
  fn := hfn
  pos := hk0
  nil := fun p cap fv w => AnyF.slices_SortFunc_none L p cap fv w
  some := fun blk off cap ps w hKV hne hH hblk hsz => by
    haveI : Inhabited {r : List Value // r ∈ ps} := ⟨⟨ps.head hne, List.head_mem hne⟩⟩
    have hkey : ∀ x : {r : List Value // r ∈ ps}, ∃ z, x.1[κ]? = some (.int .i64 z) ∧ keyV κ x.1 = z ∧ -4611686018427387904 ≤ z ∧ z ≤ 4611686018427387903 := fun x => by
      obtain ⟨_, _, z, h1, h2, h3⟩ := hKV.row x.1 x.2
      exact ⟨z, h1, by simp [keyV, h1], h2, h3⟩
    have hk : ∀ x : {r : List Value // r ∈ ps}, x.1.length = k := fun x => (hKV.row x.1 x.2).1
    have hlt : ∀ x y : {r : List Value // r ∈ ps}, ltOf (fun x y : {r : List Value // r ∈ ps} => keyV κ x.1 - keyV κ y.1) x y = decide (keyV κ x.1 < keyV κ y.1) := fun x y => by
      show decide (keyV κ x.1 - keyV κ y.1 < 0) = decide (keyV κ x.1 < keyV κ y.1)
      by_cases h : keyV κ x.1 < keyV κ y.1
      · rw [decide_eq_true h, decide_eq_true (by omega)]
      · rw [decide_eq_false h, decide_eq_false (by omega)]
    have hT : ∀ x y : {r : List Value // r ∈ ps}, keyV κ x.1 = keyV κ y.1 → x = y := fun x y he => by
      obtain ⟨i, hi, hxi⟩ := List.mem_iff_getElem.1 x.2
      obtain ⟨j, hj, hyj⟩ := List.mem_iff_getElem.1 y.2
      have hnd := hKV.keys
      have hp := List.pairwise_iff_getElem.1 hnd
      have : i = j := by
        rcases Nat.lt_trichotomy i j with h | h | h
        · exact (hp i j (by simpa using hi) (by simpa using hj) h (by simp only [List.getElem_map, hxi, hyj]; exact he)).elim
        · exact h
        · exact (hp j i (by simpa using hj) (by simpa using hi) h (by simp only [List.getElem_map, hxi, hyj]; exact he.symm)).elim
      subst this
      exact Subtype.ext (hxi.symm.trans hyj)
    have hval : (ps.attach.toArray.toList.map fun x : {r : List Value // r ∈ ps} => x.1) = ps := by simp
    have hcon := AnyQ.slices_SortFunc_total L k aE zE (fun x : {r : List Value // r ∈ ps} => x.1) hk (fun x => (hKV.row x.1 x.2).2.1) (fun x y => keyV κ x.1 - keyV κ y.1)
      ⟨fun x => by rw [hlt]; simp, fun x y z h1 h2 => by rw [hlt] at *; simp at *; omega, fun x y z h1 h2 => by rw [hlt] at *; simp at *; omega⟩ g #[] blk off cap ps.attach.toArray w eg
      (fun m os dk _ x y => by
        obtain ⟨zx, x1, x2, x3, x4⟩ := hkey x
        obtain ⟨zy, y1, y2, y3, y4⟩ := hkey y
        have := hg x.1 y.1 zx zy (hk x) (hk y) x1 y1 x3 x4 y3 y4 (sortWorldK (fun x : {r : List Value // r ∈ ps} => x.1) k w blk off m dk os)
        rw [← x2, ← y2] at this
        exact this)
      (by
        unfold HoldsK
        rw [flatK_flatten _ _ hk, hval]
        exact hH) hblk (by simpa using hsz) (fun x y h1 h2 => hT x y (by rw [hlt] at h1 h2; simp at h1 h2; omega))
    have hs : ps.attach.toArray.size = ps.length := by simp
    rw [hs] at hcon
    refine hcon.mono fun e w' he => ?_
    obtain ⟨rfl, n, os, rfl⟩ := he
    refine ⟨rfl, n, os, ?_⟩
    unfold sortWorldK putRowK
    rw [flatK_flatten _ _ hk]
    have hsort : (ps.attach.mergeSort fun x y => !(ltOf (fun x y : {r : List Value // r ∈ ps} => keyV κ x.1 - keyV κ y.1) y x)) = sortB (fun x : {r : List Value // r ∈ ps} => keyV κ x.1) ps.attach := by
      refine List.Perm.eq_of_pairwise (le := fun x y => keyV κ x.1 ≤ keyV κ y.1) (fun x y _ _ h1 h2 => hT x y (by omega)) ?_ (sortB_sorted _) ((List.mergeSort_perm _ _).trans (sortB_perm _).symm)
      have := List.pairwise_mergeSort (le := fun x y : {r : List Value // r ∈ ps} => !(ltOf (fun x y : {r : List Value // r ∈ ps} => keyV κ x.1 - keyV κ y.1) y x)) (fun a b c h1 h2 => by rw [hlt] at *; simp at *; omega) (fun a b => by rw [hlt, hlt]; simp; omega) ps.attach
      exact this.imp fun h => by rw [hlt] at h; simp at h; exact h
    simp only [List.toList_toArray]
    rw [hsort, sortB_map (fun x : {r : List Value // r ∈ ps} => x.1) ps.attach (fun x _ => rfl)]
    simp

end Go.Lv

namespace Go.Lv

noncomputable def rsQ (m : Mt) : Option (Place × Nat) → Option (Place × Nat)
  | some (p, n) => if n = m.rv p.r then some (p, 0) else none
  | none => none
noncomputable def rsE (m : Mt) (e : Nat) : Nat := if e = m.ep then 1 else 0
noncomputable def rsC (m : Mt) : D → D
  | .list (.cp e q) xs => .list (.cp (rsE m e) (rsQ m q)) xs
  | .lptr t v off => if v = m.al t then .lptr t 0 off else .dead
  | .eptr e q i row off => .eptr (match e with | some e => some (rsE m e) | none => none) (rsQ m q) i row off
  | .stamp _ _ _ => .dead
  | .list (.own n) xs => .list (.own n) xs
  | .list .imm xs => .list .imm xs
  | .int k n => .int k n
  | .bool b => .bool b
  | .str s => .str s
  | .nil => .nil
  | .gptr k o => .gptr k o
  | .nilmap => .nilmap
  | .map k => .map k
  | .fn f cs => .fn f cs
  | .nilfn => .nilfn
  | .agg cs => .agg cs
  | .tup ds => .tup ds
  | .dead => .dead
noncomputable def rsT (m : Mt) (d : D) : D := mapTop (fun _ _ c => rsC m c) d
noncomputable def rsO (m : Mt) : Ob → Ob
  | .box cs => .box (cs.map (rsC m))
  | .map es => .map es
noncomputable def mR (ro : Nat) : Mt := ⟨⟨[]⟩, ⟨[]⟩, ⟨[]⟩, 0, 1, ro⟩
noncomputable def resetS (s : DS) : DS := ⟨s.env.map fun x => (x.1, rsT s.m x.2), s.loc.map fun x => (x.1, x.2.map (rsC s.m)), s.sto.map (rsO s.m), mR s.m.ro⟩

section
variable {P : Program} {T : St} {X : Ctx} {G : Gh} {s : DS} {a : Act} {w : World} {m : Mt}

theorem rsQ_some {q : Option (Place × Nat)} {p : Place} {n : Nat} (h : rsQ m q = some (p, n)) : n = 0 ∧ q = some (p, m.rv p.r) := by
  cases q with
  | none => cases h
  | some q =>
    obtain ⟨p', n'⟩ := q
    simp only [rsQ] at h
    split at h
    · rename_i e
      cases h
      exact ⟨rfl, by rw [e]⟩
    · cases h
theorem rs_vc {p : Place} {d : D} {v : Value} (h : VC w G m p d v) : VC w G (mR m.ro) p (rsC m d) v := by
  cases d with
  | list q xs =>
    cases q with
    | own sz => exact h
    | imm => exact h
    | cp e q =>
      obtain ⟨A, cap, rfl, he, h1, h2⟩ := h
      refine ⟨A, cap, rfl, ?_, fun hee => ?_, fun p n hq => ?_⟩
      · unfold rsE
        show _ ≤ 1
        split <;> omega
      · refine h1 ?_
        unfold rsE at hee
        split at hee
        · assumption
        · cases hee
      · obtain ⟨rfl, hq'⟩ := rsQ_some hq
        obtain ⟨q1, q2, q3⟩ := h2 _ _ hq'
        exact ⟨q1, Nat.zero_le _, fun _ => q3 rfl⟩
  | lptr t n off =>
    obtain ⟨b, rfl, hn, h1⟩ := h
    show VC w G (mR m.ro) p (if n = m.al t then .lptr t 0 off else .dead) _
    split
    · rename_i e
      exact ⟨b, rfl, Nat.zero_le _, fun _ => h1 e⟩
    · exact rfl
  | eptr e q i row off =>
    obtain ⟨b, o, rfl, he, h0, h1, h2⟩ := h
    refine ⟨b, o, rfl, fun n hn => ?_, fun hn => ?_, fun hn => ?_, fun p n hq => ?_⟩
    · cases e with
      | none => cases hn
      | some e =>
        cases hn
        unfold rsE
        show _ ≤ 1
        split <;> omega
    · cases e with
      | none => exact h0 rfl
      | some e => cases hn
    · refine h1 ?_
      cases e with
      | none => exact .inl rfl
      | some e =>
        rcases hn with hn | hn
        · cases hn
        · have hn : rsE m e = 1 := Option.some.inj hn
          unfold rsE at hn
          split at hn
          · rename_i e; exact .inr (by rw [e])
          · cases hn
    · obtain ⟨rfl, hq'⟩ := rsQ_some hq
      obtain ⟨q1, q2, q3⟩ := h2 _ _ hq'
      exact ⟨q1, Nat.zero_le _, fun _ => q3 rfl⟩
  | stamp e k i =>
    obtain ⟨n, rfl, _⟩ := h
    exact rfl
  | agg cs => exact h.elim
  | tup cs => exact h.elim
  | _ => exact h
theorem rs_notagg (d : D) (hd : ∀ cs, d ≠ .agg cs) : ∀ cs, rsC m d ≠ .agg cs := by
  intro cs h
  cases d with
  | list q xs => cases q <;> cases h
  | lptr t n off => simp only [rsC] at h; split at h <;> cases h
  | agg cs => exact hd cs rfl
  | _ => cases h
theorem rs_nottup (d : D) (hd : ∀ cs, d ≠ .tup cs) : ∀ cs, rsC m d ≠ .tup cs := by
  intro cs h
  cases d with
  | list q xs => cases q <;> cases h
  | lptr t n off => simp only [rsC] at h; split at h <;> cases h
  | tup cs => exact hd cs rfl
  | _ => cases h
theorem vp_of_vc {r : Root} {i : Nat} {d : D} {v : Value} (hd : ∀ cs, d ≠ .agg cs) (h : VC w G m ⟨r, i, 0⟩ d v) : VP w G m r i d v := by
  cases d with
  | agg cs => exact (hd cs rfl).elim
  | _ => exact h
theorem vt_of_vp {r : Root} {d : D} {v : Value} (hd : ∀ cs, d ≠ .tup cs) (h : VP w G m r 0 d v) : VT w G m r d v := by
  cases d with
  | tup cs => exact (hd cs rfl).elim
  | _ => exact h
theorem rs_vp {r : Root} {i : Nat} {d : D} {v : Value} (h : VP w G m r i d v) : VP w G (mR m.ro) r i (mapAt (fun _ c => rsC m c) d) v := by
  by_cases hd : ∃ cs, d = .agg cs
  · obtain ⟨cs, rfl⟩ := hd
    obtain ⟨vs, rfl, hl, h1⟩ := h
    refine ⟨vs, rfl, by rw [mapIx_length]; exact hl, fun j d u hd hu => ?_⟩
    rw [mapIx_get] at hd
    obtain ⟨c, hc, rfl⟩ := Option.map_eq_some_iff.1 hd
    exact rs_vc (h1 j c u hc hu)
  · have hd' : ∀ cs, d ≠ .agg cs := fun cs e => hd ⟨cs, e⟩
    have e1 : mapAt (fun _ c => rsC m c) d = rsC m d := by cases d <;> first | rfl | exact (hd' _ rfl).elim
    rw [e1]
    have hv : VC w G m ⟨r, i, 0⟩ d v := by cases d <;> first | exact h | exact (hd' _ rfl).elim
    exact vp_of_vc (rs_notagg d hd') (rs_vc hv)
theorem rs_vt {r : Root} {d : D} {v : Value} (h : VT w G m r d v) : VT w G (mR m.ro) r (rsT m d) v := by
  by_cases hd : ∃ cs, d = .tup cs
  · obtain ⟨ds, rfl⟩ := hd
    obtain ⟨vs, rfl, hl, h1⟩ := h
    refine ⟨vs, rfl, by rw [mapIx_length]; exact hl, fun j d u hd hu => ?_⟩
    rw [mapIx_get] at hd
    obtain ⟨c, hc, rfl⟩ := Option.map_eq_some_iff.1 hd
    exact rs_vp (h1 j c u hc hu)
  · have hd' : ∀ cs, d ≠ .tup cs := fun cs e => hd ⟨cs, e⟩
    have e1 : rsT m d = mapAt (fun _ c => rsC m c) d := by cases d <;> first | rfl | exact (hd' _ rfl).elim
    have hv : VP w G m r 0 d v := by cases d <;> first | exact h | exact (hd' _ rfl).elim
    rw [e1]
    refine vt_of_vp (fun cs => ?_) (rs_vp hv)
    by_cases ha : ∃ es, d = .agg es
    · obtain ⟨es, rfl⟩ := ha
      intro e; cases e
    · have ha' : ∀ cs, d ≠ .agg cs := fun cs e => ha ⟨cs, e⟩
      have e2 : mapAt (fun _ c => rsC m c) d = rsC m d := by cases d <;> first | rfl | exact (ha' _ rfl).elim
      rw [e2]
      exact rs_nottup d hd' cs
theorem rs_box {r : Root} {b : Nat} {cs : List D} (h : BoxV w G m r b cs) : BoxV w G (mR m.ro) r b (cs.map (rsC m)) := by
  intro j d hd
  rw [List.getElem?_map] at hd
  obtain ⟨c, hc, rfl⟩ := Option.map_eq_some_iff.1 hd
  obtain ⟨u, h1, h2, h3⟩ := h j c hc
  exact ⟨u, h1, h2, rs_vc h3⟩
theorem rs_imm {d : D} {v : Value} (h : Imm w G.be G.st (fz d) v) : Imm w G.be G.st (fz (rsC m d)) v := by
  cases d with
  | list q xs =>
    cases q with
    | cp e q => cases h
    | _ => exact h
  | lptr t n off => cases h
  | eptr e q i row off => cases h
  | stamp e k i => cases h
  | _ => exact h
theorem lk_map {α β : Type} (f : α → β) (t : Nat) : ∀ l : List (Nat × α), lk t (l.map fun x => (x.1, f x.2)) = (lk t l).map f
  | [] => rfl
  | x :: r => by
    rw [List.map_cons, lk_cons, lk_cons]
    simp only
    split
    · rfl
    · exact lk_map f t r
theorem Rel.reset (h : Rel X G s a w) : Rel X G (resetS s) a w where
  size := h.size
  defers := h.defers
  env := fun t d ht => by
    have ht' : lk t (s.env.map fun x => (x.1, rsT s.m x.2)) = some d := ht
    rw [lk_map] at ht'
    obtain ⟨c, hc, rfl⟩ := Option.map_eq_some_iff.1 ht'
    exact rs_vt (h.env t c hc)
  loc := fun t cs ht => by
    have ht' : lk t (s.loc.map fun x => (x.1, x.2.map (rsC s.m))) = some cs := ht
    rw [lk_map (fun cs : List D => cs.map (rsC s.m))] at ht'
    obtain ⟨c, hc, rfl⟩ := Option.map_eq_some_iff.1 ht'
    exact ⟨(h.loc t c hc).1, rs_box (h.loc t c hc).2⟩
  sto := fun k o hk => by
    have hk' : (s.sto.map (rsO s.m))[k]? = some o := hk
    rw [List.getElem?_map] at hk'
    obtain ⟨o', ho, rfl⟩ := Option.map_eq_some_iff.1 hk'
    obtain ⟨b, h1, h2, h3, h4⟩ := h.sto k o' ho
    refine ⟨b, h1, h2, h3, ?_⟩
    cases o' with
    | map es => exact h4
    | box cs =>
      simp only [rsO, ObV] at h4 ⊢
      split
      · rename_i hlt
        rw [if_pos hlt] at h4
        intro j d hd
        rw [List.getElem?_map] at hd
        obtain ⟨c, hc, rfl⟩ := Option.map_eq_some_iff.1 hd
        obtain ⟨u, hu, hi⟩ := h4 j c hc
        exact ⟨u, hu, rs_imm hi⟩
      · rename_i hlt
        rw [if_neg hlt] at h4
        exact rs_box h4
  be := fun k hk => h.be k (by simpa [resetS] using hk)
  new := h.new
  stow := h.stow
  std := h.std
  old := h.old
  os := h.os
  tape := h.tape
  output := h.output
  grow := h.grow
  ro := by simpa [resetS] using h.ro
  rom := h.rom
  be0 := h.be0
  n0 := by simpa [resetS] using h.n0
  la0 := h.la0
theorem Ok.reset {c : Code} {Q : Ex → DS → Prop} (h : Ok P T c (resetS s) Q) : Ok P T c s Q := fun X G a w hX hR => h X G a w hX hR.reset
end

end Go.Lv

namespace Go.Lv

noncomputable def fQ {β : Type} (q : Option (Place × Nat)) (k : Option (Place × Nat) → β) : β := match q with
  | none => k none
  | some (p, n) => fNat p.i fun i => fNat p.j fun j => fNat n fun n => k (some (⟨p.r, i, j⟩, n))
noncomputable def fK {β : Type} (q : Kind) (k : Kind → β) : β := match q with
  | .own n => k (.own n)
  | .cp e p => fNat e fun e => fQ p fun p => k (.cp e p)
  | .imm => k .imm
noncomputable def fC {β : Type} (d : D) (k : D → β) : β := match d with
  | .list q xs => fK q fun q => k (.list q xs)
  | .lptr t v o => fNat t fun t => fNat v fun v => fNat o fun o => k (.lptr t v o)
  | .gptr t o => fNat t fun t => fNat o fun o => k (.gptr t o)
  | .eptr e p i row o => fQ p fun p => fNat o fun o => k (.eptr e p i row o)
  | .int q n => k (.int q n)
  | .bool b => k (.bool b)
  | .str s => k (.str s)
  | .nil => k .nil
  | .nilmap => k .nilmap
  | .map t => k (.map t)
  | .fn f cs => k (.fn f cs)
  | .nilfn => k .nilfn
  | .agg cs => k (.agg cs)
  | .tup ds => k (.tup ds)
  | .stamp a b c => k (.stamp a b c)
  | .dead => k .dead
noncomputable def fP {β : Type} (d : D) (k : D → β) : β := match d with
  | .agg cs => fMap fC cs fun cs => k (.agg cs)
  | d => fC d k
noncomputable def fT {β : Type} (d : D) (k : D → β) : β := match d with
  | .tup ds => fMap fP ds fun ds => k (.tup ds)
  | d => fP d k
noncomputable def fEn {β : Type} (x : Nat × D) (k : Nat × D → β) : β := fNat x.1 fun t => fT x.2 fun d => k (t, d)
noncomputable def fLo {β : Type} (x : Nat × List D) (k : Nat × List D → β) : β := fNat x.1 fun t => fMap fC x.2 fun cs => k (t, cs)
noncomputable def fOb2 {β : Type} (x : Ob) (k : Ob → β) : β := match x with
  | .box cs => fMap fC cs fun cs => k (.box cs)
  | .map es => k (.map es)
noncomputable def fW {β : Type} (s : DS) (k : DS → β) : β := fMap fEn s.env fun env => fMap fLo s.loc fun loc => fMap fOb2 s.sto fun sto => fMt s.m fun m => k ⟨env, loc, sto, m⟩

section
variable {β : Type}
theorem fQ_eq (q : Option (Place × Nat)) (k : Option (Place × Nat) → β) : fQ q k = k q := by
  cases q with
  | none => rfl
  | some x => obtain ⟨⟨r, i, j⟩, n⟩ := x; simp only [fQ, fNat_eq]
theorem fK_eq (q : Kind) (k : Kind → β) : fK q k = k q := by cases q <;> simp only [fK, fNat_eq, fQ_eq]
theorem fC_eq (d : D) (k : D → β) : fC d k = k d := by cases d <;> simp only [fC, fNat_eq, fQ_eq, fK_eq]
theorem fP_eq (d : D) (k : D → β) : fP d k = k d := by
  cases d with
  | agg cs => simp only [fP, fMap_eq fC_eq]
  | _ => simp only [fP, fC_eq]
theorem fT_eq (d : D) (k : D → β) : fT d k = k d := by
  cases d with
  | tup ds => simp only [fT, fMap_eq fP_eq]
  | _ => simp only [fT, fP_eq]
theorem fW_eq (s : DS) (k : DS → β) : fW s k = k s := by
  have h3 : ∀ {γ : Type} (c : Cn) (k : Cn → γ), fCn c k = k c := fun c k => by
    unfold fCn
    rw [fMap_eq (fun x k => by rw [fNat_eq])]
  unfold fW fMt
  rw [fMap_eq (fun x k => by unfold fEn; rw [fNat_eq, fT_eq]), fMap_eq (fun x k => by unfold fLo; rw [fNat_eq, fMap_eq fC_eq]), fMap_eq (fun x k => by cases x <;> simp only [fOb2, fMap_eq fC_eq]), h3, h3, h3, fNat_eq, fNat_eq, fNat_eq]
end

abbrev Ms := List (Nat × Nat × List Nat)

noncomputable def sm (x : Option DS) (K : DS → Prop) : Prop := match x with
  | some s => K s
  | none => False
noncomputable def splitW (c : FC) (dst : Option Nat) (s : DS) (p : Bool) (K : DS → Prop) : Prop :=
  fW s fun s => (p = true → sm (put c dst (.bool true) s) K) ∧ (p = false → sm (put c dst (.bool false) s) K)
noncomputable def valW (c : FC) (dst : Option Nat) (s : DS) (d : D) (K : DS → Prop) : Prop := match d with
  | .bool p => splitW c dst s p K
  | d => sm (put c dst d s) K
noncomputable def binW (T : St) (s : DS) (dst : Option Nat) (op : BinOp) (t : Nat) (x y : Operand) (K : DS → Prop) : Prop :=
  match lookO s x, lookO s y with
  | some a, some b => match binD T.L t op a b with
    | some d => valW T.c dst s d K
    | none => False
  | _, _ => False
noncomputable def askW (T : St) (s : DS) (dst : Option Nat) (op : BinOp) (t : Nat) (x y : Operand) (K : DS → Prop) : Prop :=
  match lookO s x, lookO s y with
  | some a, some b => ∃ d, binD T.L t op a b = some d ∧ valW T.c dst s d K
  | _, _ => False
noncomputable def fsD (c : FC) : Option Nat → Bool
  | some t => c.fs.contains t
  | none => false
noncomputable def idxW (T : St) (s : DS) (dst : Option Nat) (t : Nat) (xo : Operand) (x i : D) (K : DS → Prop) : Prop :=
  match T.L.tk t, x, i with
  | .slice e, .list q xs, .int _ n => ∃ ys row, lsD s (.list q xs) = some ys ∧ 0 ≤ n ∧ ys[n.toNat]? = some row ∧ row.length = T.L.size e ∧ 0 < T.L.size e ∧
      (match q with
      | .imm => sm (put T.c dst (.eptr none none n.toNat row 0) s) K
      | .cp _ p => sm (put T.c dst (.eptr (some s.m.ep) p n.toNat row 0) s) K
      | .own _ => match xo with
        | .tmp u => sm (put T.c dst (.eptr (some s.m.ep) (some (⟨.slot u, 0, 0⟩, s.m.vr u)) n.toNat row 0) s) K
        | _ => False)
  | _, x, i => ∃ d, indexAddrD T.L s t xo x i = some d ∧ sm (put T.c dst d s) K
noncomputable def loadW (T : St) (s : DS) (dst : Option Nat) (t : Nat) (a : D) (K : DS → Prop) : Prop := match a with
  | .eptr e (some p) i row off => ∃ cs d, readD T.ro s (.eptr e (some p) i row off) (T.L.size t) = some cs ∧ cs.any isOwn = false ∧ ofCells T.L t cs = some d ∧ sm (put T.c dst d s) K
  | a => sm (loadD T.L T.c T.ro s dst t a) K
noncomputable def lookW (T : St) (s : DS) (dst : Option Nat) (t : Nat) (mp key : D) (ok : Bool) (K : DS → Prop) : Prop :=
  match T.L.tk t, mapEs s mp with
  | .map kt e, some es => match zeroD T.L e with
    | some z => keyT T.L kt key = true ∧ ∃ r, findE T.L kt key es = some r ∧ sm (put T.c dst (if ok then .tup [r.getD z, .bool r.isSome] else r.getD z) s) K
    | none => False
  | _, _ => False
noncomputable def updW (T : St) (s : DS) (dst : Option Nat) (t : Nat) (mp key v : D) (K : DS → Prop) : Prop :=
  match T.L.tk t, mp with
  | .map kt _, .map k => match s.sto[k]? with
    | some (.map es) => (T.ro ≤ k ∧ keyT T.L kt key = true ∧ keyC v = true) ∧ ∃ es', setE T.L kt key v es = some es' ∧ sm (voidS T.c dst { s with sto := s.sto.set k (.map es') }) K
    | _ => False
  | _, _ => False
noncomputable def srcL (s : DS) (y : Operand) : Option (List (List D)) := match lookO s y with
  | some (.str b) => some (bytesRows b)
  | some d => lsD s d
  | none => none
noncomputable def appW (T : St) (s : DS) (dst : Option Nat) (x y : Operand) (e : Nat) (K : DS → Prop) : Prop :=
  match srcL s y with
  | none => False
  | some ys => match takeO s x with
    | some (.list (.own sz) xs, s1) =>
      ((sz = 0 || sz = T.L.size e) && decide (0 < T.L.size e) && decide (0 < T.L.bytes e) && (T.L.zero e).isSome) = true ∧ (xs.length + ys.length) * T.L.bytes e ≤ room ∧ allLen (T.L.size e) ys = true ∧
        sm (put T.c dst (.list (.own (T.L.size e)) (xs ++ ys)) s1) K
    | _ => False
noncomputable def callW (P : Program) (T : St) (M : Ms) (s : DS) (dst : Option Nat) (f : Nat) (caps : List D) (args : List Operand) (K : DS → Prop) : Prop :=
  match lk f M with
  | some (2, _) => ∃ ds, lendL s args = some ds ∧ (isNilL caps && (s.sto.drop T.ro).all boxSt) = true ∧ Tri P f s.sto.length ds s.sto fun d l => l = s.sto ∧ flatT d = true ∧ sm (put T.c dst (unlD s.m.ep d) s) K
  | some (m, oa) => match takeL s args with
    | some (ds, s1) => fNat (match m with | 0 => s.sto.length | _ => T.ro) fun r => fMap fT (frzA oa 0 ds) fun ds => (ds.all cellsOK && stoOK T.ro r s.sto) = true ∧ T.ro ≤ r ∧
        Tri P f r (ds ++ caps) s.sto fun d l => partsOK d = true ∧ (∀ k, k < r → l[k]? = s.sto[k]?) ∧ (l.drop r).all boxOK = true ∧ sm (put T.c dst d (afterC s1 r ds l)) K
    | none => False
  | none => match takeL s args with
    | some (ds, s1) => fNat s.sto.length fun r => fMap fT (frzA [] 0 ds) fun ds => (ds.all cellsOK && stoOK T.ro r s.sto) = true ∧ T.ro ≤ r ∧
        Tri P f r (ds ++ caps) s.sto fun d l => partsOK d = true ∧ (∀ k, k < r → l[k]? = s.sto[k]?) ∧ (l.drop r).all boxOK = true ∧ sm (put T.c dst d (afterC s1 r ds l)) K
    | none => False
noncomputable def storeW (T : St) (s : DS) (o : Oper) (t : Nat) (a v : D) (K : DS → Prop) : Prop := match a with
  | .eptr e (some q) i row off => ∃ s2, storeD T.L T.c T.ro s t (.eptr e (some q) i row off) v = some s2 ∧ sm (voidS T.c o.dst s2) K
  | a => sm (match storeD T.L T.c T.ro s t a v with | some s2 => voidS T.c o.dst s2 | none => none) K
noncomputable def anyW (T : St) (s : DS) (o : Oper) (K : DS → Prop) : Prop := ∃ s1, opD T.L T.c T.ro s o = some s1 ∧ fW s1 K
noncomputable def makeW (T : St) (s : DS) (o : Oper) (t : Nat) (n m : Operand) (K : DS → Prop) : Prop := match T.L.tk t with
  | .slice e => match lookO s n, lookO s m, T.L.zero e with
    | some (.int _ a), some (.int _ b), some z => (0 ≤ a ∧ a ≤ b ∧ b * T.L.bytes e ≤ 2 * room ∧ b ≤ 9223372036854775807 ∧ 0 < T.L.size e) ∧ sm (put T.c o.dst (.list (.own (T.L.size e)) (List.replicate a.toNat (z.map fz))) s) K
    | _, _, _ => False
  | _ => False
noncomputable def bW (s : DS) (x : Option Operand) (dflt most : Nat) (K : Nat → Prop) : Prop := match x with
  | none => dflt ≤ most ∧ K dflt
  | some x => match lookO s x with
    | some (.int _ i) => (0 ≤ i ∧ i ≤ most) ∧ K i.toNat
    | _ => False
noncomputable def sliceW (T : St) (s : DS) (o : Oper) (t : Nat) (x : Operand) (lo hi mx : Option Operand) (K : DS → Prop) : Prop := match mx, T.L.tk t, lookO s x with
  | none, .slice e, some (.list .imm xs) => bW s hi xs.length xs.length fun h => bW s lo 0 h fun l => 0 < T.L.size e ∧ allLen (T.L.size e) xs = true ∧ sm (put T.c o.dst (.list .imm ((xs.drop l).take (h - l))) s) K
  | _, _, _ => anyW T s o K
noncomputable def wOp (P : Program) (T : St) (M : Ms) (s : DS) (o : Oper) (K : DS → Prop) : Prop :=
  match o.op with
  | .binOp op t x y _ => match fsD T.c o.dst with
    | true => askW T s o.dst op t x y K
    | false => binW T s o.dst op t x y K
  | .indexAddr t x i => match lookO s x, lookO s i with
    | some a, some b => idxW T s o.dst t x a b K
    | _, _ => False
  | .index t x i => match lookO s x, lookO s i with
    | some a, some b => ∃ d, indexD T.L t a b = some d ∧ sm (put T.c o.dst d s) K
    | _, _ => False
  | .load t a => match lookO s a with
    | some ad => loadW T s o.dst t ad K
    | none => False
  | .store t a v => match takeO s v with
    | some (d, s1) => match lookO s1 a with
      | some ad => storeW T s1 o t ad (if fsO T.c v then fzTop d else d) K
      | none => False
    | none => False
  | .lookup t m k ok => match lookO s m, lookO s k with
    | some a, some b => lookW T s o.dst t a b ok K
    | _, _ => False
  | .mapUpdate t m k x => match lookO s m, lookO s k, lookO s x with
    | some a, some b, some v => updW T s o.dst t a b v K
    | _, _, _ => False
  | .call { callee := .value x, args, argTypes } => match lookO s x with
    | some (.fn f caps) => match lk f M with
      | some (3, _) => fW s fun s => OpOk P T o s K
      | _ => callW P T M s o.dst f caps args.toList K
    | _ => False
  | .call { callee := .builtin .append, args, argTypes } => match args.toList, argTypes.toList with
    | [x, y], [t, u] => match T.L.tk t with
      | .slice e => (match T.L.tk u with | .slice _ => True | .str => True | _ => False) ∧ appW T s o.dst x y e K
      | _ => False
    | _, _ => False
  | .call { callee := .builtin .copy, args, argTypes } => anyW T s o K
  | .slice t x lo hi mx => sliceW T s o t x lo hi mx K
  | .mapEntry _ _ _ => anyW T s o K
  | .entryStore _ _ _ _ => anyW T s o K
  | .makeSlice t n m => makeW T s o t n m K
  | .convert a b _ => match T.L.tk a, T.L.tk b with
    | .int _, .int _ => sm (opD T.L T.c T.ro s o) K
    | _, _ => anyW T s o K
  | _ => sm (opD T.L T.c T.ro s o) K
noncomputable def wStep (P : Program) (T : St) (M : Ms) (ops : Array Oper) (i : Nat) (s : DS) (K : DS → Prop) : Prop := match ops[i]? with
  | none => False
  | some o => match wantD ops s o with
    | some true => wOp P T M s o K
    | some false => sm (put T.c o.dst (.tup []) s) K
    | none => False
noncomputable def wOps (P : Program) (T : St) (M : Ms) (ops : Array Oper) : List Nat → DS → (DS → Prop) → Prop
  | [], s, K => K s
  | i :: r, s, K => wStep P T M ops i s fun s1 => wOps P T M ops r s1 K
noncomputable def nrm (lv : List Nat) (s : DS) (K : DS → Prop) : Prop := fW (resetS (prune lv s)) K
noncomputable def riskK : Op → Bool
  | .indexAddr _ _ _ | .index _ _ _ | .slice _ _ _ _ _ | .lookup _ _ _ _ | .load _ _ => true
  | _ => false
structure DrT where
  al : Nat
  dep : List Nat
  bef : List Nat
noncomputable def bitN (m i : Nat) : Bool := Nat.beq (Nat.mod (Nat.shiftRight m i) 2) 1
noncomputable def tabOK (ops : Array Oper) (tb : DrT) : Bool :=
  ((List.range ops.size).all fun i => !bitN tb.al i || aloneK ops i) &&
  (((List.range ops.size).all fun i => match tb.dep[i]?, depO ops i with | some d, some d' => Nat.beq d d' | _, _ => false) &&
  (List.range ops.size).all fun j => match tb.bef[j]? with | some b => Nat.beq b (mskL (befF ops (List.range j).reverse [j])) | none => false)
noncomputable def rdyT (tb : DrT) (L : List Nat) (i : Nat) : Bool := match tb.dep[i]? with
  | some d => Nat.beq (Nat.land d (mskL L)) d
  | none => false
noncomputable def dropT (tb : DrT) (j : Nat) (V : List Nat) : List Nat := match tb.bef[j]? with
  | some b => V.filter fun i => !bitN b i
  | none => []
noncomputable def readyT (tb : DrT) (n : Nat) (L : List Nat) : List Nat := (List.range n).filter fun j => !hasB L j && rdyT tb L j
noncomputable def eyeS (ops : Array Oper) (s : DS) (o : Oper) : DS := { s with env := keep (o.looksAt ops) s.env }
noncomputable def riskR (T : St) (ops : Array Oper) (t : Nat) (s : DS) (o : Oper) : Bool :=
  riskK o.op && ((match o.op with | .load _ a => (match lookO (eyeS ops s o) a with | some (.eptr _ (some _) _ _ _) => true | _ => false) | _ => true) && (match wantD ops (eyeS ops s o) o with | some b => b | none => false))
noncomputable def riskC (T : St) (ops : Array Oper) (t : Nat) (s : DS) (o : Oper) : Bool :=
  decide (t < T.c.n) && !(o.looksAt ops).contains t && (roK T.L o.op && !T.c.xf.contains t && ((T.c.la && lookK o.op) || !(o.op.operands.toList.any fun x => isOwnO (eyeS ops s o) x)))
noncomputable def stillW (P : Program) (T : St) (M : Ms) (ops : Array Oper) (s s1 : DS) : List Nat → Prop
  | [] => True
  | i :: V => (match ops[i]? with
    | some o => match o.dst with
      | some t => match riskR T ops t s1 o && riskC T ops t s1 o with
        | true => wOp P T M (eyeS ops s1 o) o fun s2 => match lk t s2.env with
          | some d => hasOwn d = false ∧ lk t s.env = some d ∧ lk t s1.env = some d
          | none => False
        | false => roV T ops s1 i = roV T ops s i ∧ lk t s1.env = lk t s.env
      | none => True
    | none => True) ∧ stillW P T M ops s s1 V
noncomputable def firstA (T : St) (ops : Array Oper) (tb : DrT) (L : List Nat) (s : DS) : List Nat → Option (Nat × Nat × Option D)
  | [] => none
  | i :: r => match ops[i]? with
    | none => firstA T ops tb L s r
    | some o => match o.dst with
      | none => firstA T ops tb L s r
      | some t => match bitN tb.al i && !hasB L i && rdyT tb L i && !ownAt t s.env with
        | true => match riskR T ops t s o with
          | true => match riskC T ops t s o with
            | true => some (i, t, none)
            | false => firstA T ops tb L s r
          | false => match roV T ops s i with
            | some d => some (i, t, some d)
            | none => firstA T ops tb L s r
        | false => firstA T ops tb L s r
noncomputable def aheadK (t : Nat) (s : DS) (d : D) (K : DS → Prop) : Prop := match d with
  | .bool p => (p = true → K (putS t (.bool true) s)) ∧ (p = false → K (putS t (.bool false) s))
  | d => K (putS t d s)
noncomputable def drawJ (P : Program) (T : St) (M : Ms) (ops : Array Oper) (tb : DrT) (L V : List Nat) (s : DS) (K : List Nat → List Nat → DS → Prop) : List Nat → Prop
  | [] => True
  | j :: r => wStep P T M ops j s (fun s1 => fW s1 fun s1 => stillW P T M ops s s1 (dropT tb j V) ∧ K (j :: L) (dropT tb j V) s1) ∧ drawJ P T M ops tb L V s K r
noncomputable def drawW (P : Program) (T : St) (M : Ms) (ops : Array Oper) (tb : DrT) : Nat → List Nat → List Nat → DS → (DS → Prop) → Prop
  | 0, _, _, _, _ => False
  | n + 1, L, V, s, K => match allIn ops.size L with
    | true => K s
    | false => match firstA T ops tb L s (List.range ops.size) with
      | some (i, t, some d) => aheadK t s d fun s1 => fW s1 fun s1 => drawW P T M ops tb n (i :: L) (i :: V) s1 K
      | some (i, t, none) => match ops[i]? with
        | some o => wOp P T M (eyeS ops s o) o fun s1 => match lk t s1.env with
          | some d => hasOwn d = false ∧ aheadK t s d fun s1 => fW s1 fun s1 => drawW P T M ops tb n (i :: L) (i :: V) s1 K
          | none => False
        | none => False
      | none => match readyT tb ops.size L with
        | [] => False
        | js => drawJ P T M ops tb L V s (fun L V s1 => drawW P T M ops tb n L V s1 K) js
noncomputable def sm2 (x : Option (D × DS)) (R : D → List Ob → Prop) : Prop := match x with
  | some (d, s) => fT d fun d => fMap fOb2 s.sto fun sto => R d sto
  | none => False
noncomputable def isRange (o : Oper) : Bool := match o.op with
  | .range _ _ => true
  | _ => false
noncomputable def rangeC : Code → Bool
  | .region _ ops false => ops.toList.any isRange
  | _ => false
noncomputable def wC (P : Program) (T : St) (M : Ms) (lv : List Nat) : Code → DS → (Ex → DS → Prop) → Prop
  | .skip, s, Q => Q .nx s
  | .label _, s, Q => Q .nx s
  | .exit id, s, Q => Q (.out id) s
  | .ret, s, Q => Q .ret s
  | .seq x y, s, Q => match rangeC x with
    | true => fW s fun s => Ok P T (.seq x y) s Q
    | false => wC P T M lv x s (Ex.then (fun s1 => wC P T M lv y s1 Q) Q)
  | .cond c x y, s, Q => match lookO s c with
    | some (.bool true) => wC P T M lv x s Q
    | some (.bool false) => wC P T M lv y s Q
    | _ => False
  | .block id c, s, Q => wC P T M lv c s (Ex.blk id Q)
  | .scope c, s, Q => wC P T M lv c s Q
  | .region id ops false, s, Q => wOps P T M ops (List.range ops.size) s fun s1 => nrm lv s1 (Q .nx)
  | .region id ops true, s, Q => ∃ tb, (wfK ops && tabOK ops tb) = true ∧ drawW P T M ops tb (ops.size + ops.size + 1) [] [] s fun s1 => nrm lv s1 (Q .nx)
  | c, s, Q => Ok P T c s Q

section
variable {P : Program} {T : St} {X : Ctx} {G : Gh} {M : Ms} {s s1 : DS} {a : Act} {w : World} {o : Oper} {ops : Array Oper} {K K' : DS → Prop} {Q : Ex → DS → Prop}

theorem sm_inv {x : Option DS} (h : sm x K) : ∃ s, x = some s ∧ K s := by
  unfold sm at h
  split at h
  · exact ⟨_, rfl, h⟩
  · exact h.elim
theorem sm_iff {x : Option DS} : sm x K ↔ ∃ s, x = some s ∧ K s := ⟨sm_inv, fun ⟨s, h, k⟩ => by subst h; exact k⟩
theorem valW_inv {c : FC} {dst : Option Nat} {d : D} (h : valW c dst s d K) : sm (put c dst d s) K := by
  unfold valW at h
  split at h
  · rename_i p
    unfold splitW at h
    rw [fW_eq] at h
    cases p with
    | true => exact h.1 rfl
    | false => exact h.2 rfl
  · exact h
theorem bW_inv {x : Option Operand} {d m : Nat} {K : Nat → Prop} (h : bW s x d m K) : ∃ n, bndD s x d m = some n ∧ K n := by
  unfold bW at h
  unfold bndD
  cases x with
  | none => exact ⟨d, by simp only; rw [if_pos h.1], h.2⟩
  | some x =>
    simp only at h ⊢
    split at h
    · rename_i k i hx
      exact ⟨i.toNat, by rw [hx]; simp only; rw [if_pos h.1], h.2⟩
    · exact h.elim
theorem sliceW_sm {t : Nat} {x : Operand} {lo hi mx : Option Operand} (ho : o.op = .slice t x lo hi mx) (h : sliceW T s o t x lo hi mx K) : Lv.sm (opD T.L T.c T.ro s o) K := by
  unfold sliceW at h
  split at h
  · rename_i e xs htk hx
    obtain ⟨hh, h1, h⟩ := bW_inv h
    obtain ⟨l, h2, h3, h4, h5⟩ := bW_inv h
    simp only [opD, ho, htk, sliceLsD, hx, lsD]
    rw [if_pos ⟨h3, h4⟩]
    simp only [h1, h2]
    exact h5
  · obtain ⟨s1, h1, h2⟩ := h
    rw [fW_eq] at h2
    exact sm_iff.2 ⟨s1, h1, h2⟩
theorem makeW_sm {t : Nat} {n m : Operand} (ho : o.op = .makeSlice t n m) (h : makeW T s o t n m K) : Lv.sm (opD T.L T.c T.ro s o) K := by
  unfold makeW at h
  split at h
  · rename_i e htk
    split at h
    · rename_i k a k' b z hn hm hz
      obtain ⟨h1, h2⟩ := h
      simp only [opD, ho, htk, hn, hm, hz]
      rw [if_pos h1]
      exact h2
    · exact h.elim
  · exact h.elim
theorem OpOk.sm (H : LyOK P T.L) (h : Lv.sm (opD T.L T.c T.ro s o) K) : OpOk P T o s K := by
  obtain ⟨s1, h1, h2⟩ := sm_inv h
  exact OpOk.op H h1 h2
theorem idxD_of {k : IntKind} {n : Int} {ys : List (List D)} {row : List D} (h0 : 0 ≤ n) (h : ys[n.toNat]? = some row) : idxD (.int k n) ys.length = some n.toNat := by
  have hlt := (List.getElem?_eq_some_iff.1 h).1
  show (if 0 ≤ n ∧ n < (ys.length : Int) then some n.toNat else none) = _
  rw [if_pos ⟨h0, by omega⟩]
theorem wOp_read (hk : riskK o.op = true) (h : wOp P T M s o K) : sm (opD T.L T.c T.ro s o) K := by
  unfold wOp at h
  split at h
  · rename_i op t x y z ho
    rw [ho] at hk
    cases hk
  · rename_i t x i ho
    split at h
    · rename_i a b ha hb
      unfold idxW at h
      split at h
      · rename_i e q xs k n htk
        obtain ⟨ys, row, h1, h2, h3, h4, h5, h6⟩ := h
        have hi := idxD_of (k := k) h2 h3
        cases q with
        | imm =>
          simp only [opD, ho, ha, hb, indexAddrD, htk, h1, hi, h3]
          rw [if_pos ⟨h4, h5⟩]
          exact h6
        | cp e p =>
          simp only [opD, ho, ha, hb, indexAddrD, htk, h1, hi, h3]
          rw [if_pos ⟨h4, h5⟩]
          exact h6
        | own sz =>
          simp only [opD, ho, ha, hb, indexAddrD, htk, h1, hi, h3]
          rw [if_pos ⟨h4, h5⟩]
          simp only at h6
          split at h6
          · exact h6
          · exact h6.elim
      · obtain ⟨d, h1, h2⟩ := h
        simp only [opD, ho, ha, hb, h1]
        exact h2
    · exact h.elim
  · rename_i t x i ho
    split at h
    · rename_i a b ha hb
      obtain ⟨d, h1, h2⟩ := h
      simp only [opD, ho, ha, hb, h1]
      exact h2
    · exact h.elim
  · rename_i t x ho
    split at h
    · rename_i ad ha
      unfold loadW at h
      split at h
      · rename_i e p i row off
        obtain ⟨cs, d, h1, h2, h3, h4⟩ := h
        simp only [opD, ho, ha, loadD, h1, h2, h3]
        exact h4
      · skip
        simp only [opD, ho, ha]
        exact h
    · exact h.elim
  · rename_i t a v ho
    rw [ho] at hk
    cases hk
  · rename_i t m k ok ho
    split at h
    · rename_i a b ha hb
      unfold lookW at h
      split at h
      · rename_i kt e es htk hes
        split at h
        · rename_i z hz
          obtain ⟨h1, r, h2, h3⟩ := h
          simp only [opD, ho, ha, hb, lookupD, htk, hes, h1, if_true, h2, hz]
          exact h3
        · exact h.elim
      · exact h.elim
    · exact h.elim
  · rename_i t m k x ho
    rw [ho] at hk
    cases hk
  · rename_i x args tys ho
    rw [ho] at hk
    cases hk
  · rename_i args tys ho
    rw [ho] at hk
    cases hk
  all_goals first
    | exact sliceW_sm (by assumption) h
    | exact makeW_sm (by assumption) h
    | (obtain ⟨s1, h1, h2⟩ := h; rw [fW_eq] at h2; exact sm_iff.2 ⟨s1, h1, h2⟩)
    | exact h
    | (split at h <;> first | exact h | (obtain ⟨s1, h1, h2⟩ := h; rw [fW_eq] at h2; exact sm_iff.2 ⟨s1, h1, h2⟩))
theorem wOp_ok (H : LyOK P T.L) (h : wOp P T M s o K) : OpOk P T o s K := by
  unfold wOp at h
  split at h
  · rename_i op t x y z ho
    split at h
    · unfold askW at h
      split at h
      · rename_i a b ha hb
        obtain ⟨d, hd, h⟩ := h
        refine OpOk.sm H ?_
        simp only [opD, ho, ha, hb, hd]
        exact valW_inv h
      · exact h.elim
    unfold binW at h
    split at h
    · rename_i a b ha hb
      split at h
      · rename_i d hd
        refine OpOk.sm H ?_
        simp only [opD, ho, ha, hb, hd]
        exact valW_inv h
      · exact h.elim
    · exact h.elim
  · rename_i t x i ho
    split at h
    · rename_i a b ha hb
      unfold idxW at h
      split at h
      · rename_i e q xs k n htk
        obtain ⟨ys, row, h1, h2, h3, h4, h5, h6⟩ := h
        refine OpOk.sm H ?_
        have hi := idxD_of (k := k) h2 h3
        cases q with
        | imm =>
          simp only [opD, ho, ha, hb, indexAddrD, htk, h1, hi, h3]
          rw [if_pos ⟨h4, h5⟩]
          exact h6
        | cp e p =>
          simp only [opD, ho, ha, hb, indexAddrD, htk, h1, hi, h3]
          rw [if_pos ⟨h4, h5⟩]
          exact h6
        | own sz =>
          simp only [opD, ho, ha, hb, indexAddrD, htk, h1, hi, h3]
          rw [if_pos ⟨h4, h5⟩]
          simp only at h6
          split at h6
          · exact h6
          · exact h6.elim
      · obtain ⟨d, h1, h2⟩ := h
        refine OpOk.sm H ?_
        simp only [opD, ho, ha, hb, h1]
        exact h2
    · exact h.elim
  · rename_i t x i ho
    split at h
    · rename_i a b ha hb
      obtain ⟨d, h1, h2⟩ := h
      refine OpOk.sm H ?_
      simp only [opD, ho, ha, hb, h1]
      exact h2
    · exact h.elim
  · rename_i t x ho
    split at h
    · rename_i ad ha
      unfold loadW at h
      split at h
      · rename_i e p i row off
        obtain ⟨cs, d, h1, h2, h3, h4⟩ := h
        refine OpOk.sm H ?_
        simp only [opD, ho, ha, loadD, h1, h2, h3]
        exact h4
      · refine OpOk.sm H ?_
        simp only [opD, ho, ha]
        exact h
    · exact h.elim
  · rename_i t a v ho
    split at h
    · rename_i d s1 htake
      split at h
      · rename_i ad ha
        refine OpOk.sm H ?_
        unfold storeW at h
        simp only [opD, ho, htake, ha]
        split at h
        · obtain ⟨s2, h1, h2⟩ := h
          simp only [h1]
          exact h2
        · exact h
      · exact h.elim
    · exact h.elim
  · rename_i t m k ok ho
    split at h
    · rename_i a b ha hb
      unfold lookW at h
      split at h
      · rename_i kt e es htk hes
        split at h
        · rename_i z hz
          obtain ⟨h1, r, h2, h3⟩ := h
          refine OpOk.sm H ?_
          simp only [opD, ho, ha, hb, lookupD, htk, hes, h1, if_true, h2, hz]
          exact h3
        · exact h.elim
      · exact h.elim
    · exact h.elim
  · rename_i t m k x ho
    split at h
    · rename_i a b v ha hb hv
      unfold updW at h
      split at h
      · rename_i kt e k' htk
        split at h
        · rename_i es hes
          obtain ⟨⟨h1, h2, h3⟩, es', h4, h5⟩ := h
          refine OpOk.sm H ?_
          simp only [opD, ho, ha, hb, hv, mapUpdateD, htk, h1, h2, h3, decide_true, Bool.and_self, if_true, hes, h4]
          exact h5
        · exact h.elim
      · exact h.elim
    · exact h.elim
  · rename_i x args tys ho
    split at h
    · rename_i f caps hx
      split at h
      · rw [fW_eq] at h; exact h
      have give : ∀ (oa : List Nat) (m : Nat), (match takeL s args.toList with
          | some (ds, s1) => fNat (match m with | 0 => s.sto.length | _ => T.ro) fun r => fMap fT (frzA oa 0 ds) fun ds => (ds.all cellsOK && stoOK T.ro r s.sto) = true ∧ T.ro ≤ r ∧
            Tri P f r (ds ++ caps) s.sto fun d l => partsOK d = true ∧ (∀ k, k < r → l[k]? = s.sto[k]?) ∧ (l.drop r).all boxOK = true ∧ Lv.sm (put T.c o.dst d (afterC s1 r ds l)) K
          | none => False) → OpOk P T o s K := by
        intro oa m h
        split at h
        · rename_i ds s1 ht
          rw [fNat_eq, fMap_eq fT_eq] at h
          obtain ⟨h1, h2, h3⟩ := h
          rw [Bool.and_eq_true] at h1
          refine OpOk.call ho oa hx ht h1.1 h1.2 h2 h3 fun d l hd _ => ?_
          obtain ⟨q1, q2, q3, q4⟩ := hd
          exact ⟨q1, q2, q3, sm_inv q4⟩
        · exact h.elim
      unfold callW at h
      split at h
      · obtain ⟨ds, ht, h1, h3⟩ := h
        rw [Bool.and_eq_true] at h1
        have hc : caps = [] := by
          cases caps with
          | nil => rfl
          | cons c cs => exact absurd h1.1 (by simp [isNilL])
        subst hc
        refine OpOk.callL ho hx ht h1.2 h3 fun d l hd => ?_
        obtain ⟨q1, q2, q3⟩ := hd
        exact ⟨q1, q2, sm_inv q3⟩
      · rename_i m oa _ _
        exact give oa m h
      · exact give [] 0 h
    · exact h.elim
  · rename_i args tys ho
    split at h
    · rename_i x y t u hargs htys
      split at h
      · rename_i e htk
        obtain ⟨hu, h⟩ := h
        refine OpOk.sm H ?_
        have hop : opD T.L T.c T.ro s o = appendD T.L T.c s o.dst e x y := by
          simp only [opD, ho, builtinD, hargs, htys, appendOp, htk]
          split at hu
          · rename_i hk; simp only [hk]
          · rename_i hk; simp only [hk]
          · exact hu.elim
        rw [hop]
        unfold appW at h
        have hsrc : ∀ z, srcL s y = z → appendD T.L T.c s o.dst e x y = (match z with
            | none => none
            | some ys => match takeO s x with
              | some (.list (.own sz) xs, s1) =>
                if (sz = 0 || sz = T.L.size e) && decide (0 < T.L.size e) && decide (0 < T.L.bytes e) && decide ((xs.length + ys.length) * T.L.bytes e ≤ room) && allLen (T.L.size e) ys && (T.L.zero e).isSome then
                  put T.c o.dst (.list (.own (T.L.size e)) (xs ++ ys)) s1
                else none
              | _ => none) := fun z hz => by subst hz; rfl
        split at h
        · exact h.elim
        · rename_i ys hys
          rw [hsrc _ hys]
          simp only
          split at h
          · rename_i sz xs s1 htake
            obtain ⟨h1, h2, h3, h4⟩ := h
            rw [if_pos (by
              simp only [Bool.and_eq_true, decide_eq_true_eq] at h1 ⊢
              exact ⟨⟨⟨h1.1, h2⟩, h3⟩, h1.2⟩)]
            exact h4
          · exact h.elim
      · exact h.elim
    · exact h.elim
  all_goals first
    | exact OpOk.sm H (sliceW_sm (by assumption) h)
    | exact OpOk.sm H (makeW_sm (by assumption) h)
    | (obtain ⟨s1, h1, h2⟩ := h; rw [fW_eq] at h2; exact OpOk.op H h1 h2)
    | exact OpOk.sm H h
    | (split at h <;> first | exact OpOk.sm H h | (obtain ⟨s1, h1, h2⟩ := h; rw [fW_eq] at h2; exact OpOk.op H h1 h2))
theorem wStep_ok (H : LyOK P T.L) {i : Nat} (h : wStep P T M ops i s K) : stepOk P T ops i s K := by
  unfold wStep at h
  unfold stepOk
  split at h
  · exact h.elim
  · rename_i o ho
    rw [ho]
    simp only
    split at h
    · rename_i hw; rw [hw]; exact wOp_ok H h
    · rename_i hw
      rw [hw]
      obtain ⟨s1, h1, h2⟩ := sm_inv h
      simp only [h1]
      exact h2
    · exact h.elim
theorem wOps_ok (H : LyOK P T.L) : ∀ {l : List Nat} {s : DS}, wOps P T M ops l s K → OpsOk P T ops l s K
  | [], s, h => h
  | i :: r, s, h => by
    have h1 := wStep_ok H (show wStep P T M ops i s (fun s1 => wOps P T M ops r s1 K) from h)
    unfold stepOk at h1
    simp only [OpsOk]
    cases ho : ops[i]? with
    | none => rw [ho] at h1; exact h1.elim
    | some o =>
      rw [ho] at h1
      simp only at h1 ⊢
      cases hw : wantD ops s o with
      | none => rw [hw] at h1; exact h1.elim
      | some b =>
        rw [hw] at h1
        cases b with
        | true => exact OpOk.mono h1 fun s2 h2 => wOps_ok H h2
        | false =>
          simp only at h1 ⊢
          cases hp : put T.c o.dst (.tup []) s with
          | none => rw [hp] at h1; exact h1.elim
          | some s2 => rw [hp] at h1; exact wOps_ok H h1
theorem nrm_ok {c : Code} {lv : List Nat} {Q' : Ex → DS → Prop} (h : Ok P T c s Q') (hq : ∀ x s', Q' x s' → Q x (resetS (prune lv s'))) : Ok P T c s Q := by
  intro X G a w hX hR
  refine wp_mono (h X G a w hX hR) fun e a' w' ⟨x, s', G', h1, h2, h3⟩ => ⟨x, resetS (Lv.prune lv s'), G', h1, hq _ _ h2, ?_⟩
  refine Rel.reset ?_
  unfold Lv.prune
  split
  · exact h3
  · exact h3.less _ s'.loc (fun t d ht => lk_keep lv t _ d ht) (fun _ _ h => h)
theorem tab_alone {tb : DrT} (h : tabOK ops tb = true) {i : Nat} (hi : i < ops.size) (hb : bitN tb.al i = true) : aloneK ops i = true := by
  simp only [tabOK, Bool.and_eq_true] at h
  have := List.all_eq_true.1 h.1 i (List.mem_range.2 hi)
  rw [hb] at this
  simpa using this
theorem tab_rdy {tb : DrT} (h : tabOK ops tb = true) {i : Nat} (hi : i < ops.size) (L : List Nat) : rdyT tb L i = rdy ops L i := by
  simp only [tabOK, Bool.and_eq_true] at h
  have := List.all_eq_true.1 h.2.1 i (List.mem_range.2 hi)
  rw [← rdyF_eq]
  unfold rdyT rdyF
  split at this
  · rename_i d d' h1 h2
    rw [h1, h2, Nat.eq_of_beq_eq_true this]
  · cases this
theorem tab_drop {tb : DrT} (h : tabOK ops tb = true) {j : Nat} (hj : j < ops.size) (V : List Nat) : dropT tb j V = dropB ops j V := by
  simp only [tabOK, Bool.and_eq_true] at h
  have := List.all_eq_true.1 h.2.2 j (List.mem_range.2 hj)
  rw [← dropF_eq]
  unfold dropT dropF
  split at this
  · rename_i b h1
    rw [Nat.eq_of_beq_eq_true this]
    rfl
  · cases this
theorem firstA_some {tb : DrT} {L : List Nat} : ∀ {l : List Nat} {i t : Nat} {d : Option D}, firstA T ops tb L s l = some (i, t, d) →
    i ∈ l ∧ i ∉ L ∧ dstOf ops i = some t ∧ rdyT tb L i = true ∧ bitN tb.al i = true ∧ ownAt t s.env = false ∧ ((∃ d', d = some d' ∧ roV T ops s i = some d') ∨ (d = none ∧ ∃ o, ops[i]? = some o ∧ o.dst = some t ∧ riskR T ops t s o = true ∧ riskC T ops t s o = true))
  | [], i, t, d, h => by cases h
  | k :: r, i, t, d, h => by
    have rec' : ∀ {i t d}, firstA T ops tb L s r = some (i, t, d) → i ∈ k :: r ∧ i ∉ L ∧ dstOf ops i = some t ∧ rdyT tb L i = true ∧ bitN tb.al i = true ∧ ownAt t s.env = false ∧ ((∃ d', d = some d' ∧ roV T ops s i = some d') ∨ (d = none ∧ ∃ o, ops[i]? = some o ∧ o.dst = some t ∧ riskR T ops t s o = true ∧ riskC T ops t s o = true)) := fun h => by
      obtain ⟨h1, h2⟩ := firstA_some h
      exact ⟨by simp [h1], h2⟩
    simp only [firstA] at h
    split at h
    · exact rec' h
    · rename_i o ho
      split at h
      · exact rec' h
      · rename_i t' ht'
        split at h
        · rename_i hg
          rw [hasB_eq] at hg
          simp only [Bool.and_eq_true, Bool.not_eq_true'] at hg
          have base : k ∈ k :: r ∧ k ∉ L ∧ dstOf ops k = some t' ∧ rdyT tb L k = true ∧ bitN tb.al k = true ∧ ownAt t' s.env = false := by
            refine ⟨by simp, fun hm => ?_, by unfold dstOf; rw [ho]; exact ht', hg.1.2, hg.1.1.1, hg.2⟩
            rw [List.contains_iff_mem.2 hm] at hg
            exact absurd hg.1.1.2 (by simp)
          split at h
          · rename_i hr
            split at h
            · rename_i hc
              cases h
              obtain ⟨b1, b2, b3, b4, b5, b6⟩ := base
              exact ⟨b1, b2, b3, b4, b5, b6, .inr ⟨rfl, o, ho, ht', hr, hc⟩⟩
            · exact rec' h
          · split at h
            · rename_i d' hd'
              cases h
              obtain ⟨b1, b2, b3, b4, b5, b6⟩ := base
              exact ⟨b1, b2, b3, b4, b5, b6, .inl ⟨d', rfl, hd'⟩⟩
            · exact rec' h
        · exact rec' h
theorem risk_roV {i t : Nat} {o : Oper} {d : D} {s1 : DS} (ho : ops[i]? = some o) (ht : o.dst = some t) (hr : riskR T ops t s o = true) (hc : riskC T ops t s o = true) (hs : opD T.L T.c T.ro (eyeS ops s o) o = some s1) (hd : lk t s1.env = some d) (hno : hasOwn d = false) : roV T ops s i = some d := by
  unfold riskR at hr
  unfold riskC at hc
  simp only [Bool.and_eq_true] at hr hc
  have hw : wantD ops (eyeS ops s o) o = some true := by
    obtain ⟨_, _, h⟩ := hr
    split at h
    · rename_i b hb; rw [hb, h]
    · cases h
  unfold eyeS at hw hs hc
  unfold roV
  rw [ho]
  simp only [ht]
  rw [if_pos (by simp only [Bool.and_eq_true]; exact hc.1), hw]
  simp only
  rw [if_pos (by simp only [Bool.and_eq_true]; exact hc.2), hs]
  simp only [hd, hno]
  rfl
theorem stillW_ok {V : List Nat} (h : stillW P T M ops s s1 V) : stillV T ops V s s1 := by
  induction V with
  | nil => intro i hi; cases hi
  | cons v V ih =>
    intro i hi
    rcases List.mem_cons.1 hi with e | hi
    · subst e
      intro t d h1 h2 h3
      have h4 := h.1
      unfold dstOf at h1
      obtain ⟨o, ho, hdst⟩ := Option.bind_eq_some_iff.1 h1
      rw [ho] at h4
      simp only [hdst] at h4
      split at h4
      · rename_i hrc
        rw [Bool.and_eq_true] at hrc
        have hk : riskK o.op = true := by
          have := hrc.1
          unfold riskR at this
          simp only [Bool.and_eq_true] at this
          exact this.1
        obtain ⟨s2, q1, q2⟩ := sm_inv (wOp_read hk h4)
        split at q2
        · rename_i d' hd'
          obtain ⟨q3, q4, q5⟩ := q2
          have e : d' = d := by rw [q4] at h3; exact Option.some.inj h3
          subst e
          exact ⟨risk_roV ho hdst hrc.1 hrc.2 q1 hd' q3, q5⟩
        · exact q2.elim
      · exact ⟨h4.1.trans h2, h4.2.trans h3⟩
    · exact ih h.2 i hi
theorem aheadK_inv {t : Nat} {d : D} (h : aheadK t s d K) : K (putS t d s) := by
  unfold aheadK at h
  split at h
  · rename_i p
    cases p with
    | true => exact h.1 rfl
    | false => exact h.2 rfl
  · exact h
theorem drawJ_inv {tb : DrT} {L V : List Nat} {K : List Nat → List Nat → DS → Prop} : ∀ {l : List Nat}, drawJ P T M ops tb L V s K l → ∀ j, j ∈ l → wStep P T M ops j s (fun s1 => fW s1 fun s1 => stillW P T M ops s s1 (dropT tb j V) ∧ K (j :: L) (dropT tb j V) s1)
  | [], _, j, hj => nomatch hj
  | k :: r, h, j, hj => by
    rcases List.mem_cons.1 hj with e | hj
    · subst e; exact h.1
    · exact drawJ_inv h.2 j hj
theorem drawW_ok (H : LyOK P T.L) {tb : DrT} (htb : tabOK ops tb = true) : ∀ {n : Nat} {L V : List Nat} {s : DS}, drawW P T M ops tb n L V s K → Sch P T ops n L V s K
  | 0, L, V, s, h => h.elim
  | n + 1, L, V, s, h => by
    simp only [drawW] at h
    split at h
    · rename_i hall
      exact .inl ⟨fun k hk => List.contains_iff_mem.1 (by rw [← hasB_eq]; exact List.all_eq_true.1 hall k (List.mem_range.2 hk)), h⟩
    · split at h
      · rename_i i t d hf
        obtain ⟨h0, h1, h2, h3, h4, h5, h6⟩ := firstA_some hf
        have hi := List.mem_range.1 h0
        have := aheadK_inv h
        rw [fW_eq] at this
        rcases h6 with ⟨d', e', h6⟩ | ⟨e', _⟩
        · cases e'
          exact .inr (.inl ⟨i, t, d, h1, h2, by rw [← tab_rdy htb hi]; exact h3, tab_alone htb hi h4, h5, h6, drawW_ok H htb this⟩)
        · cases e'
      · rename_i i t hf
        obtain ⟨h0, h1, h2, h3, h4, h5, h6⟩ := firstA_some hf
        have hi := List.mem_range.1 h0
        rcases h6 with ⟨d', e', _⟩ | ⟨_, o, ho, hdst, hr, hc⟩
        · cases e'
        · rw [ho] at h
          simp only at h
          have hk : riskK o.op = true := by
            unfold riskR at hr
            simp only [Bool.and_eq_true] at hr
            exact hr.1
          obtain ⟨s1, q1, q2⟩ := sm_inv (wOp_read hk h)
          split at q2
          · rename_i d hd
            have := aheadK_inv q2.2
            rw [fW_eq] at this
            exact .inr (.inl ⟨i, t, d, h1, h2, by rw [← tab_rdy htb hi]; exact h3, tab_alone htb hi h4, h5, risk_roV ho hdst hr hc q1 hd q2.1, drawW_ok H htb this⟩)
          · exact q2.elim
      · split at h
        · exact h.elim
        · rename_i hne
          have hj := drawJ_inv h
          have hmem : ∀ j, j < ops.size → j ∉ L → rdy ops L j = true → j ∈ readyT tb ops.size L := fun j h1 h2 h3 => by
            refine List.mem_filter.2 ⟨List.mem_range.2 h1, ?_⟩
            rw [hasB_eq, tab_rdy htb h1]
            have : L.contains j = false := by
              cases hh : L.contains j with
              | false => rfl
              | true => exact absurd (List.contains_iff_mem.1 hh) h2
            rw [this, h3]
            rfl
          refine .inr (.inr (.inl ⟨?_, fun j h1 h2 h3 => ?_⟩))
          · obtain ⟨j, r, e⟩ := List.exists_cons_of_ne_nil (show readyT tb ops.size L ≠ [] from fun e => hne e)
            have : j ∈ readyT tb ops.size L := by rw [e]; simp
            obtain ⟨q1, q2⟩ := List.mem_filter.1 this
            simp only [hasB_eq, Bool.and_eq_true, Bool.not_eq_true'] at q2
            exact ⟨j, List.mem_range.1 q1, fun hm => by rw [List.contains_iff_mem.2 hm] at q2; cases q2.1⟩
          · have hst := hj j (hmem j h1 h2 h3)
            refine (wStep_ok H hst).mono fun s2 h4 => ?_
            rw [fW_eq, tab_drop htb h1] at h4
            exact ⟨stillW_ok h4.1, drawW_ok H htb h4.2⟩
theorem wC_ok (H : LyOK P T.L) (hm : P.follows .mixedOrders = true) {lv : List Nat} : ∀ {c : Code} {s : DS} {Q : Ex → DS → Prop}, wC P T M lv c s Q → Ok P T c s Q := by
  intro c
  induction c with
  | skip => intro s Q h; exact Ok.skip h
  | label l => intro s Q h; exact Ok.label h
  | exit id => intro s Q h; exact Ok.exit h
  | ret => intro s Q h; exact Ok.ret h
  | seq x y ihx ihy =>
    intro s Q h
    simp only [wC] at h
    split at h
    · rw [fW_eq] at h; exact h
    refine Ok.seq ((ihx h).mono fun e s1 h1 => ?_)
    cases e with
    | nx => exact ihy h1
    | out id => exact h1
    | ret => exact h1
  | cond co x y ihx ihy =>
    intro s Q h
    simp only [wC] at h
    split at h
    · rename_i hb; exact Ok.condT hb (ihx h)
    · rename_i hb; exact Ok.condF hb (ihy h)
    · exact h.elim
  | block id c ih => intro s Q h; exact Ok.block (ih h)
  | scope c ih => intro s Q h; exact Ok.scope (ih h)
  | region id ops dr =>
    intro s Q h
    have hq : ∀ x s', nrm lv s' (Q x) → Q x (resetS (Lv.prune lv s')) := fun x s' h => by unfold nrm at h; rwa [fW_eq] at h
    cases dr with
    | false => exact nrm_ok (lv := lv) (Q' := fun x s' => nrm lv s' (Q x)) (Ok.region (wOps_ok H h)) hq
    | true =>
      obtain ⟨tb, hwf, h⟩ := h
      rw [Bool.and_eq_true] at hwf
      exact nrm_ok (lv := lv) (Q' := fun x s' => nrm lv s' (Q x)) (Ok.draw (Q := fun x s' => nrm lv s' (Q x)) H hm hwf.1 (drawW_ok H hwf.2 h)) hq
  | _ => intro s Q h; exact h

theorem Tri.walk2 {f ro : Nat} {args : List D} {sto : List Ob} {R : D → List Ob → Prop} {fn : Func} {code : Code} {L : Ly} {c : FC} (M : Ms) (lv : List Nat) (H : LyOK P L) (hm : P.follows .mixedOrders = true) (hf : P.funcs[f]? = some fn) (hb : fn.body = some code) (hn : (fn.name == "runtime.NumGoroutine") = false) (hc : c.n = fn.ntmps ∧ c.kp = []) (hl : args.length ≤ fn.ntmps) (hro : ro ≤ sto.length)
    (h : wC P ⟨L, c, ro, sto.length⟩ M lv code (s0 ro args sto) (fun x s' => match x with
      | .out _ => False
      | _ => sm2 (resD L ro s' fn.results.toList) R)) : Tri P f ro args sto R := by
  refine Tri.of_ok (L := L) (c := c) H hf hb hn hc hl hro ((wC_ok (T := ⟨L, c, ro, sto.length⟩) H hm h).mono fun x s' hx => ?_)
  have fin : sm2 (resD L ro s' fn.results.toList) R → ∃ d s'', resD L ro s' fn.results.toList = some (d, s'') ∧ R d s''.sto := by
    intro h
    unfold sm2 at h
    split at h
    · rename_i d s'' he
      rw [fT_eq, fMap_eq (fun x k => by cases x <;> simp only [fOb2, fMap_eq fC_eq])] at h
      exact ⟨d, s'', he, h⟩
    · exact h.elim
  cases x with
  | nx => exact fin hx
  | out id => exact hx
  | ret => exact fin hx
end

end Go.Lv
