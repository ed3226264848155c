/-
  A41: counts begun anew: what is stale is dropped, what is fresh is counted from nought.
-/
import Derived.Test.YtpfoccpolaggiaaA32
set_option linter.all false
namespace Go.Lv

noncomputable def rsQ (m : Mt) : Option (Place × Nat) → Option (Place × Nat)
  | some (p, n) => if n = m.rv p.r then some (p, 0) else none
  | none => none
noncomputable def rsE (m : Mt) (e : Nat) : Nat := if e = m.ep then 1 else 0
noncomputable def rsC (m : Mt) : D → D
  | .list (.cp e q) xs => .list (.cp (rsE m e) (rsQ m q)) xs
  | .lptr t v off => if v = m.al t then .lptr t 0 off else .dead
  | .eptr e q i row off => .eptr (match e with | some e => some (rsE m e) | none => none) (rsQ m q) i row off
  | .stamp _ _ _ => .dead
  | .list (.own n) xs => .list (.own n) xs
  | .list .imm xs => .list .imm xs
  | .int k n => .int k n
  | .bool b => .bool b
  | .str s => .str s
  | .nil => .nil
  | .gptr k o => .gptr k o
  | .nilmap => .nilmap
  | .map k => .map k
  | .fn f cs => .fn f cs
  | .nilfn => .nilfn
  | .agg cs => .agg cs
  | .tup ds => .tup ds
  | .dead => .dead
noncomputable def rsT (m : Mt) (d : D) : D := mapTop (fun _ _ c => rsC m c) d
noncomputable def rsO (m : Mt) : Ob → Ob
  | .box cs => .box (cs.map (rsC m))
  | .map es => .map es
noncomputable def mR (ro : Nat) : Mt := ⟨⟨[]⟩, ⟨[]⟩, ⟨[]⟩, 0, 1, ro⟩
noncomputable def resetS (s : DS) : DS := ⟨s.env.map fun x => (x.1, rsT s.m x.2), s.loc.map fun x => (x.1, x.2.map (rsC s.m)), s.sto.map (rsO s.m), mR s.m.ro⟩

section
variable {P : Program} {T : St} {X : Ctx} {G : Gh} {s : DS} {a : Act} {w : World} {m : Mt}

theorem mR_rv (ro : Nat) (r : Root) : (mR ro).rv r = 0 := by cases r <;> rfl
theorem rsQ_some {q : Option (Place × Nat)} {p : Place} {n : Nat} (h : rsQ m q = some (p, n)) : n = 0 ∧ q = some (p, m.rv p.r) := by
  cases q with
  | none => cases h
  | some q =>
    obtain ⟨p', n'⟩ := q
    simp only [rsQ] at h
    split at h
    · rename_i e
      cases h
      exact ⟨rfl, by rw [e]⟩
    · cases h
theorem rs_vc {p : Place} {d : D} {v : Value} (h : VC w G m p d v) : VC w G (mR m.ro) p (rsC m d) v := by
  cases d with
  | list q xs =>
    cases q with
    | own sz => exact h
    | imm => exact h
    | cp e q =>
      obtain ⟨A, cap, rfl, he, h1, h2⟩ := h
      refine ⟨A, cap, rfl, ?_, fun hee => ?_, fun p n hq => ?_⟩
      · unfold rsE
        show _ ≤ 1
        split <;> omega
      · refine h1 ?_
        unfold rsE at hee
        split at hee
        · assumption
        · cases hee
      · obtain ⟨rfl, hq'⟩ := rsQ_some hq
        obtain ⟨q1, q2, q3⟩ := h2 _ _ hq'
        exact ⟨q1, Nat.zero_le _, fun _ => q3 rfl⟩
  | lptr t n off =>
    obtain ⟨b, rfl, hn, h1⟩ := h
    show VC w G (mR m.ro) p (if n = m.al t then .lptr t 0 off else .dead) _
    split
    · rename_i e
      exact ⟨b, rfl, Nat.zero_le _, fun _ => h1 e⟩
    · exact rfl
  | eptr e q i row off =>
    obtain ⟨b, o, rfl, he, h0, h1, h2⟩ := h
    refine ⟨b, o, rfl, fun n hn => ?_, fun hn => ?_, fun hn => ?_, fun p n hq => ?_⟩
    · cases e with
      | none => cases hn
      | some e =>
        cases hn
        unfold rsE
        show _ ≤ 1
        split <;> omega
    · cases e with
      | none => exact h0 rfl
      | some e => cases hn
    · refine h1 ?_
      cases e with
      | none => exact .inl rfl
      | some e =>
        rcases hn with hn | hn
        · cases hn
        · have hn : rsE m e = 1 := Option.some.inj hn
          unfold rsE at hn
          split at hn
          · rename_i e; exact .inr (by rw [e])
          · cases hn
    · obtain ⟨rfl, hq'⟩ := rsQ_some hq
      obtain ⟨q1, q2, q3⟩ := h2 _ _ hq'
      exact ⟨q1, Nat.zero_le _, fun _ => q3 rfl⟩
  | stamp e k i =>
    obtain ⟨n, rfl, _⟩ := h
    exact rfl
  | agg cs => exact h.elim
  | tup cs => exact h.elim
  | _ => exact h
theorem rs_notagg (d : D) (hd : ∀ cs, d ≠ .agg cs) : ∀ cs, rsC m d ≠ .agg cs := by
  intro cs h
  cases d with
  | list q xs => cases q <;> cases h
  | lptr t n off => simp only [rsC] at h; split at h <;> cases h
  | agg cs => exact hd cs rfl
  | _ => cases h
theorem rs_nottup (d : D) (hd : ∀ cs, d ≠ .tup cs) : ∀ cs, rsC m d ≠ .tup cs := by
  intro cs h
  cases d with
  | list q xs => cases q <;> cases h
  | lptr t n off => simp only [rsC] at h; split at h <;> cases h
  | tup cs => exact hd cs rfl
  | _ => cases h
theorem vp_of_vc {r : Root} {i : Nat} {d : D} {v : Value} (hd : ∀ cs, d ≠ .agg cs) (h : VC w G m ⟨r, i, 0⟩ d v) : VP w G m r i d v := by
  cases d with
  | agg cs => exact (hd cs rfl).elim
  | _ => exact h
theorem vt_of_vp {r : Root} {d : D} {v : Value} (hd : ∀ cs, d ≠ .tup cs) (h : VP w G m r 0 d v) : VT w G m r d v := by
  cases d with
  | tup cs => exact (hd cs rfl).elim
  | _ => exact h
theorem rs_vp {r : Root} {i : Nat} {d : D} {v : Value} (h : VP w G m r i d v) : VP w G (mR m.ro) r i (mapAt (fun _ c => rsC m c) d) v := by
  by_cases hd : ∃ cs, d = .agg cs
  · obtain ⟨cs, rfl⟩ := hd
    obtain ⟨vs, rfl, hl, h1⟩ := h
    refine ⟨vs, rfl, by rw [mapIx_length]; exact hl, fun j d u hd hu => ?_⟩
    rw [mapIx_get] at hd
    obtain ⟨c, hc, rfl⟩ := Option.map_eq_some_iff.1 hd
    exact rs_vc (h1 j c u hc hu)
  · have hd' : ∀ cs, d ≠ .agg cs := fun cs e => hd ⟨cs, e⟩
    have e1 : mapAt (fun _ c => rsC m c) d = rsC m d := by cases d <;> first | rfl | exact (hd' _ rfl).elim
    rw [e1]
    have hv : VC w G m ⟨r, i, 0⟩ d v := by cases d <;> first | exact h | exact (hd' _ rfl).elim
    exact vp_of_vc (rs_notagg d hd') (rs_vc hv)
theorem rs_vt {r : Root} {d : D} {v : Value} (h : VT w G m r d v) : VT w G (mR m.ro) r (rsT m d) v := by
  by_cases hd : ∃ cs, d = .tup cs
  · obtain ⟨ds, rfl⟩ := hd
    obtain ⟨vs, rfl, hl, h1⟩ := h
    refine ⟨vs, rfl, by rw [mapIx_length]; exact hl, fun j d u hd hu => ?_⟩
    rw [mapIx_get] at hd
    obtain ⟨c, hc, rfl⟩ := Option.map_eq_some_iff.1 hd
    exact rs_vp (h1 j c u hc hu)
  · have hd' : ∀ cs, d ≠ .tup cs := fun cs e => hd ⟨cs, e⟩
    have e1 : rsT m d = mapAt (fun _ c => rsC m c) d := by cases d <;> first | rfl | exact (hd' _ rfl).elim
    have hv : VP w G m r 0 d v := by cases d <;> first | exact h | exact (hd' _ rfl).elim
    rw [e1]
    refine vt_of_vp (fun cs => ?_) (rs_vp hv)
    by_cases ha : ∃ es, d = .agg es
    · obtain ⟨es, rfl⟩ := ha
      intro e; cases e
    · have ha' : ∀ cs, d ≠ .agg cs := fun cs e => ha ⟨cs, e⟩
      have e2 : mapAt (fun _ c => rsC m c) d = rsC m d := by cases d <;> first | rfl | exact (ha' _ rfl).elim
      rw [e2]
      exact rs_nottup d hd' cs
theorem rs_box {r : Root} {b : Nat} {cs : List D} (h : BoxV w G m r b cs) : BoxV w G (mR m.ro) r b (cs.map (rsC m)) := by
  intro j d hd
  rw [List.getElem?_map] at hd
  obtain ⟨c, hc, rfl⟩ := Option.map_eq_some_iff.1 hd
  obtain ⟨u, h1, h2, h3⟩ := h j c hc
  exact ⟨u, h1, h2, rs_vc h3⟩
theorem rs_imm {d : D} {v : Value} (h : Imm w G.be G.st (fz d) v) : Imm w G.be G.st (fz (rsC m d)) v := by
  cases d with
  | list q xs =>
    cases q with
    | cp e q => cases h
    | _ => exact h
  | lptr t n off => cases h
  | eptr e q i row off => cases h
  | stamp e k i => cases h
  | _ => exact h
theorem lk_map {α β : Type} (f : α → β) (t : Nat) : ∀ l : List (Nat × α), lk t (l.map fun x => (x.1, f x.2)) = (lk t l).map f
  | [] => rfl
  | x :: r => by
    rw [List.map_cons, lk_cons, lk_cons]
    simp only
    split
    · rfl
    · exact lk_map f t r
theorem Rel.reset (h : Rel X G s a w) : Rel X G (resetS s) a w where
  size := h.size
  defers := h.defers
  env := fun t d ht => by
    have ht' : lk t (s.env.map fun x => (x.1, rsT s.m x.2)) = some d := ht
    rw [lk_map] at ht'
    obtain ⟨c, hc, rfl⟩ := Option.map_eq_some_iff.1 ht'
    exact rs_vt (h.env t c hc)
  loc := fun t cs ht => by
    have ht' : lk t (s.loc.map fun x => (x.1, x.2.map (rsC s.m))) = some cs := ht
    rw [lk_map (fun cs : List D => cs.map (rsC s.m))] at ht'
    obtain ⟨c, hc, rfl⟩ := Option.map_eq_some_iff.1 ht'
    exact ⟨(h.loc t c hc).1, rs_box (h.loc t c hc).2⟩
  sto := fun k o hk => by
    have hk' : (s.sto.map (rsO s.m))[k]? = some o := hk
    rw [List.getElem?_map] at hk'
    obtain ⟨o', ho, rfl⟩ := Option.map_eq_some_iff.1 hk'
    obtain ⟨b, h1, h2, h3, h4⟩ := h.sto k o' ho
    refine ⟨b, h1, h2, h3, ?_⟩
    cases o' with
    | map es => exact h4
    | box cs =>
      simp only [rsO, ObV] at h4 ⊢
      split
      · rename_i hlt
        rw [if_pos hlt] at h4
        intro j d hd
        rw [List.getElem?_map] at hd
        obtain ⟨c, hc, rfl⟩ := Option.map_eq_some_iff.1 hd
        obtain ⟨u, hu, hi⟩ := h4 j c hc
        exact ⟨u, hu, rs_imm hi⟩
      · rename_i hlt
        rw [if_neg hlt] at h4
        exact rs_box h4
  be := fun k hk => h.be k (by simpa [resetS] using hk)
  new := h.new
  stow := h.stow
  std := h.std
  old := h.old
  os := h.os
  tape := h.tape
  output := h.output
  grow := h.grow
  ro := by simpa [resetS] using h.ro
  rom := h.rom
  be0 := h.be0
  n0 := by simpa [resetS] using h.n0
  la0 := h.la0
theorem Ok.reset {c : Code} {Q : Ex → DS → Prop} (h : Ok P T c (resetS s) Q) : Ok P T c s Q := fun X G a w hX hR => h X G a w hX hR.reset
end

end Go.Lv
