/-
  A12: structs and arrays put together; literals, made slices, new maps, a string's bytes.
-/
import Derived.Test.YtpfoccpolaggiaaA11
set_option linter.all false
namespace Go.Lv

section
variable {P : Program} {L : Ly} {X : Ctx} {G : Gh} {s s' : DS} {a : Act} {w w' : World} {c : FC}

theorem takeL_rel : ∀ {xs : List Operand} {ds : List D} {G : Gh} {s s1 : DS}, Rel X G s a w → takeL s xs = some (ds, s1) → ∀ n : Nat,
    ∃ G1, Rel X G1 s1 a w ∧ ds.length = xs.length ∧ (∀ d, d ∈ ds → ∀ es, d ≠ .tup es) ∧ (∀ (k : Nat) (d : D) (x : Operand), ds[k]? = some d → xs[k]? = some x → VT w G1 s1.m (.air (n + k)) d (a.eval x)) ∧ Keeps w G s.m w G1 s1.m (fun p => ∃ j, p.r = .air j ∧ (j < n ∨ n + xs.length ≤ j)) ∧ s1.sto = s.sto ∧ s1.loc = s.loc ∧ s1.m.ep = s.m.ep ∧ s1.m.al = s.m.al ∧ s1.m.era = s.m.era
  | [], ds, G, s, s1, h, ht, n => by
    simp [takeL] at ht
    obtain ⟨rfl, rfl⟩ := ht
    exact ⟨G, h, rfl, fun d hd => (nomatch hd), fun k d x hd => by simp at hd, Keeps.refl _ _ _ _, rfl, rfl, rfl, rfl, rfl⟩
  | x :: xs, ds, G, s, s1, h, ht, n => by
    simp only [takeL] at ht
    split at ht
    · rename_i d s2 h1
      rw [Option.ite_none_left_eq_some] at ht
      obtain ⟨hnt, ht⟩ := ht
      split at ht
      · rename_i ds' s3 h2
        cases ht
        obtain ⟨G1, r1, v1, k1, e1, e2, e3, e4, e5⟩ := takeO_rel h h1 n
        obtain ⟨G2, r2, l2, t2, v2, k2, f1, f2, f3, f4, f5⟩ := takeL_rel r1 h2 (n + 1)
        refine ⟨G2, r2, by simp [l2], fun d' hd' => ?_, fun k d' x' hd hx => ?_, ?_, f1.trans e1, f2.trans e2, f3.trans e3, f4.trans e4, f5.trans e5⟩
        · rcases List.mem_cons.1 hd' with rfl | hd'
          · intro es he
            rw [he] at hnt
            exact hnt rfl
          · exact t2 d' hd'
        · cases k with
          | zero =>
            simp at hd hx
            subst hd; subst hx
            exact k2.vt (fun i q j c _ _ _ => ⟨n, rfl, .inl (by omega)⟩) v1
          | succ k =>
            simp at hd hx
            have := v2 k d' x' hd hx
            rwa [show n + 1 + k = n + (k + 1) by omega] at this
        · refine (k1.trans k2).weaken fun p hp => ?_
          obtain ⟨j, hj, hjn⟩ := hp
          refine ⟨⟨by rw [hj]; intro e; cases e; simp at hjn; omega, fun t _ => by rw [hj]; simp⟩, j, hj, ?_⟩
          simp at hjn
          omega
      · cases ht
    · cases ht

/-! ### Parts laid into cells -/
theorem vp_cells {m : Mt} {r : Root} {i : Nat} {d : D} {v : Value} (h : VP w G m r i d v) : v.cells.size = (cellsD d).length ∧ ∀ (j : Nat) (e : D) (u : Value), (cellsD d)[j]? = some e → v.cells[j]? = some u → VC w G m ⟨r, i, j⟩ e u := by
  have key : (∀ cs, d ≠ .agg cs) → v.cells.size = (cellsD d).length ∧ ∀ (j : Nat) (e : D) (u : Value), (cellsD d)[j]? = some e → v.cells[j]? = some u → VC w G m ⟨r, i, j⟩ e u := by
    intro hd
    rw [VP_cell hd] at h
    have h1 := vc_one h
    have h2 : v.cells = #[v] := by cases v <;> first | rfl | simp [Value.oneCell'] at h1
    have h3 : cellsD d = [d] := by cases d <;> first | rfl | exact absurd rfl (hd _)
    rw [h2, h3]
    refine ⟨rfl, fun j e u he hu => ?_⟩
    cases j with
    | zero => simp at he hu; subst he; subst hu; exact h
    | succ j => simp at he
  cases d with
  | agg cs =>
    obtain ⟨vs, rfl, hl, h1⟩ := h
    exact ⟨by simpa [Value.cells, cellsD] using hl, fun j e u he hu => h1 j e u he (by simpa [Value.cells] using hu)⟩
  | _ => exact key (by intro cs h; cases h)

theorem foldl_set : ∀ (l : List Value) (k off : Nat) (cs : Array Value), off + k + l.length ≤ cs.size → ((l.zipIdx k).foldl (fun (cs : Array Value) (x : Value × Nat) => cs.setIfInBounds (off + x.2) x.1) cs).toList = splice cs.toList (off + k) l
  | [], k, off, cs, h => by
    simp [splice]
  | v :: l, k, off, cs, h => by
    simp only [List.length_cons] at h
    simp only [List.zipIdx_cons, List.foldl_cons]
    have hs : (cs.setIfInBounds (off + k) v).size = cs.size := by simp
    have h2 := foldl_set l (k + 1) off (cs.setIfInBounds (off + k) v) (by rw [hs]; omega)
    rw [h2]
    apply List.ext_getElem?
    intro j
    have hs3 : (cs.setIfInBounds (off + k) v).toList.length = cs.size := by simp
    have hA : off + (k + 1) + l.length ≤ (cs.setIfInBounds (off + k) v).toList.length := by rw [hs3]; omega
    have hB : off + k + (v :: l).length ≤ cs.toList.length := by simp; omega
    rw [getElem?_splice _ _ _ hA, getElem?_splice _ _ _ hB]
    simp only [List.length_cons, Array.toList_setIfInBounds]
    by_cases h3 : j = off + k
    · subst h3
      rw [if_neg (by omega), if_pos (by omega)]
      have hB' : off + k < cs.toList.length := by simp; omega
      rw [List.getElem?_set_self hB']
      simp
    · by_cases h4 : off + k ≤ j ∧ j < off + k + (l.length + 1)
      · rw [if_pos (by omega), if_pos (by omega)]
        obtain ⟨q, rfl⟩ : ∃ q, j = off + k + 1 + q := ⟨j - (off + k + 1), by omega⟩
        rw [show off + k + 1 + q - (off + k) = q + 1 by omega, show off + k + 1 + q - (off + (k + 1)) = q by omega]
        rfl
      · rw [if_neg (by omega), if_neg (by omega), List.getElem?_set_ne (by omega)]

/-- A part that is under way (air k) is laid into the cells of what is being put together (air N). -/
theorem fill_step (h : Rel X G s a w) {k N off : Nat} {d : D} {v : Value} {cs : List D} {vs : List Value} (hkN : k ≠ N) (hp : VP w G s.m (.air k) 0 d v) (hl : vs.length = cs.length) (hc : ∀ (j : Nat) (e : D) (u : Value), cs[j]? = some e → vs[j]? = some u → VC w G s.m ⟨.air N, 0, j⟩ e u) (hoff : off + (cellsD d).length ≤ cs.length) :
    ∃ G1, Rel X G1 s a w ∧ (∀ (j : Nat) (e : D) (u : Value), (splice cs off (cellsD d))[j]? = some e → (splice vs off v.cells.toList)[j]? = some u → VC w G1 s.m ⟨.air N, 0, j⟩ e u) ∧ Keeps w G s.m w G1 s.m (fun p => p.r ≠ .air k ∧ p.r ≠ .air N) := by
  obtain ⟨hsz, hcell⟩ := vp_cells hp
  have hsz' : v.cells.toList.length = (cellsD d).length := by simpa using hsz
  have K : Keeps w G s.m w (G.mv (fun p => if p.r = .air k ∧ p.i = 0 ∧ p.j < (cellsD d).length then some ⟨.air N, 0, off + p.j⟩ else none) (fun q => if q.r = .air N ∧ q.i = 0 ∧ off ≤ q.j ∧ q.j < off + (cellsD d).length then some ⟨.air k, 0, q.j - off⟩ else none)) s.m
      (fun p => (if p.r = .air k ∧ p.i = 0 ∧ p.j < (cellsD d).length then some (⟨.air N, 0, off + p.j⟩ : Place) else none) = none ∧ (if p.r = .air N ∧ p.i = 0 ∧ off ≤ p.j ∧ p.j < off + (cellsD d).length then some (⟨.air k, 0, p.j - off⟩ : Place) else none) = none) := by
    refine mv_keeps rfl (fun _ => Nat.le_refl _) (fun _ => Nat.le_refl _) (Nat.le_refl _) (fun q p hq => .inl ?_)
    simp only [Option.ite_none_right_eq_some] at hq
    rw [hq.1.1]
    rfl
  refine ⟨_, ?_, fun j e u he hu => ?_, K.weaken fun p hp => ⟨by rw [if_neg (fun h => hp.1 h.1)], by rw [if_neg (fun h => hp.2 h.1)]⟩⟩
  · exact h.re (fun b hb => mv_own_other hb) rfl rfl (fun b e he => .inl he) (mv_stow h.stow) h.std (fun u e hu => K.vt (fun i q j c _ _ _ => ⟨by simp, by simp⟩) (h.env u e hu)) (fun u cs hu => ⟨⟨cs, hu⟩, h.locK K (fun t j => ⟨by simp, by simp⟩) hu⟩) rfl rfl (fun k o b hk hb => h.stoK K (fun t j => ⟨by simp, by simp⟩) hk hb)
  · rw [getElem?_splice _ _ _ hoff] at he
    rw [getElem?_splice _ _ _ (by omega), hsz'] at hu
    split at he
    · rename_i hj
      rw [if_pos hj] at hu
      refine VC.mv K (p := ⟨.air k, 0, j - off⟩) ?_ ?_ (hcell (j - off) e u he (by simpa using hu))
      · rw [if_pos ⟨rfl, rfl, show j - off < (cellsD d).length by omega⟩]
        congr 2
        show off + (j - off) = j
        omega
      · rw [if_pos ⟨rfl, rfl, hj.1, hj.2⟩]
    · rename_i hj
      rw [if_neg hj] at hu
      refine K.vc (fun _ => ⟨by rw [if_neg]; rintro ⟨e1, _⟩; simp at e1; exact hkN e1.symm, by rw [if_neg]; rintro ⟨_, _, q1, q2⟩; exact hj ⟨q1, q2⟩⟩) (hc j e u he hu)

theorem fill_rel {pl place : Nat → Option (Nat × Nat)} (hpl : ∀ i, pl i = place i) : ∀ (is : List Nat) (ds : List D) (us : List Value) (k N : Nat) (G : Gh) (cs : List D) (vs : List Value) (cs' : List D), Rel X G s a w → is.length = ds.length → us.length = ds.length → k + ds.length ≤ N →
    (∀ (j : Nat) (d : D) (u : Value), ds[j]? = some d → us[j]? = some u → VT w G s.m (.air (k + j)) d u ∧ ∀ es, d ≠ .tup es) → vs.length = cs.length → (∀ (j : Nat) (e : D) (u : Value), cs[j]? = some e → vs[j]? = some u → VC w G s.m ⟨.air N, 0, j⟩ e u) → fillD pl cs (is.zip ds) = some cs' →
    ∃ (vs' : List Value) (G' : Gh), Instr.fill place vs.toArray (is.zip us) = some vs'.toArray ∧ Rel X G' s a w ∧ vs'.length = cs'.length ∧ cs'.length = cs.length ∧ (∀ (j : Nat) (e : D) (u : Value), cs'[j]? = some e → vs'[j]? = some u → VC w G' s.m ⟨.air N, 0, j⟩ e u)
  | [], [], [], k, N, G, cs, vs, cs', h, _, _, _, _, hl, hc, hf => by
    simp [fillD] at hf
    subst hf
    exact ⟨vs, G, by simp [Instr.fill], h, hl, rfl, hc⟩
  | i :: is, d :: ds, u :: us, k, N, G, cs, vs, cs', h, h1, h2, h3, hv, hl, hc, hf => by
    simp only [List.zip_cons_cons, fillD] at hf
    obtain ⟨hv0, hnt⟩ := hv 0 d u rfl rfl
    rw [VT_part hnt] at hv0
    obtain ⟨hsz, _⟩ := vp_cells hv0
    have hsz2 : u.cells.toList.length = (cellsD d).length := by rw [Array.length_toList]; exact hsz
    simp only [List.length_cons] at h3
    split at hf
    · cases hf
    · rename_i off n hpl'
      rw [Option.ite_none_right_eq_some] at hf
      obtain ⟨⟨hn, hoff⟩, hf⟩ := hf
      obtain ⟨G1, r1, c1, K⟩ := fill_step h (k := k) (N := N) (off := off) (by omega) hv0 hl hc (by omega)
      have hl' : (splice vs off u.cells.toList).length = (splice cs off (cellsD d)).length := by
        rw [length_splice _ _ _ (by omega), length_splice _ _ _ (by omega), hl]
      obtain ⟨vs', G', f1, f2, f3, f4, f5⟩ := fill_rel hpl is ds us (k + 1) N G1 (splice cs off (cellsD d)) (splice vs off u.cells.toList) cs' r1 (by simpa using h1) (by simpa using h2) (by omega) (fun j d' u' hd hu => by
        obtain ⟨q1, q2⟩ := hv (j + 1) d' u' (by simpa using hd) (by simpa using hu)
        refine ⟨?_, q2⟩
        rw [show k + 1 + j = k + (j + 1) by omega]
        exact K.vt (fun i q j' c _ _ _ => ⟨by simp, by
          have hd' : ds[j]? = some d' := by simpa using hd
          have := (List.getElem?_eq_some_iff.1 hd').1
          simp
          omega⟩) q1) hl' c1 hf
      refine ⟨vs', G', ?_, f2, f3, ?_, f5⟩
      · rw [← f1]
        simp only [List.zip_cons_cons, Instr.fill, ← hpl, hpl']
        have g1 : u.cells.size = n := by omega
        have g2 : ¬ (off + u.cells.size > vs.length) := by omega
        simp only [g1, ne_eq, not_true, decide_false, Bool.false_or, List.size_toArray]
        rw [if_neg (by simp; omega)]
        congr 1
        apply Array.ext'
        rw [← Array.foldl_toList, Array.toList_zipIdx]
        have := foldl_set u.cells.toList 0 off vs.toArray (by simp; omega)
        simpa using this
      · rw [f4, length_splice _ _ _ (by omega)]
  | [], _ :: _, _, _, _, _, _, _, _, _, h, _, _, _, _, _, _ => by simp at h
  | _ :: _, [], _, _, _, _, _, _, _, _, h, _, _, _, _, _, _ => by simp at h
  | [], [], _ :: _, _, _, _, _, _, _, _, _, h, _, _, _, _, _ => by simp at h
  | _ :: _, _ :: _, [], _, _, _, _, _, _, _, _, h, _, _, _, _, _ => by simp at h
end

end Go.Lv
