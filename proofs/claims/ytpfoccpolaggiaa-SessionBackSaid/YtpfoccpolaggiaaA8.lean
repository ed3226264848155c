/-
  A8: parts of what a slot holds; elements of values; cuts, lengths, conversions, look-ups.
-/
import Derived.Test.YtpfoccpolaggiaaA7
set_option linter.all false
namespace Go.Lv

section
variable {P : Program} {L : Ly} {X : Ctx} {G : Gh} {s s' : DS} {a : Act} {w : World} {c : FC}

/-- Some of a slot's own lists are pulled out of it. -/
theorem Rel.pull (h : Rel X G s a w) {y n : Nat} {d0 d1 : D} (f g : Place → Option Place) (hf : ∀ p q, f p = some q → p.r = .slot y) (hg : ∀ p q, g q = some p → q.r = .air n)
    (h0 : lk y s.env = some d0) (h1 : ∀ (K : Keeps w G s.m w (G.mv f g) (s.m.bS y) (fun p => f p = none ∧ g p = none)), VT w (G.mv f g) (s.m.bS y) (.slot y) d1 (a.tmps.getD y undef)) :
    Rel X (G.mv f g) { s with env := ins y d1 s.env, m := s.m.bS y } a w ∧ Keeps w G s.m w (G.mv f g) (s.m.bS y) (fun p => f p = none ∧ g p = none) := by
  have K : Keeps w G s.m w (G.mv f g) (s.m.bS y) (fun p => f p = none ∧ g p = none) :=
    mv_keeps rfl (bS_rv _ _) (fun _ => Nat.le_refl _) (Nat.le_refl _) (fun q p hq => .inl (by rw [hg p q hq]; rfl))
  have hk : ∀ p : Place, p.r ≠ .slot y → p.r.isAir = false → f p = none ∧ g p = none := by
    intro p h1 h2
    constructor
    · cases hp : f p with
      | none => rfl
      | some q => exact absurd (hf p q hp) h1
    · cases hp : g p with
      | none => rfl
      | some q => rw [hg q p hp] at h2; cases h2
  refine ⟨?_, K⟩
  refine h.re (fun b hb => mv_own_other hb) rfl rfl (fun b e he => .inl he) (mv_stow h.stow) h.std (fun u e hu => ?_) (fun u cs hu => ⟨⟨cs, hu⟩, h.locK K (fun t j => hk _ (by simp) rfl) hu⟩) rfl rfl (fun k o b hk' hb => h.stoK K (fun t j => hk _ (by simp) rfl) hk' hb)
  have hu' : lk u (ins y d1 s.env) = some e := hu
  rw [lk_ins] at hu'
  by_cases e' : u = y
  · subst e'
    simp at hu'
    subst hu'
    exact h1 K
  · simp only [e', if_false] at hu'
    exact K.vt (fun i q j c _ _ _ => hk _ (by simp [e']) rfl) (h.env u e hu')

theorem getElem?_splice {α : Type} (l ys : List α) (off : Nat) (h : off + ys.length ≤ l.length) (j : Nat) : (splice l off ys)[j]? = if off ≤ j ∧ j < off + ys.length then ys[j - off]? else l[j]? := by
  unfold splice
  by_cases h1 : j < off
  · rw [List.append_assoc, List.getElem?_append_left (by simp; omega), List.getElem?_take_of_lt h1]
    simp; omega
  · by_cases h2 : j < off + ys.length
    · rw [List.append_assoc, List.getElem?_append_right (by simp; omega)]
      have e : (l.take off).length = off := by simp; omega
      rw [e, List.getElem?_append_left (by omega)]
      rw [if_pos ⟨by omega, h2⟩]
    · rw [List.getElem?_append_right (by simp; omega)]
      have e : (l.take off ++ ys).length = off + ys.length := by simp; omega
      rw [e, List.getElem?_drop, if_neg (by omega)]
      congr 1
      omega
theorem length_splice {α : Type} (l ys : List α) (off : Nat) (h : off + ys.length ≤ l.length) : (splice l off ys).length = l.length := by
  simp [splice]; omega

theorem run_part (H : LyOK P L) {t off : Nat} {cs ds : List D} {d : D} {vs : List Value} (hs : sliceL cs off (L.size t) = some ds) (hd : ofCells L t ds = some d) (hl : vs.length = cs.length) (W : World) :
    (part t vs.toArray off).run P W = .ok (mkV L t ((vs.drop off).take (L.size t))) W := by
  obtain ⟨h1, td, ht⟩ := ofCells_has hd
  obtain ⟨h2, h3, h4⟩ := sliceL_get hs
  unfold Go.part
  rw [Sem.run_bind, H.isAgg ht]
  simp only [Result.andThen_ok, mkV]
  cases ha : L.agg t with
  | true =>
    simp only [if_true, Sem.run_bind, H.sizeOf' ht, Result.andThen_ok, Sem.run_pure]
    congr 2
    simp [List.extract_eq_take_drop]
  | false =>
    have h5 := ofCells_one hd ha
    have hlt : off < vs.length := by omega
    simp only [Bool.false_eq_true, if_false]
    have e1 : vs.toArray[off]? = some vs[off] := by simp [hlt]
    rw [e1]
    have e2 : ((vs.drop off).take (L.size t)).headD undef = vs[off] := by
      rw [h5, List.drop_eq_getElem_cons hlt]
      rfl
    rw [e2]
    rfl

theorem op_field (H : LyOK P L) (h : Rel X G s a w) (hn : c.n = X.n) {o : Oper} {t f : Nat} {x : Operand} (ho : o.op = .field t x f) (hs : opD L c X.ro s o = some s') : Yd2 P c X G o s a w s' := by
  simp only [opD, ho] at hs
  unfold fieldD at hs
  split at hs
  · rename_i off u cs hf hx
    split at hs
    · rename_i ds hds
      split at hs
      · rename_i d hd
        obtain ⟨h2, h3, h4⟩ := sliceL_get hds
        obtain ⟨r, hv⟩ := lookO_any h hx
        obtain ⟨vs, e1, hl, hc⟩ := inv_agg hv
        have hr : (execOp a.eval o).run P w = .ok (.value (mkV L u ((vs.drop off).take (L.size u)))) w := by
          unfold fieldOf at hf
          split at hf
          · rename_i fs hk
            obtain ⟨gs, h5, rfl⟩ := H.struct hk
            rw [List.getElem?_map] at hf
            obtain ⟨g, hg, hg'⟩ := Option.map_eq_some_iff.1 hf
            cases hg'
            have hg2 : gs[f]? = some g := by simpa using hg
            simp [execOp, ho, e1, Instr.field, run_underlying h5, hg2, asAgg, run_part H hds hd hl]
          · cases hf
        have hus : ∀ j u', ((vs.drop off).take (L.size u))[j]? = some u' → j < L.size u ∧ vs[off + j]? = some u' := by
          intro j u' hu
          have hj : j < L.size u := by
            have := (List.getElem?_eq_some_iff.1 hu).1
            simp at this; omega
          rw [List.getElem?_take_of_lt hj, List.getElem?_drop] at hu
          exact ⟨hj, hu⟩
        have hlen : ((vs.drop off).take (L.size u)).length = ds.length := by simp; omega
        split at hs
        · rename_i hown
          split at hs
          · rename_i y
            have hv' : VT w G s.m (.slot y) (.agg cs) (a.tmps.getD y undef) := h.env y _ hx
            obtain ⟨vs', e1', hl', hc'⟩ := inv_agg hv'
            have e2 : vs' = vs := by
              have : a.eval (.tmp y) = a.tmps.getD y undef := rfl
              rw [this, e1'] at e1
              injection e1 with e1
              injection e1
            subst e2
            have hp := h.pull (y := y) (n := 0) (d0 := .agg cs) (d1 := .agg (splice cs off (ds.map (leftC s.m.ep))))
              (fun p => if p.r = .slot y ∧ p.i = 0 ∧ off ≤ p.j ∧ p.j < off + L.size u then some ⟨.air 0, 0, p.j - off⟩ else none)
              (fun q => if q.r = .air 0 ∧ q.i = 0 ∧ q.j < L.size u then some ⟨.slot y, 0, off + q.j⟩ else none)
              (fun p q hp => by simp only [Option.ite_none_right_eq_some] at hp; exact hp.1.1) (fun p q hp => by simp only [Option.ite_none_right_eq_some] at hp; exact hp.1.1) hx ?_
            · obtain ⟨h5, K⟩ := hp
              refine Yd2.tk (.own (by rw [ho]; simp [Op.operands]) hx (by obtain ⟨y1, q1, q2⟩ := List.any_eq_true.1 hown; obtain ⟨j1, q3⟩ := List.mem_iff_getElem?.1 q1; obtain ⟨_, _, z3⟩ := sliceL_get hds; have hj1 := (List.getElem?_eq_some_iff.1 q3).1; rw [z3 j1 (by omega)] at q3; exact List.any_eq_true.2 ⟨y1, List.mem_of_getElem? q3, q2⟩)) h5 hr hs 0 (ofCells_vt hd hlen fun j d' u' hd' hu' => ?_)
              obtain ⟨hj, hu''⟩ := hus j u' hu'
              rw [h4 j hj] at hd'
              refine VC.mv K (p := ⟨.slot y, 0, off + j⟩) ?_ ?_ (hc' (off + j) d' u' hd' hu'')
              · simp [hj]
              · simp [hj]
            · intro K
              refine ⟨vs', e1', by rw [length_splice _ _ _ (by simp; omega)]; exact hl', fun j d' u' hd' hu' => ?_⟩
              rw [getElem?_splice _ _ _ (by simp; omega)] at hd'
              split at hd'
              · rename_i hj
                rw [List.getElem?_map] at hd'
                obtain ⟨d2, hd2, rfl⟩ := Option.map_eq_some_iff.1 hd'
                have hjn : j - off < L.size u := by simp at hj; omega
                rw [h4 _ hjn] at hd2
                have : off + (j - off) = j := by omega
                rw [this] at hd2
                exact VC.left K rfl (hc' j d2 u' hd2 hu')
              · rename_i hj
                simp only [List.length_map, h2] at hj
                refine K.vc (fun _ => ⟨?_, by simp⟩) (hc' j d' u' hd' hu')
                rw [if_neg]
                rintro ⟨_, _, q1, q2⟩
                exact hj ⟨q1, q2⟩
          · cases hs
        · rename_i hown
          refine Yd2.put hr hs 0 (ofCells_vt hd hlen fun j d' u' hd' hu' => ?_)
          obtain ⟨hj, hu''⟩ := hus j u' hu'
          have hd2 := hd'
          rw [h4 j hj] at hd2
          refine (hc (off + j) d' u' hd2 hu'').any ?_
          have := List.any_eq_false.1 (by simpa using hown) d' (List.mem_of_getElem? hd')
          simpa using this
      · cases hs
    · cases hs
  · cases hs

theorem op_extract (h : Rel X G s a w) (hn : c.n = X.n) {o : Oper} {i : Nat} {x : Operand} (ho : o.op = .extract x i) (hs : opD L c X.ro s o = some s') : Yd2 P c X G o s a w s' := by
  simp only [opD, ho] at hs
  unfold extractD at hs
  split at hs
  · rename_i y ds hx
    split at hs
    · rename_i d hd
      have hv : VT w G s.m (.slot y) (.tup ds) (a.tmps.getD y undef) := h.env y _ hx
      obtain ⟨vs, e1, hl, hc⟩ := hv
      have hi := (List.getElem?_eq_some_iff.1 hd).1
      have hu : vs[i]? = some (vs[i]'(by omega)) := List.getElem?_eq_getElem (by omega)
      have e2 : a.eval (.tmp y) = .tuple vs.toArray := e1
      have hr : (execOp a.eval o).run P w = .ok (.value (vs[i]'(by omega))) w := by
        simp only [execOp, ho, e2, Instr.extract, Sem.run_bind]
        have : vs.toArray[i]? = some (vs[i]'(by omega)) := by simpa using hu
        rw [this]
        rfl
      have hp := hc i d _ hd hu
      split at hs
      · rename_i hown
        have hq := h.pull (y := y) (n := 0) (d0 := .tup ds) (d1 := .tup (ds.set i (leftTop s.m.ep d)))
          (fun p => if p.r = .slot y ∧ p.i = i then some ⟨.air 0, 0, p.j⟩ else none)
          (fun q => if q.r = .air 0 ∧ q.i = 0 then some ⟨.slot y, i, q.j⟩ else none)
          (fun p q hp => by simp only [Option.ite_none_right_eq_some] at hp; exact hp.1.1) (fun p q hp => by simp only [Option.ite_none_right_eq_some] at hp; exact hp.1.1) hx ?_
        · obtain ⟨h5, K⟩ := hq
          refine Yd2.tk (.own (by rw [ho]; simp [Op.operands]) hx (List.any_eq_true.2 ⟨d, List.mem_of_getElem? hd, by cases d with | tup es => exact hp.elim | _ => exact hown⟩)) h5 hr hs 0 ?_
          have h6 := VP.map (r' := .air 0) (i' := 0) (fun _ c => c) (fun j c u hc => VC.mv K (p := ⟨.slot y, i, j⟩) (q := ⟨.air 0, 0, j⟩) (by simp) (by simp) hc) hp
          rw [mapAt_id] at h6
          rw [VT_part h6.notup]
          exact h6
        · intro K
          refine ⟨vs, e1, by simp [hl], fun j d' u' hd' hu' => ?_⟩
          rw [List.getElem?_set] at hd'
          split at hd'
          · rename_i hj
            subst hj
            cases hd'
            rw [hu] at hu'
            cases hu'
            have h6 := VP.map (r' := .slot y) (i' := i) (fun _ c => leftC s.m.ep c) (fun j c u hc => VC.left K rfl hc) hp
            have h7 : leftTop s.m.ep d = mapAt (fun _ c => leftC s.m.ep c) d := by
              unfold leftTop mapTop
              split
              · exact absurd rfl (hp.notup _)
              · rfl
            rw [h7]
            exact h6
          · rename_i hj
            refine K.vp (fun j' c hc' _ => ⟨?_, by simp⟩) (hc j d' u' hd' hu')
            rw [if_neg]
            rintro ⟨_, q⟩
            exact hj q.symm
      · rename_i hown
        refine Yd2.put hr hs 0 ?_
        rw [VT_part hp.notup]
        refine VP.any hp ?_
        have := hp.notup
        cases d <;> first | (simpa [hasOwn, anyTop] using hown) | exact absurd rfl (this _)
    · cases hs
  · cases hs

theorem op_index (H : LyOK P L) (h : Rel X G s a w) (hn : c.n = X.n) {o : Oper} {t : Nat} {x y : Operand} (ho : o.op = .index t x y) (hs : opD L c X.ro s o = some s') : Yd2 P c X G o s a w s' := by
  simp only [opD, ho] at hs
  split at hs
  · rename_i d1 d2 h1 h2
    split at hs
    · rename_i d hd
      unfold indexD at hd
      split at hd
      · rename_i b hk
        split at hd
        · rename_i k hidx
          obtain ⟨kd, rfl, hkn⟩ := idxD_inv hidx
          split at hd
          · rename_i ch hch
            cases hd
            have e1 := inv_str (lookO_vt h h1 (.air 0) rfl)
            have e2 := inv_int (lookO_vt h h2 (.air 0) rfl)
            refine Yd2.put ?_ hs 0 (.int _ _)
            have hu := H.str hk
            have hg : b[k]? = some ch := by
              have h3 := List.getElem?_eq_some_iff.1 hch
              obtain ⟨h4, h5⟩ := h3
              have h6 : k < b.size := hkn
              rw [show b[k]? = some b[k] from by simp [h6]]
              rw [← h5]
              rfl
            simp [execOp, ho, e1, e2, Instr.index, asIntOf, run_underlying hu, hg]
          · cases hd
        · cases hd
      · rename_i n e cs hk
        split at hd
        · rename_i k hidx
          obtain ⟨kd, rfl, hkn⟩ := idxD_inv hidx
          split at hd
          · rename_i ds hds
            rw [Option.ite_none_left_eq_some] at hd
            obtain ⟨hno, hd⟩ := hd
            obtain ⟨r, hv⟩ := lookO_any h h1
            obtain ⟨vs, e1, hl, hc⟩ := inv_agg hv
            have e2 := inv_int (lookO_vt h h2 (.air 0) rfl)
            obtain ⟨q1, q2, q3⟩ := sliceL_get hds
            obtain ⟨_, td, ht⟩ := ofCells_has hd
            have hu := H.array hk
            have hb : (0 : Int) ≤ (k : Int) ∧ (k : Int) < (n : Int) := by omega
            refine Yd2.put (v := mkV L e ((vs.drop (k * L.size e)).take (L.size e))) ?_ hs 0 (ofCells_vt hd (by simp; omega) fun j d' u' hd' hu' => ?_)
            · simp only [execOp, ho, e1, e2, Instr.index, asIntOf, Sem.run_bind, Sem.run_pure, Result.andThen_ok, run_underlying hu]
              rw [if_pos hb]
              simp [H.sizeOf' ht, run_part H hds hd hl]
            · have hj : j < L.size e := by rw [← q1]; exact (List.getElem?_eq_some_iff.1 hd').1
              have hd2 := hd'
              rw [q3 j hj] at hd2
              rw [List.getElem?_take_of_lt hj, List.getElem?_drop] at hu'
              refine (hc _ d' u' hd2 hu').any ?_
              have := List.any_eq_false.1 (by simpa using hno) d' (List.mem_of_getElem? hd')
              simpa using this
          · cases hd
        · cases hd
      · cases hd
    · cases hs
  · cases hs
end

end Go.Lv
