/-
  A23: what a function answers; the triple of a function.
-/
import Derived.Test.YtpfoccpolaggiaaA22
set_option linter.all false
namespace Go.Lv

/-- A result: what a slot holds, or (a struct) what the box of a slot holds. -/
noncomputable def resOne (L : Ly) (ro : Nat) (s : DS) : ResultVar → Option (D × DS)
  | .tmp t => match takeO s (.tmp t) with
    | some (d, s1) => if isTup d then none else some (d, s1)
    | none => none
  | .cell a t => match lookO s (.tmp a) with
    | some ad => match readD ro s ad (L.size t) with
      | some cs => if cs.any isOwn then
          match ad with
          | .lptr u _ off => match lk u s.loc, ofCells L t cs with
            | some bs, some d => if isTup d then none else some (d, { s with loc := insL u (splice bs off (cs.map (leftC s.m.ep))) s.loc, m := s.m.bL u })
            | _, _ => none
          | _ => none
        else match ofCells L t cs with
        | some d => if isTup d then none else some (d, s)
        | none => none
      | none => none
    | none => none
noncomputable def resL (L : Ly) (ro : Nat) (s : DS) : List ResultVar → Option (List D × DS)
  | [] => some ([], s)
  | x :: r => match resOne L ro s x with
    | some (d, s1) => match resL L ro s1 r with
      | some (ds, s2) => some (d :: ds, s2)
      | none => none
    | none => none
noncomputable def resD (L : Ly) (ro : Nat) (s : DS) (rs : List ResultVar) : Option (D × DS) :=
  match resL L ro s rs with
  | some ([d], s1) => some (d, s1)
  | some (ds, s1) => some (.tup ds, s1)
  | none => none

section
variable {P : Program} {T : St} {L : Ly} {X : Ctx} {G G' : Gh} {s s' s1 : DS} {a a' : Act} {w w' : World} {Q Q' : Ex → DS → Prop} {K K' : DS → Prop} {o : Oper} {ops : Array Oper}

noncomputable def toPart (n k : Nat) (p : Place) : Option Place := if p.r = .air n ∧ p.i = 0 then some ⟨.air 0, k, p.j⟩ else none
noncomputable def ofPart (n k : Nat) (q : Place) : Option Place := if q.r = .air 0 ∧ q.i = k then some ⟨.air n, 0, q.j⟩ else none

/-- Values under way become a tuple's parts. -/
theorem tupL : ∀ (ds : List D) (us : List Value) (G : Gh) (n k : Nat), Rel X G s a w → 0 < n → (∀ (j : Nat) (d : D) (u : Value), ds[j]? = some d → us[j]? = some u → VT w G s.m (.air (n + j)) d u ∧ ∀ es, d ≠ .tup es) →
    ∃ G', Rel X G' s a w ∧ (∀ (j : Nat) (d : D) (u : Value), ds[j]? = some d → us[j]? = some u → VP w G' s.m (.air 0) (k + j) d u) ∧ Keeps w G s.m w G' s.m (fun p => (p.r = .air 0 ∧ p.i < k) ∨ ∃ j, p.r = .air j ∧ n + ds.length ≤ j)
  | [], us, G, n, k, h, _, _ => ⟨G, h, fun j d u hd => by simp at hd, Keeps.refl _ _ _ _⟩
  | d :: ds, [], G, n, k, h, _, _ => ⟨G, h, fun j d u _ hu => by simp at hu, Keeps.refl _ _ _ _⟩
  | d :: ds, u :: us, G, n, k, h, hn, hv => by
    obtain ⟨hv0, hnt⟩ := hv 0 d u rfl rfl
    rw [VT_part hnt] at hv0
    have K : Keeps w G s.m w (G.mv (toPart n k) (ofPart n k)) s.m (fun p => toPart n k p = none ∧ ofPart n k p = none) :=
      mv_keeps rfl (fun _ => Nat.le_refl _) (fun _ => Nat.le_refl _) (Nat.le_refl _) (fun q p hq => by
        left
        unfold ofPart at hq
        rw [Option.ite_none_right_eq_some] at hq
        rw [hq.1.1]
        rfl)
    have no1 : ∀ {p : Place}, p.r ≠ .air n → toPart n k p = none := fun hp => by unfold toPart; rw [if_neg (fun q => hp q.1)]
    have no2 : ∀ {p : Place}, (p.r ≠ .air 0 ∨ p.i ≠ k) → ofPart n k p = none := fun hp => by
      unfold ofPart
      rw [if_neg]
      rintro ⟨q1, q2⟩
      rcases hp with hp | hp
      · exact hp q1
      · exact hp q2
    have r1 : Rel X (G.mv (toPart n k) (ofPart n k)) s a w :=
      h.re (fun b hb => mv_own_other hb) rfl rfl (fun b e he => .inl he) (mv_stow h.stow) h.std (fun u e hu => K.vt (fun i q j c _ _ _ => ⟨no1 (by simp), no2 (.inl (by simp))⟩) (h.env u e hu)) (fun u cs hu => ⟨⟨cs, hu⟩, h.locK K (fun t j => ⟨no1 (by simp), no2 (.inl (by simp))⟩) hu⟩) rfl rfl (fun k o b hk hb => h.stoK K (fun t j => ⟨no1 (by simp), no2 (.inl (by simp))⟩) hk hb)
    have v0 : VP w (G.mv (toPart n k) (ofPart n k)) s.m (.air 0) k d u := by
      have := VP.map (r' := .air 0) (i' := k) (fun _ c => c) (fun j c u hc => VC.mv K (p := ⟨.air n, 0, j⟩) (q := ⟨.air 0, k, j⟩) (by unfold toPart; rw [if_pos ⟨rfl, rfl⟩]) (by unfold ofPart; rw [if_pos ⟨rfl, rfl⟩]) hc) hv0
      rwa [mapAt_id] at this
    obtain ⟨G', r2, v2, K2⟩ := tupL ds us _ (n + 1) (k + 1) r1 (by omega) (fun j d' u' hd hu => by
      obtain ⟨q1, q2⟩ := hv (j + 1) d' u' (by simpa using hd) (by simpa using hu)
      refine ⟨?_, q2⟩
      rw [show n + 1 + j = n + (j + 1) by omega]
      exact K.vt (fun i q j' c _ _ _ => ⟨no1 (by simp), no2 (.inl (by simp))⟩) q1)
    refine ⟨G', r2, fun j d' u' hd hu => ?_, (K.trans K2).weaken fun p hp => ?_⟩
    · cases j with
      | zero =>
        simp at hd hu
        subst hd; subst hu
        exact K2.vp (fun j c _ _ => .inl ⟨rfl, by simp⟩) v0
      | succ j =>
        have := v2 j d' u' (by simpa using hd) (by simpa using hu)
        rwa [show k + 1 + j = k + (j + 1) by omega] at this
    · simp only [List.length_cons] at hp
      rcases hp with ⟨h1, h2⟩ | ⟨j, h1, h2⟩
      · exact ⟨⟨no1 (by rw [h1]; simp; omega), no2 (.inr (by omega))⟩, .inl ⟨h1, by omega⟩⟩
      · exact ⟨⟨no1 (by rw [h1]; simp; omega), no2 (.inl (by rw [h1]; simp; omega))⟩, .inr ⟨j, h1, by omega⟩⟩

/-- A box's lists go with its value. -/
theorem Rel.takeBox (H : LyOK P L) (h : Rel X G s a w) {u ver off t N : Nat} {cs bs : List D} {d : D} (hcs : readD X.ro s (.lptr u ver off) (L.size t) = some cs) (hbs : lk u s.loc = some bs) (hof : ofCells L t cs = some d) {b : Nat} (hlen : cs.length = L.size t)
    (hcell : ∀ (j : Nat) (d : D), cs[j]? = some d → ∃ v, w.cell? ⟨b, off + j, none⟩ = some v ∧ VC w G s.m ⟨.lbox u, 0, off + j⟩ d v) :
    ∃ G1, Rel X G1 { s with loc := insL u (splice bs off (cs.map (leftC s.m.ep))) s.loc, m := s.m.bL u } a w ∧ VT w G1 (s.m.bL u) (.air N) d (mkV L t (cellsAt w b off (L.size t))) ∧ Keeps w G s.m w G1 (s.m.bL u) (fun p => ∃ j, p.r = .air j ∧ j ≠ N) := by
  simp only [readD] at hcs
  rw [Option.ite_none_right_eq_some] at hcs
  obtain ⟨hver, hcs⟩ := hcs
  rw [hbs] at hcs
  simp only at hcs
  obtain ⟨z1, z2, z3⟩ := sliceL_get hcs
  have K := h.takeOut (r := .lbox u) (off := off) (n := cs.length) (N := N) (m' := s.m.bL u) (bR_ups _ (.lbox u))
  refine ⟨_, ?_, ?_, K.weaken fun p hp => ?_⟩
  · refine h.re (fun b hb => mv_own_other hb) rfl rfl (fun b e he => .inl he) (mv_stow h.stow) h.std (fun u' e hu => K.vt (fun i q j c _ _ _ => ⟨fromB_no (.inl (by simp)), inB_no (by simp)⟩) (h.env u' e hu)) (fun u' bs' hu => ?_) rfl rfl (fun k o b hk hb => h.stoK K (fun t j => ⟨fromB_no (.inl (by simp)), inB_no (by simp)⟩) hk hb)
    have hu' : lk u' (insL u (splice bs off (cs.map (leftC s.m.ep))) s.loc) = some bs' := hu
    rw [lk_insL] at hu'
    by_cases e : u' = u
    · subst e
      simp at hu'
      subst hu'
      refine ⟨⟨bs, hbs⟩, fun j d hd => ?_⟩
      rw [getElem?_splice _ _ _ (by simp; omega), List.length_map] at hd
      obtain ⟨_, hbx⟩ := h.loc u' bs hbs
      split at hd
      · rename_i hj
        rw [List.getElem?_map] at hd
        obtain ⟨d0, hd0, rfl⟩ := Option.map_eq_some_iff.1 hd
        rw [z3 (j - off) (by omega), show off + (j - off) = j by omega] at hd0
        obtain ⟨v, v1, v2, v3⟩ := hbx j d0 hd0
        exact ⟨v, v1, v2, VC.left K rfl v3⟩
      · rename_i hj
        obtain ⟨v, v1, v2, v3⟩ := hbx j d hd
        exact ⟨v, v1, v2, K.vc (fun _ => ⟨fromB_no (.inr hj), inB_no (by simp)⟩) v3⟩
    · simp only [e, if_false] at hu'
      exact ⟨⟨bs', hu'⟩, K.box (fun j c _ _ => ⟨fromB_no (.inl (by simp [e])), inB_no (by simp)⟩) (fun _ => ⟨rfl, rfl⟩) (h.loc u' bs' hu').2⟩
  · refine ofCells_vt hof (by rw [cellsAt_length, hlen]) (fun j d u' hd hu => ?_)
    have hj : j < cs.length := (List.getElem?_eq_some_iff.1 hd).1
    obtain ⟨v, hv, hc⟩ := hcell j d hd
    rw [cellsAt_get (by omega) hv] at hu
    cases hu
    refine VC.mv K ?_ ?_ hc
    · have := fromB_at (N := N) (r := .lbox u) (off := off) (n := cs.length) (j := off + j) (by omega) (by omega)
      rwa [show off + j - off = j by omega] at this
    · have := inB_at (N := N) (r := .lbox u) (off := off) (n := cs.length) (j := off + j) (by omega) (by omega)
      rwa [show off + j - off = j by omega] at this
  · obtain ⟨j, hj, hjN⟩ := hp
    exact ⟨fromB_no (.inl (by rw [hj]; simp)), inB_no (by rw [hj]; simp; exact hjN)⟩

noncomputable def resG (tmps : Array Value) : ResultVar → Sem Value
  | .tmp t => pure (tmps.getD t undef)
  | .cell a t => do loadVar t (← asAddr (tmps.getD a undef))

theorem resOne_rel (H : LyOK P L) (h : Rel X G s a w) {x : ResultVar} {d : D} (hr : resOne L X.ro s x = some (d, s1)) (n : Nat) :
    ∃ v G1, (resG a.tmps x).run P w = .ok v w ∧ Rel X G1 s1 a w ∧ VT w G1 s1.m (.air n) d v ∧ (∀ es, d ≠ .tup es) ∧ Keeps w G s.m w G1 s1.m (fun p => ∃ j, p.r = .air j ∧ j ≠ n) := by
  cases x with
  | tmp t =>
    simp only [resOne] at hr
    split at hr
    · rename_i d' s' htk
      rw [Option.ite_none_left_eq_some] at hr
      obtain ⟨hnt, hr⟩ := hr
      cases hr
      obtain ⟨G1, r1, v1, K1, _⟩ := takeO_rel h htk n
      refine ⟨_, G1, rfl, r1, v1, fun es e => hnt (by rw [e]; rfl), K1.weaken fun p hp => ?_⟩
      obtain ⟨j, hj, hjn⟩ := hp
      exact ⟨by rw [hj]; simp; exact hjn, fun t _ => by rw [hj]; simp⟩
    · cases hr
  | cell b t =>
    simp only [resOne] at hr
    split at hr
    · rename_i ad had
      split at hr
      · rename_i cs hcs
        split at hr
        · rename_i hany
          split at hr
          · rename_i u ver off
            split at hr
            · rename_i bs d' hbs hof
              rw [Option.ite_none_left_eq_some] at hr
              obtain ⟨hnt, hr⟩ := hr
              cases hr
              obtain ⟨bb, off', hv, hlen, hcell⟩ := readD_rel h (lookO_vt h had (.air 0) rfl) hcs
              have hoff : off' = off := by
                obtain ⟨a0, e1, _, e2⟩ := (lookO_vt h had (.air 0) rfl : LpV G s.m u ver off _)
                have hver : ver = s.m.al u := by
                  simp only [readD] at hcs
                  rw [Option.ite_none_right_eq_some] at hcs
                  exact hcs.1
                rw [e2 hver, hv] at e1
                cases e1
                rfl
              subst hoff
              obtain ⟨_, td, ht⟩ := ofCells_has hof
              have hrun := run_loadAt (P := P) (w := w) H (b := bb) (o := off') ht (fun j hj => by
                obtain ⟨u, hu, _⟩ := hcell j (cs[j]'(by omega)) (List.getElem?_eq_getElem (by omega))
                exact ⟨u, hu⟩) (ofCells_one hof)
              obtain ⟨G1, r1, v1, K1⟩ := h.takeBox (N := n) H hcs hbs hof hlen (fun j d hd => by
                obtain ⟨v, hv, hc⟩ := hcell j d hd
                refine ⟨v, hv, ?_⟩
                have h2 := hc
                simp only [srcP, rootOf] at h2
                exact h2)
              refine ⟨_, G1, ?_, r1, v1, fun es e => hnt (by rw [e]; rfl), K1⟩
              have e1 : a.tmps.getD b undef = .pointer (some ⟨bb, off', none⟩) := hv
              simp only [resG, e1]
              simp only [Instr.loadAt, Instr.sureAddr, Sem.run_bind, Sem.run_pure, Result.andThen_ok] at hrun
              simp only [Sem.run_bind, asAddr, Sem.run_pure, Result.andThen_ok]
              exact hrun
            · cases hr
          · cases hr
        rename_i hno
        split at hr
        · rename_i d' hof
          rw [Option.ite_none_left_eq_some] at hr
          obtain ⟨hnt, hr⟩ := hr
          cases hr
          have hao : hasOwn ad = false := by
            unfold readD at hcs
            split at hcs <;> first | rfl | cases hcs
          obtain ⟨bb, off, hv, hlen, hcell⟩ := readD_rel h (lookO_vt h had (.air 0) hao) hcs
          obtain ⟨_, td, ht⟩ := ofCells_has hof
          have hrun := run_loadAt (P := P) (w := w) H (b := bb) (o := off) ht (fun j hj => by
            obtain ⟨u, hu, _⟩ := hcell j (cs[j]'(by omega)) (List.getElem?_eq_getElem (by omega))
            exact ⟨u, hu⟩) (ofCells_one hof)
          refine ⟨mkV L t (cellsAt w bb off (L.size t)), G, ?_, h, ?_, fun es e => hnt (by rw [e]; rfl), Keeps.refl _ _ _ _⟩
          · have e1 : a.tmps.getD b undef = .pointer (some ⟨bb, off, none⟩) := hv
            simp only [resG, e1]
            simp only [Instr.loadAt, Instr.sureAddr, Sem.run_bind, Sem.run_pure, Result.andThen_ok] at hrun
            simp only [Sem.run_bind, asAddr, Sem.run_pure, Result.andThen_ok]
            exact hrun
          · refine VT.any (r := .air n) (ofCells_vt hof (by rw [cellsAt_length, hlen]) fun j d u hd hu => ?_) ?_
            · obtain ⟨u', hu', hc⟩ := hcell j d hd
              have hj : j < L.size t := by rw [← hlen]; exact (List.getElem?_eq_some_iff.1 hd).1
              rw [cellsAt_get hj hu'] at hu
              cases hu
              refine hc.any ?_
              have := List.any_eq_false.1 (by simpa using hno) d (List.mem_of_getElem? hd)
              simpa using this
            · unfold ofCells at hof
              rw [Option.ite_none_right_eq_some] at hof
              obtain ⟨_, hof⟩ := hof
              have hno' : cs.any isOwn = false := by simpa using hno
              split at hof
              · cases hof; exact hno'
              · split at hof
                · rename_i c
                  cases hof
                  simp only [List.any_cons, List.any_nil, Bool.or_false] at hno'
                  cases d with
                  | agg es =>
                    rename_i hcs2 _ _
                    exfalso
                    obtain ⟨u, _, hc⟩ := hcell 0 (.agg es) rfl
                    exact hc
                  | tup es => exact absurd rfl hnt
                  | _ => exact hno'
                · cases hof
        · cases hr
      · cases hr
    · cases hr

theorem resL_rel (H : LyOK P L) : ∀ {xs : List ResultVar} {ds : List D} {G : Gh} {s s1 : DS}, Rel X G s a w → resL L X.ro s xs = some (ds, s1) → ∀ n : Nat,
    ∃ vs G1, (xs.mapM (resG a.tmps)).run P w = .ok vs w ∧ Rel X G1 s1 a w ∧ vs.length = ds.length ∧ ds.length = xs.length ∧ (∀ d, d ∈ ds → ∀ es, d ≠ .tup es) ∧ (∀ (k : Nat) (d : D) (v : Value), ds[k]? = some d → vs[k]? = some v → VT w G1 s1.m (.air (n + k)) d v) ∧ Keeps w G s.m w G1 s1.m (fun p => ∃ j, p.r = .air j ∧ (j < n ∨ n + xs.length ≤ j))
  | [], ds, G, s, s1, h, ht, n => by
    simp [resL] at ht
    obtain ⟨rfl, rfl⟩ := ht
    exact ⟨[], G, by simp, h, rfl, rfl, fun d hd => (nomatch hd), fun k d x hd => by simp at hd, Keeps.refl _ _ _ _⟩
  | x :: xs, ds, G, s, s1, h, ht, n => by
    simp only [resL] at ht
    split at ht
    · rename_i d s2 h1
      split at ht
      · rename_i ds' s3 h2
        cases ht
        obtain ⟨v, G1, q1, r1, v1, nt1, k1⟩ := resOne_rel H h h1 n
        obtain ⟨vs, G2, q2, r2, l2, l3, t2, v2, k2⟩ := resL_rel H r1 h2 (n + 1)
        refine ⟨v :: vs, G2, ?_, r2, by simp [l2], by simp [l3], fun d' hd' => ?_, fun k d' x' hd hx => ?_, ?_⟩
        · simp only [List.mapM_cons, Sem.run_bind, q1, Result.andThen_ok, q2, Sem.run_pure]
        · rcases List.mem_cons.1 hd' with rfl | hd'
          · exact nt1
          · exact t2 d' hd'
        · cases k with
          | zero =>
            simp at hd hx
            subst hd; subst hx
            exact k2.vt (fun i q j c _ _ _ => ⟨n, rfl, .inl (by omega)⟩) v1
          | succ k =>
            simp at hd hx
            have := v2 k d' x' hd hx
            rwa [show n + 1 + k = n + (k + 1) by omega] at this
        · refine (k1.trans k2).weaken fun p hp => ?_
          obtain ⟨j, hj, hjn⟩ := hp
          simp at hjn
          exact ⟨⟨j, hj, by omega⟩, j, hj, by omega⟩
      · cases ht
    · cases ht

theorem resD_rel (H : LyOK P L) (h : Rel X G s a w) {fn : Func} {d : D} (hr : resD L X.ro s fn.results.toList = some (d, s1)) :
    ∃ v G', (results fn a.tmps).run P w = .ok v w ∧ Rel X G' s1 a w ∧ VT w G' s1.m (.air 0) d v := by
  unfold resD at hr
  have hrun : ∀ vs : List Value, (fn.results.toList.mapM (resG a.tmps)).run P w = .ok vs w → (results fn a.tmps).run P w = .ok (if h : vs.toArray.size = 1 then vs.toArray[0] else .tuple vs.toArray) w := by
    intro vs hvs
    unfold results
    simp only [Array.mapM_eq_mapM_toList, Sem.run_bind]
    have e3 : ∀ g : ResultVar → Sem Value, (∀ x, g x = resG a.tmps x) → (fn.results.toList.mapM g).run P w = .ok vs w := fun g hg => by
      rw [show g = resG a.tmps from funext hg]
      exact hvs
    rw [Sem.run_map, e3 _ (fun x => by cases x <;> rfl)]
    rfl
  split at hr
  · rename_i d' s' hl
    cases hr
    obtain ⟨vs, G1, q1, r1, l1, l2, t1, v1, _⟩ := resL_rel H h hl 0
    obtain ⟨v, rfl⟩ := List.length_eq_one_iff.1 (show vs.length = 1 by rw [l1]; rfl)
    exact ⟨v, G1, by rw [hrun _ q1]; rfl, r1, v1 0 d v rfl rfl⟩
  · rename_i ds s' hne hl
    cases hr
    obtain ⟨vs, G1, q1, r1, l1, l2, t1, v1, _⟩ := resL_rel H h hl 1
    obtain ⟨G2, r2, v2, _⟩ := tupL ds vs G1 1 0 r1 (by omega) (fun j d u hd hu => ⟨v1 j d u hd hu, t1 d (List.mem_of_getElem? hd)⟩)
    have hsz : vs.toArray.size ≠ 1 := by
      simp only [List.size_toArray]
      rw [l1]
      intro e
      obtain ⟨d0, rfl⟩ := List.length_eq_one_iff.1 e
      exact hne d0 rfl
    have hr2 := hrun _ q1
    rw [dif_neg hsz] at hr2
    refine ⟨_, G2, hr2, r2, ⟨_, rfl, l1, fun i d u hd hu => ?_⟩⟩
    have := v2 i d u hd hu
    rwa [Nat.zero_add] at this
  · cases hr

noncomputable def num : Nat → List D → List (Nat × D)
  | _, [] => []
  | k, d :: r => (k, d) :: num (k + 1) r
theorem lk_num : ∀ (ds : List D) (k t : Nat), lk t (num k ds) = if k ≤ t then ds[t - k]? else none
  | [], k, t => by simp [num, lk_nil]
  | d :: r, k, t => by
    simp only [num, lk_cons]
    by_cases h : k = t
    · subst h
      simp
    · rw [if_neg h, lk_num r]
      by_cases h2 : k ≤ t
      · rw [if_pos h2, if_pos (by omega)]
        obtain ⟨j, rfl⟩ : ∃ j, t = k + 1 + j := ⟨t - (k + 1), by omega⟩
        rw [show k + 1 + j - (k + 1) = j by omega, show k + 1 + j - k = j + 1 by omega]
        rfl
      · rw [if_neg h2, if_neg (by omega)]

noncomputable def m0 (ro : Nat) : Mt := ⟨⟨[]⟩, ⟨[]⟩, ⟨[]⟩, 0, 0, ro⟩
/-- A frame's state at its start. -/
noncomputable def s0 (ro : Nat) (args : List D) (sto : List Ob) : DS := ⟨num 0 args, [], sto, m0 ro⟩
noncomputable def Frm (n : Nat) (vs : List Value) : Act := ⟨vs.toArray ++ Array.replicate (n - vs.length) undef, []⟩

/-- What a call of a function answers, and leaves in the store. -/
noncomputable def Tri (P : Program) (f ro : Nat) (args : List D) (sto : List Ob) (R : D → List Ob → Prop) : Prop :=
  ∃ fn, P.funcs[f]? = some fn ∧ (fn.body.isNone = false ∧ (fn.name == "runtime.NumGoroutine") = false) ∧ args.length ≤ fn.ntmps ∧ ro ≤ sto.length ∧ ∀ (G0 : Gh) (w : World) (vs : List Value), vs.length = args.length →
    Rel ⟨fn.ntmps, ro, sto.length, w, G0, []⟩ G0 (s0 ro args sto) (Frm fn.ntmps vs) w →
    Calls P f vs.toArray w fun e w' => match e with
      | .returned v => ∃ d s' G' a', R d s'.sto ∧ Rel ⟨fn.ntmps, ro, sto.length, w, G0, []⟩ G' s' a' w' ∧ VT w' G' s'.m (.air 0) d v
      | _ => False

theorem Tri.mono {f ro : Nat} {args : List D} {sto : List Ob} {R R' : D → List Ob → Prop} (h : Tri P f ro args sto R) (hr : ∀ d l, R d l → R' d l) : Tri P f ro args sto R' := by
  obtain ⟨fn, h1, h2, h3, h4, h5⟩ := h
  refine ⟨fn, h1, h2, h3, h4, fun G0 w vs hl hR => (h5 G0 w vs hl hR).mono fun e w' he => ?_⟩
  cases e with
  | returned v => obtain ⟨d, s', G', a', q1, q2⟩ := he; exact ⟨d, s', G', a', hr _ _ q1, q2⟩
  | panicked c => exact he.elim
  | outgrown => exact he.elim

/-- A function's triple out of its body's. -/
theorem Tri.of_ok {f ro : Nat} {args : List D} {sto : List Ob} {R : D → List Ob → Prop} {fn : Func} {code : Code} {L : Ly} {c : FC} (H : LyOK P L) (hf : P.funcs[f]? = some fn) (hb : fn.body = some code) (hn : (fn.name == "runtime.NumGoroutine") = false) (hc : c.n = fn.ntmps ∧ c.kp = []) (hl : args.length ≤ fn.ntmps) (hro : ro ≤ sto.length)
    (h : Ok P ⟨L, c, ro, sto.length⟩ code (s0 ro args sto) (fun x s' => match x with
      | .out _ => False
      | _ => ∃ d s'', resD L ro s' fn.results.toList = some (d, s'') ∧ R d s''.sto)) : Tri P f ro args sto R := by
  refine ⟨fn, hf, ⟨by rw [hb]; rfl, hn⟩, hl, hro, fun G0 w vs hvl hR => ?_⟩
  refine calls_of_wp hf hb ?_
  have := h ⟨fn.ntmps, ro, sto.length, w, G0, []⟩ G0 (Frm fn.ntmps vs) w ⟨hc.1, rfl, rfl, hc.2⟩ hR
  have e : (⟨vs.toArray ++ Array.replicate (fn.ntmps - vs.toArray.size) undef, []⟩ : Act) = Frm fn.ntmps vs := by simp [Frm]
  rw [e]
  refine wp_mono this ?_
  rintro e a' w' ⟨x, s', G', h1, h2, h3⟩
  subst h1
  have fin : (∃ d s'', resD L ro s' fn.results.toList = some (d, s'') ∧ R d s''.sto) → a'.defers = [] ∧ ∃ v, (results fn a'.tmps).run P w' = .ok v w' ∧ ∃ d s' G' a', R d s'.sto ∧ Rel ⟨fn.ntmps, ro, sto.length, w, G0, []⟩ G' s' a' w' ∧ VT w' G' s'.m (.air 0) d v := by
    rintro ⟨d, s'', q1, q2⟩
    obtain ⟨v, G2, r1, r2, r3⟩ := resD_rel (P := P) H h3 q1
    exact ⟨h3.defers, v, r1, d, s'', G2, a', q2, r2, r3⟩
  cases x with
  | nx => exact fin h2
  | ret => exact fin h2
  | out id => exact h2.elim
end

end Go.Lv
