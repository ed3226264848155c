/-
  A16: stores; loads that take.
-/
import Derived.Test.YtpfoccpolaggiaaA15
set_option linter.all false
namespace Go.Lv

section
variable {P : Program} {L : Ly} {X : Ctx} {G G' : Gh} {s s' : DS} {a a' : Act} {w w' : World} {c : FC} {b : Nat} {m m' : Mt}

/-! ### A cell of a value turned -/
theorem VP.set {r : Root} {i j : Nat} {q x y : D} {v : Value} (h : VP w G m r i q v) (hq : cellAt q j = some x)
    (ho : ∀ j' c u, j' ≠ j → VC w G m ⟨r, i, j'⟩ c u → VC w' G' m' ⟨r, i, j'⟩ c u) (hx : ∀ u, VC w G m ⟨r, i, j⟩ x u → VC w' G' m' ⟨r, i, j⟩ y u) : VP w' G' m' r i (setCellD q j y) v := by
  have key : ∀ d : D, (∀ cs, d ≠ .agg cs) → VP w G m r i d v → cellAt d j = some x → setCellD d j y = y → VP w' G' m' r i (setCellD d j y) v := by
    intro d hd h hc hs
    have hj : j = 0 ∧ d = x := by
      cases d with
      | agg cs => exact absurd rfl (hd cs)
      | _ => simp only [cellAt] at hc; split at hc <;> first | (rename_i e; cases hc; exact ⟨e, rfl⟩) | cases hc
    obtain ⟨rfl, rfl⟩ := hj
    rw [VP_cell hd] at h
    have h1 := hx v h
    rw [hs, VP_cell h1.plain.1]
    exact h1
  cases q with
  | agg cs =>
    obtain ⟨vs, rfl, hl, h1⟩ := h
    refine ⟨vs, rfl, by simpa using hl, fun j' d u hd hu => ?_⟩
    by_cases e : j' = j
    · subst e
      have hlt : j' < cs.length := (List.getElem?_eq_some_iff.1 hq).1
      rw [List.getElem?_set_self hlt] at hd
      cases hd
      exact hx u (h1 j' x u hq hu)
    · rw [List.getElem?_set_ne (fun q => e q.symm)] at hd
      exact ho j' d u e (h1 j' d u hd hu)
  | _ => exact key _ (by intro cs h; cases h) h hq rfl

theorem VT.set {r : Root} {i j : Nat} {d q x y : D} {v : Value} (h : VT w G m r d v) (hp : partAt d i = some q) (hq : cellAt q j = some x)
    (ho : ∀ i' j' c u, ¬ (i' = i ∧ j' = j) → VC w G m ⟨r, i', j'⟩ c u → VC w' G' m' ⟨r, i', j'⟩ c u) (hx : ∀ u, VC w G m ⟨r, i, j⟩ x u → VC w' G' m' ⟨r, i, j⟩ y u) : VT w' G' m' r (setPart d i (setCellD q j y)) v := by
  have key : ∀ d : D, (∀ ds, d ≠ .tup ds) → VT w G m r d v → partAt d i = some q → (∀ z, setPart d i z = z) → VT w' G' m' r (setPart d i (setCellD q j y)) v := by
    intro d hd h hc hs
    have hj : i = 0 ∧ d = q := by
      cases d with
      | tup cs => exact absurd rfl (hd cs)
      | _ => simp only [partAt] at hc; split at hc <;> first | (rename_i e; cases hc; exact ⟨e, rfl⟩) | cases hc
    obtain ⟨rfl, rfl⟩ := hj
    rw [VT_part hd] at h
    have h1 := VP.set h hq (fun j' c u e => ho 0 j' c u (fun z => e z.2)) hx
    rw [hs, VT_part h1.notup]
    exact h1
  cases d with
  | tup ds =>
    obtain ⟨vs, rfl, hl, h1⟩ := h
    refine ⟨vs, rfl, by simpa using hl, fun i' e u hd hu => ?_⟩
    by_cases e' : i' = i
    · subst e'
      have hlt : i' < ds.length := (List.getElem?_eq_some_iff.1 hp).1
      rw [List.getElem?_set_self hlt] at hd
      cases hd
      exact VP.set (h1 i' q u hp hu) hq (fun j' c u e => ho i' j' c u (fun z => e z.2)) hx
    · rw [List.getElem?_set_ne (fun q => e' q.symm)] at hd
      have h2 := h1 i' e u hd hu
      have h3 := VP.map (w' := w') (G' := G') (m' := m') (r' := r) (i' := i') (fun _ c => c) (fun j' c u hc => ho i' j' c u (fun z => e' z.1) hc) h2
      rwa [mapAt_id] at h3
  | _ => exact key _ (by intro cs h; cases h) h hp (fun _ => rfl)

/-! ### An own list's cells turned in place -/
theorem Wr.ownKeeps (W : Wr w w' b) {p : Place} (hb : G.own b = some (.lst p)) (hstow : ∀ b e, G.st b e → G.own b = none) (m : Mt) : Keeps w G m w' G m.bE (fun q => q ≠ p) where
  be := fun _ _ h => h
  st := fun _ _ h => h
  cell := fun b' n o hs _ => W.cell (by rintro rfl; rw [hstow _ _ hs] at hb; cases hb) o
  ep := by simp [Mt.bE]
  rv := fun r => by cases r <;> exact Nat.le_refl _
  al := fun _ => Nat.le_refl _
  era := Nat.le_refl _
  rd := fun he => by simp [Mt.bE] at he
  pl := fun _ _ _ => rfl
  la := fun _ _ => rfl
  own := fun b' q hq ho => by
    have : b' ≠ b := by
      rintro rfl
      rw [ho] at hb
      cases hb
      exact hq rfl
    exact ⟨ho, rfl, fun o => ⟨W.cell this o, W.frozen _⟩⟩
  opl := fun _ _ => rfl
  mp := fun _ k b' es clock _ hh => ⟨es, clock, W.map _ _ _ hh, fun i x hx => ⟨x, hx, rfl⟩⟩

theorem Rel.writeOwn (h : Rel X G s a w) {p : Place} {sz : Nat} {ys ys' : List (List D)} (hp : getPl s p = some (.list (.own sz) ys)) (hr : okR X.ro p.r = true) (W : Wr w w' b) (hb : G.own b = some (.lst p))
    (hnew : ∀ v, OwnL w G p sz ys v → OwnL w' G p sz ys' v) : Rel X G { (setPl s p (.list (.own sz) ys')) with m := (setPl s p (.list (.own sz) ys')).m.bE } a w' := by
  have K := W.ownKeeps hb h.stow s.m
  obtain ⟨r, i, j⟩ := p
  have hbne : ∀ {r'}, G.own b ≠ some (.box r') := by rw [hb]; intro r' e; cases e
  cases r with
  | air n => cases hp
  | slot t =>
    simp only [getPl] at hp
    cases hl : lk t s.env with
    | none => simp [hl] at hp
    | some d =>
      cases hq : partAt d i with
      | none => simp [hl, hq] at hp
      | some q =>
        have hp' : cellAt q j = some (.list (.own sz) ys) := by simpa [hl, hq] using hp
        simp only [setPl, hl, hq]
        refine h.reW W (by rw [hb]; exact fun e => nomatch e) (fun _ _ => rfl) rfl rfl (fun b e he => .inl he) h.stow h.std h.size h.defers (fun u e hu => ?_) (fun u cs hu => ⟨⟨cs, hu⟩, h.locW W K (fun j => by simp) hu (by rintro rfl; exact hbne (h.loc u cs hu).1)⟩) rfl rfl (fun k o b' hk hb' => h.stoW W K (fun j => by simp) hk hb' ?_)
        · have hu' : lk u (ins t (setPart d i (setCellD q j (.list (.own sz) ys'))) s.env) = some e := hu
          rw [lk_ins] at hu'
          by_cases e' : u = t
          · subst e'
            simp at hu'
            subst hu'
            refine VT.set (h.env u d hl) hq hp' (fun i' j' c' x hne hx => K.vc (fun _ => ?_) hx) (fun v hv => hnew v hv)
            intro e
            cases e
            exact hne ⟨rfl, rfl⟩
          · simp only [e', if_false] at hu'
            exact K.vt (fun i' q' j' c' _ _ _ => by simp; intro e''; exact absurd e'' e') (h.env u e hu')
        · rintro rfl
          obtain ⟨b'', h1, h2, _⟩ := h.sto k o hk
          rw [hb'] at h1
          cases h1
          split at h2 <;> (rw [h2] at hb; cases hb)
  | lbox t =>
    simp only [getPl] at hp
    cases hl : lk t s.loc with
    | none => simp [hl] at hp
    | some cs =>
      simp only [hl, Option.bind_some, Option.ite_none_right_eq_some] at hp
      obtain ⟨rfl, hp'⟩ := hp
      simp only [setPl, hl]
      refine h.reW W (by rw [hb]; exact fun e => nomatch e) (fun _ _ => rfl) rfl rfl (fun b e he => .inl he) h.stow h.std h.size h.defers (fun u e hu => K.vt (fun i' q' j' c' _ _ _ => by simp) (h.env u e hu)) (fun u cs' hu => ?_) rfl rfl (fun k o b' hk hb' => h.stoW W K (fun j => by simp) hk hb' ?_)
      · have hu' : lk u (insL t (cs.set j (.list (.own sz) ys')) s.loc) = some cs' := hu
        rw [lk_insL] at hu'
        by_cases e' : u = t
        · subst e'
          simp at hu'
          subst hu'
          obtain ⟨o1, o2⟩ := h.loc u cs hl
          have hne : G.la u ≠ b := by rintro rfl; exact hbne o1
          refine ⟨⟨cs, hl⟩, fun j' d hd => ?_⟩
          by_cases e : j' = j
          · subst e
            rw [List.getElem?_set_self (List.getElem?_eq_some_iff.1 hp').1] at hd
            cases hd
            obtain ⟨x, x1, x2, x3⟩ := o2 j' _ hp'
            exact ⟨x, by rw [W.cell hne]; exact x1, by rw [W.frozen]; exact x2, hnew x x3⟩
          · rw [List.getElem?_set_ne (fun q => e q.symm)] at hd
            obtain ⟨x, x1, x2, x3⟩ := o2 j' _ hd
            exact ⟨x, by rw [W.cell hne]; exact x1, by rw [W.frozen]; exact x2, K.vc (fun _ => by simp; exact e) x3⟩
        · simp only [e', if_false] at hu'
          exact ⟨⟨cs', hu'⟩, h.locW W K (fun j => by simp; intro e''; exact absurd e'' e') hu' (by rintro rfl; exact hbne (h.loc u cs' hu').1)⟩
      · rintro rfl
        obtain ⟨b'', h1, h2, _⟩ := h.sto k o hk
        rw [hb'] at h1
        cases h1
        split at h2 <;> (rw [h2] at hb; cases hb)
  | gbox k =>
    simp only [getPl] at hp
    split at hp
    · rename_i cs hl
      rw [Option.ite_none_right_eq_some] at hp
      obtain ⟨rfl, hp'⟩ := hp
      simp only [setPl, hl]
      have hkr : X.ro ≤ k := by simpa [okR] using hr
      have hne : ∀ k' o b', s.sto[k']? = some o → G.be k' = some b' → b' ≠ b := by
        intro k' o b' hk' hb'
        rintro rfl
        obtain ⟨b'', h1, h2, _⟩ := h.sto k' o hk'
        rw [hb'] at h1
        cases h1
        split at h2 <;> (rw [h2] at hb; cases hb)
      refine h.reW W (by rw [hb]; exact fun e => nomatch e) (fun _ _ => rfl) rfl rfl (fun b e he => .inl he) h.stow h.std h.size h.defers (fun u e hu => K.vt (fun i' q' j' c' _ _ _ => by simp) (h.env u e hu)) (fun u cs' hu => ⟨⟨cs', hu⟩, h.locW W K (fun j => by simp) hu (by rintro rfl; exact hbne (h.loc u cs' hu).1)⟩) rfl (by simp) (fun k' o b' hk' hb' => ?_)
      have hk2 : (s.sto.set k (.box (cs.set j (.list (.own sz) ys'))))[k']? = some o := hk'
      by_cases e : k' = k
      · subst e
        rw [List.getElem?_set_self (List.getElem?_eq_some_iff.1 hl).1] at hk2
        cases hk2
        obtain ⟨b'', h1, h2, h3, h4⟩ := h.sto k' _ hl
        rw [hb'] at h1
        cases h1
        have hn := hne k' _ b' hl hb'
        simp only [ObV] at h4 ⊢
        rw [if_neg (by omega)] at h4 ⊢
        intro j' d hd
        by_cases e : j' = j
        · subst e
          rw [List.getElem?_set_self (List.getElem?_eq_some_iff.1 hp').1] at hd
          cases hd
          obtain ⟨x, x1, x2, x3⟩ := h4 j' _ hp'
          exact ⟨x, by rw [W.cell hn]; exact x1, by rw [W.frozen]; exact x2, hnew x x3⟩
        · rw [List.getElem?_set_ne (fun q => e q.symm)] at hd
          obtain ⟨x, x1, x2, x3⟩ := h4 j' _ hd
          exact ⟨x, by rw [W.cell hn]; exact x1, by rw [W.frozen]; exact x2, K.vc (fun _ => by simp; exact e) x3⟩
      · rw [List.getElem?_set_ne (fun q => e q.symm)] at hk2
        exact h.stoW W K (fun j => by simp; intro e''; exact absurd e'' e) hk2 hb' (hne k' o b' hk2 hb')
    · cases hp
end

end Go.Lv
