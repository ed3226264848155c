/-
  A4: own lists on their way: taken out of a slot, put elsewhere, looked at, kept for good.
-/
import Derived.Test.YtpfoccpolaggiaaA3
set_option linter.all false
namespace Go.Lv

/-! ### A map over a value's cells -/
theorem mapIx_get (f : Nat → D → D) : ∀ (cs : List D) (k j : Nat), (mapIx f k cs)[j]? = (cs[j]?).map (f (k + j))
  | [], k, j => by simp [mapIx]
  | c :: r, k, 0 => by simp [mapIx]
  | c :: r, k, j + 1 => by
    simp only [mapIx, List.getElem?_cons_succ]
    rw [mapIx_get f r (k + 1) j]
    congr 2
    omega
theorem mapIx_length (f : Nat → D → D) : ∀ (cs : List D) (k : Nat), (mapIx f k cs).length = cs.length
  | [], _ => rfl
  | _ :: r, k => by simp [mapIx, mapIx_length f r (k + 1)]
theorem mapIx_id : ∀ (cs : List D) (k : Nat), mapIx (fun _ c => c) k cs = cs
  | [], _ => rfl
  | c :: r, k => by simp [mapIx, mapIx_id r (k + 1)]
theorem mapAt_id (d : D) : mapAt (fun _ c => c) d = d := by
  cases d <;> simp [mapAt, mapIx_id]
theorem mapTop_id (d : D) : mapTop (fun _ _ c => c) d = d := by
  cases d with
  | tup ds =>
    have : (fun (i : Nat) (d : D) => mapAt (fun _ c => c) d) = fun _ d => d := by funext i d; exact mapAt_id d
    simp only [mapTop, this, mapIx_id]
  | _ => simp [mapTop, mapAt, mapIx_id]

theorem VC.plain {w : World} {G : Gh} {m : Mt} {p : Place} {d : D} {v : Value} (h : VC w G m p d v) : (∀ cs, d ≠ .agg cs) ∧ ∀ ds, d ≠ .tup ds := by
  cases d <;> first | exact False.elim h | (refine ⟨?_, ?_⟩ <;> intro x hx <;> cases hx)

section
variable {w w' : World} {G G' : Gh} {m m' : Mt}
theorem VP.map {r r' : Root} {i i' : Nat} {d : D} {v : Value} (F : Nat → D → D) (hF : ∀ j c u, VC w G m ⟨r, i, j⟩ c u → VC w' G' m' ⟨r', i', j⟩ (F j c) u) (h : VP w G m r i d v) : VP w' G' m' r' i' (mapAt F d) v := by
  cases d with
  | agg cs =>
    obtain ⟨vs, rfl, hl, h1⟩ := h
    refine ⟨vs, rfl, by rw [mapIx_length]; exact hl, fun j d u hd hu => ?_⟩
    rw [mapIx_get] at hd
    obtain ⟨c, hc, rfl⟩ := Option.map_eq_some_iff.1 hd
    rw [Nat.zero_add]
    exact hF j c u (h1 j c u hc hu)
  | _ =>
    rw [VP_cell (by intro cs h; cases h)] at h
    have h2 := hF 0 _ _ h
    simp only [mapAt]
    rw [VP_cell h2.plain.1]
    exact h2
theorem VP.notup {r : Root} {i : Nat} {d : D} {v : Value} (h : VP w G m r i d v) : ∀ ds, d ≠ .tup ds := by
  intro ds e
  subst e
  exact h
theorem VT.map {r r' : Root} {d : D} {v : Value} (F : Nat → Nat → D → D) (hF : ∀ i j c u, VC w G m ⟨r, i, j⟩ c u → VC w' G' m' ⟨r', i, j⟩ (F i j c) u) (h : VT w G m r d v) : VT w' G' m' r' (mapTop F d) v := by
  cases d with
  | tup ds =>
    obtain ⟨vs, rfl, hl, h1⟩ := h
    refine ⟨vs, rfl, by rw [mapIx_length]; exact hl, fun j d u hd hu => ?_⟩
    rw [mapIx_get] at hd
    obtain ⟨c, hc, rfl⟩ := Option.map_eq_some_iff.1 hd
    rw [Nat.zero_add]
    exact (h1 j c u hc hu).map (F j) (hF j)
  | _ =>
    rw [VT_part (by intro cs h; cases h)] at h
    have h2 := VP.map (r' := r') (i' := 0) (F 0) (hF 0) h
    simp only [mapTop]
    rw [VT_part h2.notup]
    exact h2
end

/-! ### Another owner -/
noncomputable def Gh.mv (G : Gh) (f g : Place → Option Place) : Gh :=
  { G with
    own := fun b => match G.own b with
      | some (.lst p) => some (.lst ((f p).getD p))
      | o => o
    pl := fun q => match g q with
      | some p => G.pl p
      | none => G.pl q }

section
variable {w : World} {G : Gh} {m m' : Mt} {f g : Place → Option Place}
theorem mv_own_lst {b : Nat} {p : Place} (h : G.own b = some (.lst p)) : (G.mv f g).own b = some (.lst ((f p).getD p)) := by simp [Gh.mv, h]
theorem mv_own_other {b : Nat} (h : ∀ p, G.own b ≠ some (.lst p)) : (G.mv f g).own b = G.own b := by
  simp only [Gh.mv]
theorem mv_keeps (he : m'.ep = m.ep) (hr : ∀ r, m.rv r ≤ m'.rv r) (ha : ∀ t, m.al t ≤ m'.al t) (hg : m.era ≤ m'.era) (hpl : ∀ q p, g q = some p → q.r.isAir = true ∨ m'.rv q.r ≠ m.rv q.r) :
    Keeps w G m w (G.mv f g) m' (fun p => f p = none ∧ g p = none) where
  be := fun _ _ h => h
  st := fun _ _ h => h
  cell := fun _ _ _ _ _ => rfl
  ep := by omega
  rv := hr
  al := ha
  era := hg
  rd := fun _ b n h => ⟨by
    rcases h with h | ⟨⟨p, hp⟩, hn⟩
    · exact .inl h
    · exact .inr ⟨⟨_, mv_own_lst hp⟩, hn⟩, fun _ _ => rfl⟩
  pl := fun p ha hv => by
    simp only [Gh.mv]
    cases hg' : g p with
    | none => rfl
    | some q => rcases hpl p q hg' with h | h <;> simp_all
  la := fun _ _ => rfl
  own := fun b p hk h => ⟨by rw [mv_own_lst h, hk.1]; rfl, rfl, fun _ => ⟨rfl, rfl⟩⟩
  opl := fun p hk => by simp only [Gh.mv, hk.2]
  mp := fun _ k b es clock hb hh => ⟨es, clock, hh, fun i x hx => ⟨x, hx, rfl⟩⟩

theorem VC.mv (K : Keeps w G m w (G.mv f g) m' (fun p => f p = none ∧ g p = none)) {p q : Place} (hf : f p = some q) (hg : g q = some p) {d : D} {v : Value} (h : VC w G m p d v) : VC w (G.mv f g) m' q d v := by
  by_cases hd : isOwn d = true
  · obtain ⟨sz, xs, rfl⟩ := isOwn_eq hd
    rcases h with h | ⟨hz, b, off, cap, rfl, hc, ho, hfin, hpl, hcell, hrows⟩
    · exact .inl h
    · refine .inr ⟨hz, b, off, cap, rfl, hc, by rw [mv_own_lst ho, hf]; rfl, hfin, ?_, hcell, hrows⟩
      simp only [Gh.mv, hg]
      exact hpl
  · exact (K.vc (fun h => absurd h hd) h).any (by simpa using hd)
end

section
variable {w w' : World} {G G' : Gh} {m m' : Mt} {kp : Place → Prop}
/-- What an own list's place still tells when the list has gone. -/
theorem VC.left (K : Keeps w G m w' G' m' kp) (he : m'.ep = m.ep) {p q : Place} {d : D} {v : Value} (h : VC w G m p d v) : VC w' G' m' q (leftC m.ep d) v := by
  by_cases hd : isOwn d = true
  · obtain ⟨sz, xs, rfl⟩ := isOwn_eq hd
    rcases h with ⟨rfl, rfl⟩ | ⟨hz, b, off, cap, rfl, hc, ho, hfin, hpl, hcell, hrows⟩
    · exact ⟨none, 0, rfl, by omega, fun _ => .inl rfl, fun _ _ h => by cases h⟩
    · obtain ⟨r1, r2⟩ := K.rd he b (off + xs.length * sz) (.inr ⟨⟨p, ho⟩, by omega⟩)
      exact ⟨_, cap, rfl, by omega, fun _ => .inr ⟨b, off, sz, rfl, hz, hc, r1, hrows.mono K.be K.st K.cell r2⟩, fun _ _ h => by cases h⟩
  · have : leftC m.ep d = d := by
      cases d with
      | list k xs => cases k <;> simp_all [isOwn, leftC]
      | _ => rfl
    rw [this]
    exact (K.vc (fun h => absurd h hd) h).any (by simpa using hd)
/-- What is seen when an own list is looked at. -/
theorem VC.look (K : Keeps w G m w' G' m' kp) (he : m'.ep = m.ep) {p q : Place} (hp : p.r.isAir = false) (hk : kp p) {d : D} {v : Value} (h : VC w G m p d v) : VC w' G' m' q (lookC m'.ep p (m'.rv p.r) d) v := by
  by_cases hd : isOwn d = true
  · obtain ⟨sz, xs, rfl⟩ := isOwn_eq hd
    have h' := K.vc (fun _ => hk) h
    rcases h' with ⟨rfl, rfl⟩ | ⟨hz, b, off, cap, rfl, hc, ho, hfin, hpl, hcell, hrows⟩
    · exact ⟨none, 0, rfl, Nat.le_refl _, fun _ => .inl rfl, fun p' n h => by cases h; exact ⟨hp, Nat.le_refl _, fun _ => .inl rfl⟩⟩
    · refine ⟨_, cap, rfl, Nat.le_refl _, fun _ => .inr ⟨b, off, sz, rfl, hz, hc, .inr ⟨⟨p, ho⟩, by omega⟩, hrows⟩, fun p' n h => ?_⟩
      cases h
      exact ⟨hp, Nat.le_refl _, fun _ => .inr ⟨by rw [hpl], hc⟩⟩
  · have : lookC m'.ep p (m'.rv p.r) d = d := by
      cases d with
      | list k xs => cases k <;> simp_all [isOwn, lookC]
      | _ => rfl
    rw [this]
    exact (K.vc (fun h => absurd h hd) h).any (by simpa using hd)
end

/-! ### For good -/
/-- All that a root owned stays as it is. -/
noncomputable def Gh.fr (G : Gh) (r : Root) : Gh :=
  open Classical in
  { G with
    own := fun b => if ∃ p, G.own b = some (.lst p) ∧ p.r = r then none else G.own b
    st := fun b n => G.st b n ∨ ((∃ p, G.own b = some (.lst p) ∧ p.r = r) ∧ n ≤ G.fin b) }

section
variable {w : World} {G : Gh} {m : Mt} {r : Root}
theorem fr_own_ne {b : Nat} (h : ∀ p, G.own b = some (.lst p) → p.r ≠ r) : (G.fr r).own b = G.own b := by
  simp only [Gh.fr]
  rw [if_neg]
  rintro ⟨p, h1, h2⟩
  exact h p h1 h2
theorem fr_keeps : Keeps w G m w (G.fr r) m (fun p => p.r ≠ r) where
  be := fun _ _ h => h
  st := fun _ _ h => .inl h
  cell := fun _ _ _ _ _ => rfl
  ep := Nat.le_refl _
  rv := fun _ => Nat.le_refl _
  al := fun _ => Nat.le_refl _
  era := Nat.le_refl _
  rd := fun _ b n h => ⟨by
    rcases h with h | ⟨⟨p, hp⟩, hn⟩
    · exact .inl (.inl h)
    · by_cases hr : p.r = r
      · exact .inl (.inr ⟨⟨p, hp, hr⟩, hn⟩)
      · refine .inr ⟨⟨p, ?_⟩, hn⟩
        rw [fr_own_ne (fun q hq => by rw [hp] at hq; cases hq; exact hr)]
        exact hp, fun _ _ => rfl⟩
  pl := fun _ _ _ => rfl
  la := fun _ _ => rfl
  own := fun b p hk h => ⟨by rw [fr_own_ne (fun q hq => by rw [h] at hq; cases hq; exact hk)]; exact h, rfl, fun _ => ⟨rfl, rfl⟩⟩
  opl := fun _ _ => rfl
  mp := fun _ k b es clock hb hh => ⟨es, clock, hh, fun i x hx => ⟨x, hx, rfl⟩⟩

theorem VC.fz {p q : Place} (hp : p.r = r) {d : D} {v : Value} (h : VC w G m p d v) : VC w (G.fr r) m q (fz d) v := by
  by_cases hd : isOwn d = true
  · obtain ⟨sz, xs, rfl⟩ := isOwn_eq hd
    rcases h with ⟨rfl, rfl⟩ | ⟨hz, b, off, cap, rfl, hc, ho, hfin, hpl, hcell, hrows⟩
    · exact .nils _ _
    · by_cases hx : xs = []
      · subst hx
        exact .nils _ _
      · have hs : (G.fr r).st b (off + xs.length * sz) := .inr ⟨⟨p, ho, hp⟩, by omega⟩
        have hK : Keeps w G m w (G.fr r) m (fun p => p.r ≠ r) := fr_keeps
        exact imm_list.2 (.inr ⟨b, off, cap, sz, rfl, List.length_pos_iff.2 hx, hz, hc, hs, hrows.mono hK.be hK.st hK.cell fun _ _ => rfl⟩)
  · have : Lv.fz d = d := by
      cases d with
      | list k xs => cases k <;> simp_all [isOwn, Lv.fz]
      | _ => rfl
    rw [this]
    exact ((fr_keeps (r := r)).vc (fun h => absurd h hd) h).any (by simpa using hd)
theorem VT.fz {r' : Root} {d : D} {v : Value} (h : VT w G m r d v) : VT w (G.fr r) m r' (fzTop d) v :=
  VT.map _ (fun i j c u hc => VC.fz (p := ⟨r, i, j⟩) rfl hc) h
end

theorem fz_own (d : D) : isOwn (fz d) = false := by
  cases d with
  | list k xs => cases k <;> rfl
  | _ => rfl

/-! ### The relation under another count of owners -/
theorem Rel.re {X : Ctx} {G : Gh} {s : DS} {a : Act} {w : World} (h : Rel X G s a w) {G' : Gh} {s' : DS}
    (hown : ∀ b, (∀ p, G.own b ≠ some (.lst p)) → G'.own b = G.own b) (hbe : G'.be = G.be) (hla : G'.la = G.la)
    (hst : ∀ b e, G'.st b e → G.st b e ∨ ∃ p, G.own b = some (.lst p)) (hstow : ∀ b e, G'.st b e → G'.own b = none) (hstd : ∀ b e e', G'.st b e → e' ≤ e → G'.st b e')
    (henv : ∀ t d, lk t s'.env = some d → VT w G' s'.m (.slot t) d (a.tmps.getD t undef))
    (hloc : ∀ t cs, lk t s'.loc = some cs → (∃ cs0, lk t s.loc = some cs0) ∧ BoxV w G' s'.m (.lbox t) (G.la t) cs)
    (hro : s'.m.ro = s.m.ro) (hlen : s'.sto.length = s.sto.length) (hsto : ∀ k o b, s'.sto[k]? = some o → G.be k = some b → ObV w G' s'.m X.ro k b o) : Rel X G' s' a w where
  size := h.size
  defers := h.defers
  env := henv
  loc := fun t cs ht => by
    obtain ⟨⟨cs0, h0⟩, h1⟩ := hloc t cs ht
    have h2 := (h.loc t cs0 h0).1
    refine ⟨?_, by rw [hla]; exact h1⟩
    rw [hla, hown _ (by rw [h2]; intro p hp; cases hp)]
    exact h2
  sto := fun k o hk => by
    have hk' : k < s.sto.length := by rw [← hlen]; exact (List.getElem?_eq_some_iff.1 hk).1
    obtain ⟨b, h1, h2, h3, _⟩ := h.sto k _ (List.getElem?_eq_getElem hk')
    refine ⟨b, by rw [hbe]; exact h1, ?_, h3, hsto k o b hk h1⟩
    split <;> rename_i hr
    · simp only [hr, if_true] at h2
      rw [hown b (by rw [h2]; intro p hp; cases hp), h2]
    · simp only [hr, if_false] at h2
      rw [hown b (by rw [h2]; intro p hp; cases hp), h2]
  be := fun k hk => by rw [hbe]; exact h.be k (by omega)
  new := fun b hb => by
    obtain ⟨h1, h2⟩ := h.new b hb
    refine ⟨by rw [hown b (by rw [h1]; intro p hp; cases hp), h1], fun e he => ?_⟩
    rcases hst b e he with h3 | ⟨p, hp⟩
    · exact h2 e h3
    · rw [h1] at hp; cases hp
  stow := hstow
  std := hstd
  old := fun b hb h0 => by
    obtain ⟨h1, h2, h3⟩ := h.old b hb h0
    refine ⟨h1, by rw [hown b (by rw [h2]; intro p hp; cases hp), h2], fun e he => ?_⟩
    rcases hst b e he with h4 | ⟨p, hp⟩
    · exact h3 e h4
    · rw [h2] at hp; cases hp
  os := h.os
  tape := h.tape
  output := h.output
  grow := h.grow
  ro := by rw [hlen]; exact h.ro
  rom := hro.trans h.rom
  be0 := fun k hk => by rw [hbe]; exact h.be0 k hk
  n0 := by rw [hlen]; exact h.n0
  la0 := fun t ht => by rw [hla]; exact h.la0 t ht

/-- Boxes that are not touched. -/
theorem Rel.locK {X : Ctx} {G G' : Gh} {s : DS} {m' : Mt} {a : Act} {w : World} (h : Rel X G s a w) {kp : Place → Prop} (K : Keeps w G s.m w G' m' kp) (hk : ∀ t j, kp ⟨.lbox t, 0, j⟩) {t : Nat} {cs : List D} (ht : lk t s.loc = some cs) : BoxV w G' m' (.lbox t) (G.la t) cs :=
  K.box (fun j c _ _ => hk t j) (fun _ => ⟨rfl, rfl⟩) (h.loc t cs ht).2
theorem Rel.stoK {X : Ctx} {G G' : Gh} {s : DS} {m' : Mt} {a : Act} {w : World} (h : Rel X G s a w) {kp : Place → Prop} (K : Keeps w G s.m w G' m' kp) (hk : ∀ t j, kp ⟨.gbox t, 0, j⟩) {k b : Nat} {o : Ob} (ht : s.sto[k]? = some o) (hb : G.be k = some b) : ObV w G' m' X.ro k b o := by
  obtain ⟨b', h1, h2, h3, h4⟩ := h.sto k o ht
  rw [hb] at h1
  cases h1
  cases o with
  | map es => exact h4
  | box cs =>
    simp only [ObV] at h4 ⊢
    split <;> rename_i hr
    · simp only [hr, if_true] at h4
      intro j d hd
      obtain ⟨u, h5, h6⟩ := h4 j d hd
      exact ⟨u, h5, K.imm h6⟩
    · simp only [hr, if_false] at h4
      exact K.box (fun j c _ _ => hk k j) (fun _ => ⟨rfl, rfl⟩) h4

theorem mv_stow {G : Gh} {f g : Place → Option Place} (h : ∀ b e, G.st b e → G.own b = none) : ∀ b e, (G.mv f g).st b e → (G.mv f g).own b = none := by
  intro b e hs
  have h0 : G.own b = none := h b e hs
  rw [mv_own_other (by rw [h0]; intro p hp; cases hp), h0]

/-! ### An operand taken -/
noncomputable def airOf (t n : Nat) (p : Place) : Option Place := if p.r = .slot t then some ⟨.air n, p.i, p.j⟩ else none
noncomputable def slotOf (t n : Nat) (p : Place) : Option Place := if p.r = .air n then some ⟨.slot t, p.i, p.j⟩ else none

theorem takeO_rel {X : Ctx} {G : Gh} {s s1 : DS} {a : Act} {w : World} (h : Rel X G s a w) {x : Operand} {d : D} (hx : takeO s x = some (d, s1)) (n : Nat) :
    ∃ G1, Rel X G1 s1 a w ∧ VT w G1 s1.m (.air n) d (a.eval x) ∧ Keeps w G s.m w G1 s1.m (fun p => p.r ≠ .air n ∧ ∀ t, x = .tmp t → p.r ≠ .slot t) ∧ s1.sto = s.sto ∧ s1.loc = s.loc ∧ s1.m.ep = s.m.ep ∧ s1.m.al = s.m.al ∧ s1.m.era = s.m.era := by
  by_cases hd : hasOwn d = false
  · have hs : s1 = s := by
      cases x with
      | tmp t =>
        simp only [takeO] at hx
        split at hx
        · split at hx
          · rename_i ho
            simp only [Option.some.injEq, Prod.mk.injEq] at hx
            rw [hx.1, hd] at ho
            cases ho
          · cases hx; rfl
        · cases hx
      | _ => simp only [takeO] at hx; split at hx <;> first | (cases hx; rfl) | cases hx
    subst hs
    have hl : lookO s1 x = some d := by
      cases x with
      | tmp t =>
        simp only [takeO] at hx
        split at hx
        · rename_i d' hl
          split at hx
          · rename_i ho
            simp only [Option.some.injEq, Prod.mk.injEq] at hx
            rw [hx.1, hd] at ho
            cases ho
          · cases hx; exact hl
        · cases hx
      | _ => simp only [takeO] at hx; split at hx <;> first | (rename_i hl; cases hx; exact hl) | cases hx
    exact ⟨G, h, lookO_vt h hl _ hd, Keeps.refl _ _ _ _, rfl, rfl, rfl, rfl, rfl⟩
  · have hd : hasOwn d = true := by simpa using hd
    cases x with
    | tmp t =>
      simp only [takeO] at hx
      split at hx
      · rename_i d' hl
        split at hx
        · cases hx
          have K : Keeps w G s.m w (G.mv (airOf t n) (slotOf t n)) (s.m.bS t) (fun p => airOf t n p = none ∧ slotOf t n p = none) :=
            mv_keeps rfl (bS_rv _ _) (fun _ => Nat.le_refl _) (Nat.le_refl _) (fun q p hq => by
              left
              simp only [slotOf] at hq
              split at hq
              · rename_i e; rw [e]; rfl
              · cases hq)
          have hv := h.env t d hl
          refine ⟨G.mv (airOf t n) (slotOf t n), ?_, ?_, ?_, rfl, rfl, rfl, rfl, rfl⟩
          · refine h.re (fun b hb => mv_own_other hb) rfl rfl (fun b e he => .inl he) (mv_stow h.stow) h.std (fun u e hu => ?_) (fun u cs hu => ⟨⟨cs, hu⟩, h.locK K (fun t j => ⟨by simp [airOf], by simp [slotOf]⟩) hu⟩) rfl rfl (fun k o b hk hb => h.stoK K (fun t j => ⟨by simp [airOf], by simp [slotOf]⟩) hk hb)
            have hu' : lk u (ins t (leftTop s.m.ep d) s.env) = some e := hu
            rw [lk_ins] at hu'
            by_cases e' : u = t
            · subst e'
              simp at hu'
              subst hu'
              exact VT.map _ (fun i j c u hc => VC.left K rfl hc) hv
            · simp only [e', if_false] at hu'
              refine K.vt (fun i q j c _ _ _ => ⟨?_, by simp [slotOf]⟩) (h.env u e hu')
              simp [airOf, e']
          · have := VT.map (r' := .air n) (fun _ _ c => c) (fun i j c u hc => VC.mv K (p := ⟨.slot t, i, j⟩) (by simp [airOf]) (by simp [slotOf]) hc) hv
            rwa [mapTop_id] at this
          · refine K.weaken fun p hp => ⟨?_, ?_⟩
            · simp only [airOf]
              rw [if_neg (hp.2 t rfl)]
            · simp only [slotOf]
              rw [if_neg hp.1]
        · rename_i ho
          simp only [Option.some.injEq, Prod.mk.injEq] at hx
          rw [hx.1] at ho
          exact absurd hd ho
      · cases hx
    | const v =>
      simp only [takeO] at hx
      split at hx
      · rename_i hl
        cases hx
        exact ⟨G, h, dOf_vt hl, Keeps.refl _ _ _ _, rfl, rfl, rfl, rfl, rfl⟩
      · cases hx
    | func f =>
      simp only [takeO, lookO] at hx
      cases hx
      simp [hasOwn, anyTop, anyAt, isOwn] at hd
    | global g => simp [takeO, lookO] at hx

/-- What was taken lies in a slot. -/
theorem Rel.land {X : Ctx} {G : Gh} {s : DS} {a : Act} {w : World} (h : Rel X G s a w) {t n : Nat} {d : D} {v : Value} (ht : t < X.n) (hv : VT w G s.m (.air n) d v) : ∃ G1, Rel X G1 (putS t d s) (a.put (some t) v) w := by
  by_cases hd : hasOwn d = false
  · refine ⟨G, h.put ht ?_⟩
    refine VT.any ?_ hd (r := .air n)
    refine Keeps.vt (w := w) (G := G) (m := s.m) (kp := fun _ => True) ?_ (fun _ _ _ _ _ _ _ => trivial) hv
    refine Keeps.of_counts ?_ ?_ ?_ ?_ <;> simp only [putS] <;> split <;> first | rfl | (intro r; first | exact bS_rv _ _ _ | exact Nat.le_refl _) | exact Nat.le_refl _
  · have hd : hasOwn d = true := by simpa using hd
    have K : Keeps w G s.m w (G.mv (slotOf t n) (airOf t n)) (s.m.bS t) (fun p => slotOf t n p = none ∧ airOf t n p = none) :=
      mv_keeps rfl (bS_rv _ _) (fun _ => Nat.le_refl _) (Nat.le_refl _) (fun q p hq => by
        right
        simp only [airOf] at hq
        split at hq
        · rename_i e
          rw [e]
          simp [Mt.rv, Mt.bS]
        · cases hq)
    have h1 : Rel X (G.mv (slotOf t n) (airOf t n)) { s with env := del t s.env, m := s.m.bS t } a w := by
      refine h.re (fun b hb => mv_own_other hb) rfl rfl (fun b e he => .inl he) (mv_stow h.stow) h.std (fun u e hu => ?_) (fun u cs hu => ⟨⟨cs, hu⟩, h.locK K (fun t j => ⟨by simp [slotOf], by simp [airOf]⟩) hu⟩) rfl rfl (fun k o b hk hb => h.stoK K (fun t j => ⟨by simp [slotOf], by simp [airOf]⟩) hk hb)
      have hu' : lk u (del t s.env) = some e := hu
      rw [lk_del] at hu'
      by_cases e' : u = t
      · simp [e'] at hu'
      · simp only [e', if_false] at hu'
        exact K.vt (fun i q j c _ _ _ => ⟨by simp [slotOf], by simp [airOf, e']⟩) (h.env u e hu')
    have hv1 : VT w (G.mv (slotOf t n) (airOf t n)) (s.m.bS t) (.slot t) d v := by
      have := VT.map (r' := .slot t) (fun _ _ c => c) (fun i j c u hc => VC.mv K (p := ⟨.air n, i, j⟩) (by simp [slotOf]) (by simp [airOf]) hc) hv
      rwa [mapTop_id] at this
    have hs : putS t d s = { s with env := ins t d s.env, m := s.m.bS t } := by simp [putS, hd]
    refine ⟨G.mv (slotOf t n) (airOf t n), ?_⟩
    rw [hs]
    refine { size := by simp [Act.put, h1.size], defers := h1.defers, env := fun u e hu => ?_, loc := h1.loc, sto := h1.sto, be := h1.be, new := h1.new, stow := h1.stow, std := h1.std, old := h1.old, os := h1.os, tape := h1.tape, output := h1.output, grow := h1.grow, ro := h1.ro, rom := h1.rom, be0 := h1.be0, n0 := h1.n0, la0 := h1.la0 }
    rw [Act.put_getD a t u v (by rw [h.size]; exact ht)]
    have hu' : lk u (ins t d s.env) = some e := hu
    rw [lk_ins] at hu'
    by_cases e' : u = t
    · subst e'
      simp at hu'
      subst hu'
      simpa using hv1
    · simp only [e', if_false] at hu' ⊢
      exact h1.env u e (by show lk u (del t s.env) = some e; rw [lk_del]; simp [e', hu'])

/-- What was taken is for good. -/
theorem Rel.freeze {X : Ctx} {G : Gh} {s : DS} {a : Act} {w : World} (h : Rel X G s a w) (n : Nat) : Rel X (G.fr (.air n)) s a w ∧ Keeps w G s.m w (G.fr (.air n)) s.m (fun p => p.r ≠ .air n) := by
  refine ⟨?_, fr_keeps⟩
  have K : Keeps w G s.m w (G.fr (.air n)) s.m (fun p => p.r ≠ .air n) := fr_keeps
  refine h.re (fun b hb => fr_own_ne (fun p hp => absurd hp (hb p))) rfl rfl (fun b e he => ?_) (fun b e he => ?_) (fun b e e' he hee => ?_) (fun u e hu => K.vt (fun i q j c _ _ _ => by simp) (h.env u e hu)) (fun u cs hu => ⟨⟨cs, hu⟩, h.locK K (fun t j => by simp) hu⟩) rfl rfl (fun k o b hk hb => h.stoK K (fun t j => by simp) hk hb)
  · rcases he with he | ⟨⟨p, hp, _⟩, _⟩
    · exact .inl he
    · exact .inr ⟨p, hp⟩
  · rcases he with he | ⟨hp, _⟩
    · have h0 : G.own b = none := h.stow b e he
      rw [fr_own_ne (by rw [h0]; intro p hp; cases hp), h0]
    · simp only [Gh.fr]
      rw [if_pos hp]
  · rcases he with he | ⟨hp, hn⟩
    · exact .inl (h.std b e e' he hee)
    · exact .inr ⟨hp, by omega⟩

end Go.Lv
