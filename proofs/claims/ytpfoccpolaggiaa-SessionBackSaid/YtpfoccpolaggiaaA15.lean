/-
  A15: a block written in place; variables in memory: made, stored to, taken from.
-/
import Derived.Test.YtpfoccpolaggiaaA14
import Derived.Laws.IdiomCopy
set_option linter.all false
namespace Go.Lv

theorem setCells_heap (b : Nat) : ∀ (vs : List Value) (o : Nat) (w : World), (∀ b', b' ≠ b → (w.setCells b o vs).heap[b']? = w.heap[b']?) ∧ (w.setCells b o vs).heap.size = w.heap.size ∧ (w.setCells b o vs).os = w.os ∧ (w.setCells b o vs).tape = w.tape ∧ (w.setCells b o vs).output = w.output ∧
    (∀ (b' : Nat) es clock, w.heap[b']? = some (.map es clock) → (w.setCells b o vs).heap[b']? = some (.map es clock))
  | [], o, w => ⟨fun _ _ => rfl, rfl, rfl, rfl, rfl, fun _ _ _ h => h⟩
  | v :: r, o, w => by
    obtain ⟨h1, h2, h3, h4, h5, h6⟩ := setCells_heap b r (o + 1) (w.setCell ⟨b, o, none⟩ v)
    have e1 : ∀ b', b' ≠ b → (w.setCell ⟨b, o, none⟩ v).heap[b']? = w.heap[b']? := by
      intro b' hb
      simp [World.setCell, Array.getElem?_modify, Ne.symm hb]
    refine ⟨fun b' hb => (h1 b' hb).trans (e1 b' hb), h2.trans (by simp [World.setCell]), h3, h4, h5, fun b' es clock hm => h6 b' es clock ?_⟩
    by_cases hb : b' = b
    · subst hb
      simp [World.setCell, Array.getElem?_modify, hm]
    · rw [e1 b' hb]; exact hm

/-- Some blocks' contents turned; no block came or went. -/
structure Wr (w w' : World) (b : Nat) : Prop where
  heap : ∀ b', b' ≠ b → w'.heap[b']? = w.heap[b']?
  size : w'.heap.size = w.heap.size
  os : w'.os = w.os
  tape : w'.tape = w.tape
  output : w'.output = w.output
  map : ∀ (b' : Nat) es clock, w.heap[b']? = some (.map es clock) → w'.heap[b']? = some (.map es clock)
  frozen : ∀ x, w'.frozen? x = w.frozen? x

theorem Wr.of_setCells (w : World) (b o : Nat) (vs : List Value) : Wr w (w.setCells b o vs) b := by
  obtain ⟨h1, h2, h3, h4, h5, h6⟩ := setCells_heap b vs o w
  exact ⟨h1, h2, h3, h4, h5, h6, World.frozen?_setCells b vs o w⟩

section
variable {P : Program} {L : Ly} {X : Ctx} {G G' : Gh} {s s' : DS} {a a' : Act} {w w' : World} {c : FC} {b : Nat} {m' : Mt}

theorem Wr.cell (W : Wr w w' b) {b' : Nat} (h : b' ≠ b) (j : Nat) : w'.cell? ⟨b', j, none⟩ = w.cell? ⟨b', j, none⟩ := by
  unfold World.cell?
  rw [W.heap b' h]

/-- A box is written. -/
theorem Wr.boxKeeps (W : Wr w w' b) {r : Root} (hb : G.own b = some (.box r)) (hstow : ∀ b e, G.st b e → G.own b = none) (m : Mt) : Keeps w G m w' G m (fun _ => True) where
  be := fun _ _ h => h
  st := fun _ _ h => h
  cell := fun b' n o hs _ => W.cell (by rintro rfl; rw [hstow _ _ hs] at hb; cases hb) o
  ep := Nat.le_refl _
  rv := fun _ => Nat.le_refl _
  al := fun _ => Nat.le_refl _
  era := Nat.le_refl _
  rd := fun _ b' n hr => by
    refine ⟨hr, fun o _ => W.cell ?_ o⟩
    rintro rfl
    rcases hr with hr | ⟨⟨p, hp⟩, _⟩
    · rw [hstow _ _ hr] at hb; cases hb
    · rw [hp] at hb; cases hb
  pl := fun _ _ _ => rfl
  la := fun _ _ => rfl
  own := fun b' p _ ho => by
    have : b' ≠ b := by rintro rfl; rw [ho] at hb; cases hb
    exact ⟨ho, rfl, fun o => ⟨W.cell this o, W.frozen _⟩⟩
  opl := fun _ _ => rfl
  mp := fun _ k b' es clock _ hh => ⟨es, clock, W.map _ _ _ hh, fun i x hx => ⟨x, hx, rfl⟩⟩

/-- The relation where a block was written and lists have changed their places. -/
theorem Rel.reW (h : Rel X G s a w) (W : Wr w w' b) (hb : G.own b ≠ none)
    (hown : ∀ b, (∀ p, G.own b ≠ some (.lst p)) → G'.own b = G.own b) (hbe : G'.be = G.be) (hla : G'.la = G.la)
    (hst : ∀ b e, G'.st b e → G.st b e ∨ ∃ p, G.own b = some (.lst p)) (hstow : ∀ b e, G'.st b e → G'.own b = none) (hstd : ∀ b e e', G'.st b e → e' ≤ e → G'.st b e')
    (hsize : a'.tmps.size = X.n) (hdef : a'.defers = [])
    (henv : ∀ t d, lk t s'.env = some d → VT w' G' s'.m (.slot t) d (a'.tmps.getD t undef))
    (hloc : ∀ t cs, lk t s'.loc = some cs → (∃ cs0, lk t s.loc = some cs0) ∧ BoxV w' G' s'.m (.lbox t) (G.la t) cs)
    (hro : s'.m.ro = s.m.ro) (hlen : s'.sto.length = s.sto.length) (hsto : ∀ k o b, s'.sto[k]? = some o → G.be k = some b → ObV w' G' s'.m X.ro k b o) : Rel X G' s' a' w' where
  size := hsize
  defers := hdef
  env := henv
  loc := fun t cs ht => by
    obtain ⟨⟨cs0, h0⟩, h1⟩ := hloc t cs ht
    have h2 := (h.loc t cs0 h0).1
    refine ⟨?_, by rw [hla]; exact h1⟩
    rw [hla, hown _ (by rw [h2]; intro p hp; cases hp)]
    exact h2
  sto := fun k o hk => by
    have hk' : k < s.sto.length := by rw [← hlen]; exact (List.getElem?_eq_some_iff.1 hk).1
    obtain ⟨b, h1, h2, h3, _⟩ := h.sto k _ (List.getElem?_eq_getElem hk')
    refine ⟨b, by rw [hbe]; exact h1, ?_, by rw [W.size]; exact h3, hsto k o b hk h1⟩
    split <;> rename_i hr
    · simp only [hr, if_true] at h2
      rw [hown b (by rw [h2]; intro p hp; cases hp), h2]
    · simp only [hr, if_false] at h2
      rw [hown b (by rw [h2]; intro p hp; cases hp), h2]
  be := fun k hk => by rw [hbe]; exact h.be k (by omega)
  new := fun b hb => by
    rw [W.size] at hb
    obtain ⟨h1, h2⟩ := h.new b hb
    refine ⟨by rw [hown b (by rw [h1]; intro p hp; cases hp), h1], fun e he => ?_⟩
    rcases hst b e he with h3 | ⟨p, hp⟩
    · exact h2 e h3
    · rw [h1] at hp; cases hp
  stow := hstow
  std := hstd
  old := fun b' hb' h0 => by
    obtain ⟨h1, h2, h3⟩ := h.old b' hb' h0
    refine ⟨(W.heap b' (by rintro rfl; exact hb h2)).trans h1, by rw [hown b' (by rw [h2]; intro p hp; cases hp), h2], fun e he => ?_⟩
    rcases hst b' e he with h4 | ⟨p, hp⟩
    · exact h3 e h4
    · rw [h2] at hp; cases hp
  os := W.os.trans h.os
  tape := W.tape.trans h.tape
  output := W.output.trans h.output
  grow := by rw [W.size]; exact h.grow
  ro := by rw [hlen]; exact h.ro
  rom := hro.trans h.rom
  be0 := fun k hk => by rw [hbe]; exact h.be0 k hk
  n0 := by rw [hlen]; exact h.n0
  la0 := fun t ht => by rw [hla]; exact h.la0 t ht

/-- Boxes that are not written. -/
theorem Rel.locW (h : Rel X G s a w) (W : Wr w w' b) {kp : Place → Prop} (K : Keeps w G s.m w' G' m' kp) {t : Nat} (hk : ∀ j, kp ⟨.lbox t, 0, j⟩) {cs : List D} (ht : lk t s.loc = some cs) (hne : G.la t ≠ b) : BoxV w' G' m' (.lbox t) (G.la t) cs :=
  K.box (fun j c _ _ => hk j) (fun o => ⟨W.cell hne o, W.frozen _⟩) (h.loc t cs ht).2
theorem Rel.stoW (h : Rel X G s a w) (W : Wr w w' b) {kp : Place → Prop} (K : Keeps w G s.m w' G' m' kp) {k b' : Nat} (hk : ∀ j, kp ⟨.gbox k, 0, j⟩) {o : Ob} (ht : s.sto[k]? = some o) (hb : G.be k = some b') (hne : b' ≠ b) : ObV w' G' m' X.ro k b' o := by
  obtain ⟨b'', h1, h2, h3, h4⟩ := h.sto k o ht
  rw [hb] at h1
  cases h1
  cases o with
  | map es =>
    obtain ⟨arr, clock, q1, q2⟩ := h4
    exact ⟨arr, clock, W.map _ _ _ q1, q2⟩
  | box cs =>
    simp only [ObV] at h4 ⊢
    split <;> rename_i hr
    · simp only [hr, if_true] at h4
      intro j d hd
      obtain ⟨u, h5, h6⟩ := h4 j d hd
      exact ⟨u, by rw [W.cell hne]; exact h5, K.imm h6⟩
    · simp only [hr, if_false] at h4
      exact K.box (fun j c _ _ => hk j) (fun o => ⟨W.cell hne o, W.frozen _⟩) h4

/-- A local box's block is no other's. -/
theorem Rel.la_ne (h : Rel X G s a w) {r : Root} (hb : G.own b = some (.box r)) {t : Nat} {cs : List D} (ht : lk t s.loc = some cs) (hr : r ≠ .lbox t) : G.la t ≠ b := by
  rintro rfl
  rw [(h.loc t cs ht).1] at hb
  cases hb
  exact hr rfl
theorem Rel.be_ne (h : Rel X G s a w) {r : Root} (hb : G.own b = some (.box r)) {k b' : Nat} {o : Ob} (hk : s.sto[k]? = some o) (hb' : G.be k = some b') (hr : r ≠ .gbox k) : b' ≠ b := by
  rintro rfl
  obtain ⟨b'', h1, h2, _⟩ := h.sto k o hk
  rw [hb'] at h1
  cases h1
  split at h2
  · rw [h2] at hb; cases hb
  · rw [h2] at hb
    cases hb
    exact hr rfl

/-! ### Cells that are under way, into a box -/
noncomputable def inB (N : Nat) (r : Root) (off n : Nat) (p : Place) : Option Place := if p.r = .air N ∧ p.i = 0 ∧ p.j < n then some ⟨r, 0, off + p.j⟩ else none
noncomputable def fromB (N : Nat) (r : Root) (off n : Nat) (q : Place) : Option Place := if q.r = r ∧ q.i = 0 ∧ off ≤ q.j ∧ q.j < off + n then some ⟨.air N, 0, q.j - off⟩ else none

theorem setCells_at {b off : Nat} {vs : List Value} (hc : ∀ j, j < vs.length → (w.cell? ⟨b, off + j, none⟩).isSome = true) {j : Nat} {u : Value} (h : vs[j]? = some u) : (w.setCells b off vs).cell? ⟨b, off + j, none⟩ = some u := by
  have hj := (List.getElem?_eq_some_iff.1 h).1
  rw [World.cell?_setCells_in b vs off w hc j hj]
  rw [List.getElem?_eq_getElem hj] at h
  exact h

theorem inB_at {N : Nat} {r : Root} {off n j : Nat} (h1 : off ≤ j) (h2 : j < off + n) : inB N r off n ⟨.air N, 0, j - off⟩ = some ⟨r, 0, j⟩ := by
  unfold inB
  rw [if_pos ⟨rfl, rfl, by show j - off < n; omega⟩]
  show some (⟨r, 0, off + (j - off)⟩ : Place) = _
  rw [show off + (j - off) = j by omega]
theorem fromB_at {N : Nat} {r : Root} {off n j : Nat} (h1 : off ≤ j) (h2 : j < off + n) : fromB N r off n ⟨r, 0, j⟩ = some ⟨.air N, 0, j - off⟩ := by
  unfold fromB
  rw [if_pos ⟨rfl, rfl, h1, h2⟩]
theorem inB_no {N : Nat} {r : Root} {off n : Nat} {p : Place} (h : p.r ≠ .air N) : inB N r off n p = none := by
  unfold inB
  rw [if_neg (fun q => h q.1)]
theorem fromB_no {N : Nat} {r : Root} {off n : Nat} {p : Place} (h : p.r ≠ r ∨ ¬ (off ≤ p.j ∧ p.j < off + n)) : fromB N r off n p = none := by
  unfold fromB
  rw [if_neg]
  rintro ⟨h1, _, h2⟩
  rcases h with h | h
  · exact h h1
  · exact h h2

/-- A box whose cells from off on are written. -/
theorem boxV_write {r : Root} {off : Nat} {bs ys : List D} {vs : List Value} {kp : Place → Prop} (hbx : BoxV w G s.m r b bs) (K : Keeps w G s.m (w.setCells b off vs) G' m' kp) (hkp : ∀ j, ¬ (off ≤ j ∧ j < off + ys.length) → kp ⟨r, 0, j⟩)
    (hlen : vs.length = ys.length) (hoff : off + ys.length ≤ bs.length) (hv : ∀ (j : Nat) (d : D) (u : Value), ys[j]? = some d → vs[j]? = some u → VC (w.setCells b off vs) G' m' ⟨r, 0, off + j⟩ d u) :
    BoxV (w.setCells b off vs) G' m' r b (splice bs off ys) := by
  have hcells : ∀ j, j < bs.length → ∃ u, w.cell? ⟨b, j, none⟩ = some u ∧ w.frozen? ⟨b, j, none⟩ = false := fun j hj => by
    obtain ⟨u, h1, h2, _⟩ := hbx j _ (List.getElem?_eq_getElem hj)
    exact ⟨u, h1, h2⟩
  intro j d hd
  rw [getElem?_splice _ _ _ hoff] at hd
  split at hd
  · rename_i hj
    obtain ⟨u0, _, hf⟩ := hcells j (by omega)
    have hj' : j - off < vs.length := by omega
    have hu : vs[j - off]? = some vs[j - off] := List.getElem?_eq_getElem hj'
    have hc : (w.setCells b off vs).cell? ⟨b, off + (j - off), none⟩ = some vs[j - off] := setCells_at (fun k hk => by
      obtain ⟨u, h1, _⟩ := hcells (off + k) (by omega)
      rw [h1]; rfl) hu
    have h1 := hv (j - off) d _ hd hu
    rw [show off + (j - off) = j by omega] at hc h1
    exact ⟨_, hc, by rw [World.frozen?_setCells]; exact hf, h1⟩
  · rename_i hj
    obtain ⟨u, h1, h2, h3⟩ := hbx j d hd
    refine ⟨u, ?_, by rw [World.frozen?_setCells]; exact h2, K.vc (fun _ => hkp j hj) h3⟩
    rw [World.cell?_setCells_out b vs off w _ (fun _ _ => by show j < off ∨ off + vs.length ≤ j; omega)]
    exact h1

/-- The counts that only go up. -/
structure Ups (m m' : Mt) : Prop where
  ep : m'.ep = m.ep
  rv : ∀ r, m.rv r ≤ m'.rv r
  al : ∀ t, m.al t ≤ m'.al t
  era : m.era ≤ m'.era
  ro : m'.ro = m.ro
theorem Ups.refl (m : Mt) : Ups m m := ⟨rfl, fun _ => Nat.le_refl _, fun _ => Nat.le_refl _, Nat.le_refl _, rfl⟩
theorem bR_ups (m : Mt) (r : Root) : Ups m (m.bR r) := by
  refine ⟨?_, fun q => ?_, fun t => ?_, ?_, ?_⟩ <;> cases r <;> first | rfl | exact Nat.le_refl _ | skip
  · exact bS_rv _ _ _
  · cases q <;> simp [Mt.rv, Mt.bR, Mt.bL]
    exact up_le _ _ _
  · cases q <;> simp [Mt.rv, Mt.bR, Mt.bG]
  · simp [Mt.bR, Mt.bG]
theorem bR_lt (m : Mt) {r : Root} (h : r.isAir = false) : (m.bR r).rv r ≠ m.rv r := by
  cases r <;> simp [Mt.bR, Mt.rv, Mt.bS, Mt.bL, Mt.bG] <;> simp [Root.isAir] at h

/-- A box is written with what was under way: lists of one's own go along. -/
theorem Rel.moveIn (h : Rel X G s a w) {r : Root} {N off : Nat} {ys : List D} {vs : List Value} (hN : r.isAir = false) (hb : G.own b = some (.box r)) (hu : Ups s.m m') (hm : m'.rv r ≠ s.m.rv r ∨ ys.any isOwn = false)
    (hlen : vs.length = ys.length) (hv : ∀ (j : Nat) (d : D) (u : Value), ys[j]? = some d → vs[j]? = some u → VC w G s.m ⟨.air N, 0, j⟩ d u) :
    ∃ G', Keeps w G s.m (w.setCells b off vs) G' m' (fun p => p.r ≠ .air N ∧ (p.r ≠ r ∨ ¬ (off ≤ p.j ∧ p.j < off + ys.length))) ∧ (∀ (j : Nat) (d : D) (u : Value), ys[j]? = some d → vs[j]? = some u → VC (w.setCells b off vs) G' m' ⟨r, 0, off + j⟩ d u) ∧
      (∀ b, (∀ p, G.own b ≠ some (.lst p)) → G'.own b = G.own b) ∧ G'.be = G.be ∧ G'.la = G.la ∧ G'.st = G.st ∧ (∀ b e, G'.st b e → G'.own b = none) := by
  have W := Wr.of_setCells w b off vs
  by_cases ho : ys.any isOwn = false
  · have K : Keeps w G s.m (w.setCells b off vs) G m' (fun _ => True) := ((Keeps.of_counts (w := w) (G := G) (kp := fun _ => True) hu.ep hu.rv hu.al hu.era).trans (W.boxKeeps hb h.stow m')).weaken fun _ _ => ⟨trivial, trivial⟩
    refine ⟨G, K.weaken fun _ _ => trivial, fun j d u hd hu => ?_, fun _ _ => rfl, rfl, rfl, rfl, h.stow⟩
    have hod : isOwn d = false := by simpa using List.any_eq_false.1 ho d (List.mem_of_getElem? hd)
    exact (K.vc (fun _ => trivial) (hv j d u hd hu)).any hod
  · have hm' := hm.resolve_right ho
    have K0 : Keeps w G s.m w (G.mv (inB N r off ys.length) (fromB N r off ys.length)) m' (fun p => inB N r off ys.length p = none ∧ fromB N r off ys.length p = none) :=
      mv_keeps hu.ep hu.rv hu.al hu.era (fun q p hq => by
        right
        unfold fromB at hq
        rw [Option.ite_none_right_eq_some] at hq
        rw [hq.1.1]
        exact hm')
    have hb' : (G.mv (inB N r off ys.length) (fromB N r off ys.length)).own b = some (.box r) := by
      rw [mv_own_other (by rw [hb]; intro p hp; cases hp)]; exact hb
    have K1 := W.boxKeeps hb' (mv_stow h.stow) m'
    refine ⟨_, (K0.trans K1).weaken fun p hp => ⟨⟨inB_no hp.1, fromB_no hp.2⟩, trivial⟩, fun j d u hd hu => ?_, fun b hb => mv_own_other hb, rfl, rfl, rfl, mv_stow h.stow⟩
    have hj := (List.getElem?_eq_some_iff.1 hd).1
    refine K1.vc (fun _ => trivial) (VC.mv K0 (p := ⟨.air N, 0, j⟩) ?_ ?_ (hv j d u hd hu))
    · have := inB_at (N := N) (r := r) (off := off) (n := ys.length) (j := off + j) (by omega) (by omega)
      rwa [show off + j - off = j by omega] at this
    · have := fromB_at (N := N) (r := r) (off := off) (n := ys.length) (j := off + j) (by omega) (by omega)
      rwa [show off + j - off = j by omega] at this

theorem Rel.storeLoc (h : Rel X G s a w) {t N off : Nat} {bs ys : List D} {vs : List Value} (ht : lk t s.loc = some bs) (hu : Ups s.m m') (hm : m'.rv (.lbox t) ≠ s.m.rv (.lbox t) ∨ ys.any isOwn = false)
    (hlen : vs.length = ys.length) (hoff : off + ys.length ≤ bs.length) (hv : ∀ (j : Nat) (d : D) (u : Value), ys[j]? = some d → vs[j]? = some u → VC w G s.m ⟨.air N, 0, j⟩ d u) :
    ∃ G', Rel X G' { s with loc := insL t (splice bs off ys) s.loc, m := m' } a (w.setCells (G.la t) off vs) := by
  obtain ⟨hb, hbx⟩ := h.loc t bs ht
  have W := Wr.of_setCells w (G.la t) off vs
  obtain ⟨G', K, hv', q1, q2, q3, q4, q5⟩ := h.moveIn (off := off) rfl hb hu hm hlen hv
  refine ⟨G', h.reW W (by rw [hb]; exact fun e => nomatch e) q1 q2 q3 (fun b e he => .inl (by rw [q4] at he; exact he)) q5 (fun b e e' he hee => by rw [q4] at he ⊢; exact h.std b e e' he hee) h.size h.defers (fun u e hu => K.vt (fun i q j c _ _ _ => ⟨by simp, .inl (by simp)⟩) (h.env u e hu)) (fun u cs hu => ?_) hu.ro rfl (fun k o b' hk hb' => h.stoW W K (fun j => ⟨by simp, .inl (by simp)⟩) hk hb' (h.be_ne hb hk hb' (by simp)))⟩
  have hu' : lk u (insL t (splice bs off ys) s.loc) = some cs := hu
  rw [lk_insL] at hu'
  by_cases e : u = t
  · subst e
    simp at hu'
    subst hu'
    exact ⟨⟨bs, ht⟩, boxV_write hbx K (fun j hj => ⟨by show _ ≠ _; simp, .inr hj⟩) hlen hoff hv'⟩
  · simp only [e, if_false] at hu'
    exact ⟨⟨cs, hu'⟩, h.locW W K (fun j => ⟨by simp, .inl (by simp [e])⟩) hu' (h.la_ne hb hu' (by simp; exact fun q => e q.symm))⟩

theorem Rel.storeSto (h : Rel X G s a w) {k N off : Nat} {bs ys : List D} {vs : List Value} (hk : s.sto[k]? = some (.box bs)) (hkr : X.ro ≤ k) (hu : Ups s.m m') (hm : m'.rv (.gbox k) ≠ s.m.rv (.gbox k) ∨ ys.any isOwn = false)
    (hlen : vs.length = ys.length) (hoff : off + ys.length ≤ bs.length) (hv : ∀ (j : Nat) (d : D) (u : Value), ys[j]? = some d → vs[j]? = some u → VC w G s.m ⟨.air N, 0, j⟩ d u) :
    ∃ G' b, G.be k = some b ∧ BoxV w G s.m (.gbox k) b bs ∧ Rel X G' { s with sto := s.sto.set k (.box (splice bs off ys)), m := m' } a (w.setCells b off vs) := by
  obtain ⟨b, hbe, hb, hlt, hob⟩ := h.sto k _ hk
  rw [if_neg (by omega)] at hb
  simp only [ObV] at hob
  rw [if_neg (by omega)] at hob
  have W := Wr.of_setCells w b off vs
  obtain ⟨G', K, hv', q1, q2, q3, q4, q5⟩ := h.moveIn (off := off) rfl hb hu hm hlen hv
  refine ⟨G', b, hbe, hob, h.reW W (by rw [hb]; exact fun e => nomatch e) q1 q2 q3 (fun b e he => .inl (by rw [q4] at he; exact he)) q5 (fun b e e' he hee => by rw [q4] at he ⊢; exact h.std b e e' he hee) h.size h.defers (fun u e hu => K.vt (fun i q j c _ _ _ => ⟨by simp, .inl (by simp)⟩) (h.env u e hu)) (fun u cs hu => ⟨⟨cs, hu⟩, h.locW W K (fun j => ⟨by simp, .inl (by simp)⟩) hu (h.la_ne hb hu (by simp))⟩) hu.ro (by simp) (fun k' o b' hk' hb' => ?_)⟩
  have hk2 : (s.sto.set k (.box (splice bs off ys)))[k']? = some o := hk'
  by_cases e : k' = k
  · subst e
    have hl := (List.getElem?_eq_some_iff.1 hk).1
    rw [List.getElem?_set_self hl] at hk2
    cases hk2
    rw [hbe] at hb'
    cases hb'
    simp only [ObV]
    rw [if_neg (by omega)]
    exact boxV_write hob K (fun j hj => ⟨by show _ ≠ _; simp, .inr hj⟩) hlen hoff hv'
  · rw [List.getElem?_set_ne (fun q => e q.symm)] at hk2
    exact h.stoW W K (fun j => ⟨by simp, .inl (by simp [e])⟩) hk2 hb' (h.be_ne hb hk2 hb' (by simp; exact fun q => e q.symm))
end

end Go.Lv
