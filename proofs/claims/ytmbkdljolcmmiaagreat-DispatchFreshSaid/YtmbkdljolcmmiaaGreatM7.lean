/-
  Part 7 of the texts under the proof: an abstract run of loaded code on data, and what the functions do. No condition.
-/
import Derived.Test.YtmbkdljolcmmiaaGreatM6
import Derived.Laws.IdiomCopy
set_option linter.all false
set_option maxRecDepth 100000
namespace Go.Lv

theorem setCells_heap (b : Nat) : ∀ (vs : List Value) (o : Nat) (w : World), (∀ b', b' ≠ b → (w.setCells b o vs).heap[b']? = w.heap[b']?) ∧ (w.setCells b o vs).heap.size = w.heap.size ∧ (w.setCells b o vs).os = w.os ∧ (w.setCells b o vs).tape = w.tape ∧ (w.setCells b o vs).output = w.output ∧
    (∀ (b' : Nat) es clock, w.heap[b']? = some (.map es clock) → (w.setCells b o vs).heap[b']? = some (.map es clock))
  | [], o, w => ⟨fun _ _ => rfl, rfl, rfl, rfl, rfl, fun _ _ _ h => h⟩
  | v :: r, o, w => by
    obtain ⟨h1, h2, h3, h4, h5, h6⟩ := setCells_heap b r (o + 1) (w.setCell ⟨b, o, none⟩ v)
    have e1 : ∀ b', b' ≠ b → (w.setCell ⟨b, o, none⟩ v).heap[b']? = w.heap[b']? := by
      intro b' hb
      simp [World.setCell, Array.getElem?_modify, Ne.symm hb]
    refine ⟨fun b' hb => (h1 b' hb).trans (e1 b' hb), h2.trans (by simp [World.setCell]), h3, h4, h5, fun b' es clock hm => h6 b' es clock ?_⟩
    by_cases hb : b' = b
    · subst hb
      simp [World.setCell, Array.getElem?_modify, hm]
    · rw [e1 b' hb]; exact hm

structure Wr (w w' : World) (b : Nat) : Prop where
  heap : ∀ b', b' ≠ b → w'.heap[b']? = w.heap[b']?
  size : w'.heap.size = w.heap.size
  os : w'.os = w.os
  tape : w'.tape = w.tape
  output : w'.output = w.output
  map : ∀ (b' : Nat) es clock, w.heap[b']? = some (.map es clock) → w'.heap[b']? = some (.map es clock)
  frozen : ∀ x, w'.frozen? x = w.frozen? x

theorem Wr.of_setCells (w : World) (b o : Nat) (vs : List Value) : Wr w (w.setCells b o vs) b := by
  obtain ⟨h1, h2, h3, h4, h5, h6⟩ := setCells_heap b vs o w
  exact ⟨h1, h2, h3, h4, h5, h6, World.frozen?_setCells b vs o w⟩

section
variable {P : Program} {L : Ly} {X : Ctx} {G G' : Gh} {s s' : DS} {a a' : Act} {w w' : World} {c : FC} {b : Nat} {m' : Mt}

theorem Wr.cell (W : Wr w w' b) {b' : Nat} (h : b' ≠ b) (j : Nat) : w'.cell? ⟨b', j, none⟩ = w.cell? ⟨b', j, none⟩ := by
  unfold World.cell?
  rw [W.heap b' h]

theorem Wr.boxKeeps (W : Wr w w' b) {r : Root} (hb : G.own b = some (.box r)) (hstow : ∀ b e, G.st b e → G.own b = none) (m : Mt) : Keeps w G m w' G m (fun _ => True) where
  be := fun _ _ h => h
  st := fun _ _ h => h
  cell := fun b' n o hs _ => W.cell (by rintro rfl; rw [hstow _ _ hs] at hb; cases hb) o
  ep := Nat.le_refl _
  rv := fun _ => Nat.le_refl _
  al := fun _ => Nat.le_refl _
  era := Nat.le_refl _
  rd := fun _ b' n hr => by
    refine ⟨hr, fun o _ => W.cell ?_ o⟩
    rintro rfl
    rcases hr with hr | ⟨⟨p, hp⟩, _⟩
    · rw [hstow _ _ hr] at hb; cases hb
    · rw [hp] at hb; cases hb
  pl := fun _ _ _ => rfl
  la := fun _ _ => rfl
  own := fun b' p _ ho => by
    have : b' ≠ b := by rintro rfl; rw [ho] at hb; cases hb
    exact ⟨ho, rfl, fun o => ⟨W.cell this o, W.frozen _⟩⟩
  opl := fun _ _ => rfl
  mp := fun _ k b' es clock _ hh => ⟨es, clock, W.map _ _ _ hh, fun i x hx => ⟨x, hx, rfl⟩⟩

theorem Rel.reW (h : Rel X G s a w) (W : Wr w w' b) (hb : G.own b ≠ none)
    (hown : ∀ b, (∀ p, G.own b ≠ some (.lst p)) → G'.own b = G.own b) (hbe : G'.be = G.be) (hla : G'.la = G.la)
    (hst : ∀ b e, G'.st b e → G.st b e ∨ ∃ p, G.own b = some (.lst p)) (hstow : ∀ b e, G'.st b e → G'.own b = none) (hstd : ∀ b e e', G'.st b e → e' ≤ e → G'.st b e')
    (hsize : a'.tmps.size = X.n) (hdef : a'.defers = [])
    (henv : ∀ t d, lk t s'.env = some d → VT w' G' s'.m (.slot t) d (a'.tmps.getD t undef))
    (hloc : ∀ t cs, lk t s'.loc = some cs → (∃ cs0, lk t s.loc = some cs0) ∧ BoxV w' G' s'.m (.lbox t) (G.la t) cs)
    (hro : s'.m.ro = s.m.ro) (hlen : s'.sto.length = s.sto.length) (hsto : ∀ k o b, s'.sto[k]? = some o → G.be k = some b → ObV w' G' s'.m X.ro k b o) : Rel X G' s' a' w' where
  size := hsize
  defers := hdef
  env := henv
  loc := fun t cs ht => by
    obtain ⟨⟨cs0, h0⟩, h1⟩ := hloc t cs ht
    have h2 := (h.loc t cs0 h0).1
    refine ⟨?_, by rw [hla]; exact h1⟩
    rw [hla, hown _ (by rw [h2]; intro p hp; cases hp)]
    exact h2
  sto := fun k o hk => by
    have hk' : k < s.sto.length := by rw [← hlen]; exact (List.getElem?_eq_some_iff.1 hk).1
    obtain ⟨b, h1, h2, h3, _⟩ := h.sto k _ (List.getElem?_eq_getElem hk')
    refine ⟨b, by rw [hbe]; exact h1, ?_, by rw [W.size]; exact h3, hsto k o b hk h1⟩
    split <;> rename_i hr
    · simp only [hr, if_true] at h2
      rw [hown b (by rw [h2]; intro p hp; cases hp), h2]
    · simp only [hr, if_false] at h2
      rw [hown b (by rw [h2]; intro p hp; cases hp), h2]
  be := fun k hk => by rw [hbe]; exact h.be k (by omega)
  new := fun b hb => by
    rw [W.size] at hb
    obtain ⟨h1, h2⟩ := h.new b hb
    refine ⟨by rw [hown b (by rw [h1]; intro p hp; cases hp), h1], fun e he => ?_⟩
    rcases hst b e he with h3 | ⟨p, hp⟩
    · exact h2 e h3
    · rw [h1] at hp; cases hp
  stow := hstow
  std := hstd
  old := fun b' hb' h0 => by
    obtain ⟨h1, h2, h3⟩ := h.old b' hb' h0
    refine ⟨(W.heap b' (by rintro rfl; exact hb h2)).trans h1, by rw [hown b' (by rw [h2]; intro p hp; cases hp), h2], fun e he => ?_⟩
    rcases hst b' e he with h4 | ⟨p, hp⟩
    · exact h3 e h4
    · rw [h2] at hp; cases hp
  os := W.os.trans h.os
  tape := W.tape.trans h.tape
  output := W.output.trans h.output
  grow := by rw [W.size]; exact h.grow
  ro := by rw [hlen]; exact h.ro
  rom := hro.trans h.rom
  be0 := fun k hk => by rw [hbe]; exact h.be0 k hk
  n0 := by rw [hlen]; exact h.n0
  la0 := fun t ht => by rw [hla]; exact h.la0 t ht

theorem Rel.locW (h : Rel X G s a w) (W : Wr w w' b) {kp : Place → Prop} (K : Keeps w G s.m w' G' m' kp) {t : Nat} (hk : ∀ j, kp ⟨.lbox t, 0, j⟩) {cs : List D} (ht : lk t s.loc = some cs) (hne : G.la t ≠ b) : BoxV w' G' m' (.lbox t) (G.la t) cs :=
  K.box (fun j c _ _ => hk j) (fun o => ⟨W.cell hne o, W.frozen _⟩) (h.loc t cs ht).2
theorem Rel.stoW (h : Rel X G s a w) (W : Wr w w' b) {kp : Place → Prop} (K : Keeps w G s.m w' G' m' kp) {k b' : Nat} (hk : ∀ j, kp ⟨.gbox k, 0, j⟩) {o : Ob} (ht : s.sto[k]? = some o) (hb : G.be k = some b') (hne : b' ≠ b) : ObV w' G' m' X.ro k b' o := by
  obtain ⟨b'', h1, h2, h3, h4⟩ := h.sto k o ht
  rw [hb] at h1
  cases h1
  cases o with
  | map es =>
    obtain ⟨arr, clock, q1, q2⟩ := h4
    exact ⟨arr, clock, W.map _ _ _ q1, q2⟩
  | box cs =>
    simp only [ObV] at h4 ⊢
    split <;> rename_i hr
    · simp only [hr, if_true] at h4
      intro j d hd
      obtain ⟨u, h5, h6⟩ := h4 j d hd
      exact ⟨u, by rw [W.cell hne]; exact h5, K.imm h6⟩
    · simp only [hr, if_false] at h4
      exact K.box (fun j c _ _ => hk j) (fun o => ⟨W.cell hne o, W.frozen _⟩) h4

theorem Rel.la_ne (h : Rel X G s a w) {r : Root} (hb : G.own b = some (.box r)) {t : Nat} {cs : List D} (ht : lk t s.loc = some cs) (hr : r ≠ .lbox t) : G.la t ≠ b := by
  rintro rfl
  rw [(h.loc t cs ht).1] at hb
  cases hb
  exact hr rfl
theorem Rel.be_ne (h : Rel X G s a w) {r : Root} (hb : G.own b = some (.box r)) {k b' : Nat} {o : Ob} (hk : s.sto[k]? = some o) (hb' : G.be k = some b') (hr : r ≠ .gbox k) : b' ≠ b := by
  rintro rfl
  obtain ⟨b'', h1, h2, _⟩ := h.sto k o hk
  rw [hb'] at h1
  cases h1
  split at h2
  · rw [h2] at hb; cases hb
  · rw [h2] at hb
    cases hb
    exact hr rfl

noncomputable def inB (N : Nat) (r : Root) (off n : Nat) (p : Place) : Option Place := if p.r = .air N ∧ p.i = 0 ∧ p.j < n then some ⟨r, 0, off + p.j⟩ else none
noncomputable def fromB (N : Nat) (r : Root) (off n : Nat) (q : Place) : Option Place := if q.r = r ∧ q.i = 0 ∧ off ≤ q.j ∧ q.j < off + n then some ⟨.air N, 0, q.j - off⟩ else none

theorem setCells_at {b off : Nat} {vs : List Value} (hc : ∀ j, j < vs.length → (w.cell? ⟨b, off + j, none⟩).isSome = true) {j : Nat} {u : Value} (h : vs[j]? = some u) : (w.setCells b off vs).cell? ⟨b, off + j, none⟩ = some u := by
  have hj := (List.getElem?_eq_some_iff.1 h).1
  rw [World.cell?_setCells_in b vs off w hc j hj]
  rw [List.getElem?_eq_getElem hj] at h
  exact h

theorem inB_at {N : Nat} {r : Root} {off n j : Nat} (h1 : off ≤ j) (h2 : j < off + n) : inB N r off n ⟨.air N, 0, j - off⟩ = some ⟨r, 0, j⟩ := by
  unfold inB
  rw [if_pos ⟨rfl, rfl, by show j - off < n; omega⟩]
  show some (⟨r, 0, off + (j - off)⟩ : Place) = _
  rw [show off + (j - off) = j by omega]
theorem fromB_at {N : Nat} {r : Root} {off n j : Nat} (h1 : off ≤ j) (h2 : j < off + n) : fromB N r off n ⟨r, 0, j⟩ = some ⟨.air N, 0, j - off⟩ := by
  unfold fromB
  rw [if_pos ⟨rfl, rfl, h1, h2⟩]
theorem inB_no {N : Nat} {r : Root} {off n : Nat} {p : Place} (h : p.r ≠ .air N) : inB N r off n p = none := by
  unfold inB
  rw [if_neg (fun q => h q.1)]
theorem fromB_no {N : Nat} {r : Root} {off n : Nat} {p : Place} (h : p.r ≠ r ∨ ¬ (off ≤ p.j ∧ p.j < off + n)) : fromB N r off n p = none := by
  unfold fromB
  rw [if_neg]
  rintro ⟨h1, _, h2⟩
  rcases h with h | h
  · exact h h1
  · exact h h2

theorem boxV_write {r : Root} {off : Nat} {bs ys : List D} {vs : List Value} {kp : Place → Prop} (hbx : BoxV w G s.m r b bs) (K : Keeps w G s.m (w.setCells b off vs) G' m' kp) (hkp : ∀ j, ¬ (off ≤ j ∧ j < off + ys.length) → kp ⟨r, 0, j⟩)
    (hlen : vs.length = ys.length) (hoff : off + ys.length ≤ bs.length) (hv : ∀ (j : Nat) (d : D) (u : Value), ys[j]? = some d → vs[j]? = some u → VC (w.setCells b off vs) G' m' ⟨r, 0, off + j⟩ d u) :
    BoxV (w.setCells b off vs) G' m' r b (splice bs off ys) := by
  have hcells : ∀ j, j < bs.length → ∃ u, w.cell? ⟨b, j, none⟩ = some u ∧ w.frozen? ⟨b, j, none⟩ = false := fun j hj => by
    obtain ⟨u, h1, h2, _⟩ := hbx j _ (List.getElem?_eq_getElem hj)
    exact ⟨u, h1, h2⟩
  intro j d hd
  rw [getElem?_splice _ _ _ hoff] at hd
  split at hd
  · rename_i hj
    obtain ⟨u0, _, hf⟩ := hcells j (by omega)
    have hj' : j - off < vs.length := by omega
    have hu : vs[j - off]? = some vs[j - off] := List.getElem?_eq_getElem hj'
    have hc : (w.setCells b off vs).cell? ⟨b, off + (j - off), none⟩ = some vs[j - off] := setCells_at (fun k hk => by
      obtain ⟨u, h1, _⟩ := hcells (off + k) (by omega)
      rw [h1]; rfl) hu
    have h1 := hv (j - off) d _ hd hu
    rw [show off + (j - off) = j by omega] at hc h1
    exact ⟨_, hc, by rw [World.frozen?_setCells]; exact hf, h1⟩
  · rename_i hj
    obtain ⟨u, h1, h2, h3⟩ := hbx j d hd
    refine ⟨u, ?_, by rw [World.frozen?_setCells]; exact h2, K.vc (fun _ => hkp j hj) h3⟩
    rw [World.cell?_setCells_out b vs off w _ (fun _ _ => by show j < off ∨ off + vs.length ≤ j; omega)]
    exact h1

structure Ups (m m' : Mt) : Prop where
  ep : m'.ep = m.ep
  rv : ∀ r, m.rv r ≤ m'.rv r
  al : ∀ t, m.al t ≤ m'.al t
  era : m.era ≤ m'.era
  ro : m'.ro = m.ro
theorem Ups.refl (m : Mt) : Ups m m := ⟨rfl, fun _ => Nat.le_refl _, fun _ => Nat.le_refl _, Nat.le_refl _, rfl⟩
theorem bR_ups (m : Mt) (r : Root) : Ups m (m.bR r) := by
  refine ⟨?_, fun q => ?_, fun t => ?_, ?_, ?_⟩ <;> cases r <;> first | rfl | exact Nat.le_refl _ | skip
  · exact bS_rv _ _ _
  · cases q <;> simp [Mt.rv, Mt.bR, Mt.bL]
    exact up_le _ _ _
  · cases q <;> simp [Mt.rv, Mt.bR, Mt.bG]
  · simp [Mt.bR, Mt.bG]
theorem bR_lt (m : Mt) {r : Root} (h : r.isAir = false) : (m.bR r).rv r ≠ m.rv r := by
  cases r <;> simp [Mt.bR, Mt.rv, Mt.bS, Mt.bL, Mt.bG] <;> simp [Root.isAir] at h

theorem Rel.moveIn (h : Rel X G s a w) {r : Root} {N off : Nat} {ys : List D} {vs : List Value} (hN : r.isAir = false) (hb : G.own b = some (.box r)) (hu : Ups s.m m') (hm : m'.rv r ≠ s.m.rv r ∨ ys.any isOwn = false)
    (hlen : vs.length = ys.length) (hv : ∀ (j : Nat) (d : D) (u : Value), ys[j]? = some d → vs[j]? = some u → VC w G s.m ⟨.air N, 0, j⟩ d u) :
    ∃ G', Keeps w G s.m (w.setCells b off vs) G' m' (fun p => p.r ≠ .air N ∧ (p.r ≠ r ∨ ¬ (off ≤ p.j ∧ p.j < off + ys.length))) ∧ (∀ (j : Nat) (d : D) (u : Value), ys[j]? = some d → vs[j]? = some u → VC (w.setCells b off vs) G' m' ⟨r, 0, off + j⟩ d u) ∧
      (∀ b, (∀ p, G.own b ≠ some (.lst p)) → G'.own b = G.own b) ∧ G'.be = G.be ∧ G'.la = G.la ∧ G'.st = G.st ∧ (∀ b e, G'.st b e → G'.own b = none) := by
  have W := Wr.of_setCells w b off vs
  by_cases ho : ys.any isOwn = false
  · have K : Keeps w G s.m (w.setCells b off vs) G m' (fun _ => True) := ((Keeps.of_counts (w := w) (G := G) (kp := fun _ => True) hu.ep hu.rv hu.al hu.era).trans (W.boxKeeps hb h.stow m')).weaken fun _ _ => ⟨trivial, trivial⟩
    refine ⟨G, K.weaken fun _ _ => trivial, fun j d u hd hu => ?_, fun _ _ => rfl, rfl, rfl, rfl, h.stow⟩
    have hod : isOwn d = false := by simpa using List.any_eq_false.1 ho d (List.mem_of_getElem? hd)
    exact (K.vc (fun _ => trivial) (hv j d u hd hu)).any hod
  · have hm' := hm.resolve_right ho
    have K0 : Keeps w G s.m w (G.mv (inB N r off ys.length) (fromB N r off ys.length)) m' (fun p => inB N r off ys.length p = none ∧ fromB N r off ys.length p = none) :=
      mv_keeps hu.ep hu.rv hu.al hu.era (fun q p hq => by
        right
        unfold fromB at hq
        rw [Option.ite_none_right_eq_some] at hq
        rw [hq.1.1]
        exact hm')
    have hb' : (G.mv (inB N r off ys.length) (fromB N r off ys.length)).own b = some (.box r) := by
      rw [mv_own_other (by rw [hb]; intro p hp; cases hp)]; exact hb
    have K1 := W.boxKeeps hb' (mv_stow h.stow) m'
    refine ⟨_, (K0.trans K1).weaken fun p hp => ⟨⟨inB_no hp.1, fromB_no hp.2⟩, trivial⟩, fun j d u hd hu => ?_, fun b hb => mv_own_other hb, rfl, rfl, rfl, mv_stow h.stow⟩
    have hj := (List.getElem?_eq_some_iff.1 hd).1
    refine K1.vc (fun _ => trivial) (VC.mv K0 (p := ⟨.air N, 0, j⟩) ?_ ?_ (hv j d u hd hu))
    · have := inB_at (N := N) (r := r) (off := off) (n := ys.length) (j := off + j) (by omega) (by omega)
      rwa [show off + j - off = j by omega] at this
    · have := fromB_at (N := N) (r := r) (off := off) (n := ys.length) (j := off + j) (by omega) (by omega)
      rwa [show off + j - off = j by omega] at this

theorem Rel.storeLoc (h : Rel X G s a w) {t N off : Nat} {bs ys : List D} {vs : List Value} (ht : lk t s.loc = some bs) (hu : Ups s.m m') (hm : m'.rv (.lbox t) ≠ s.m.rv (.lbox t) ∨ ys.any isOwn = false)
    (hlen : vs.length = ys.length) (hoff : off + ys.length ≤ bs.length) (hv : ∀ (j : Nat) (d : D) (u : Value), ys[j]? = some d → vs[j]? = some u → VC w G s.m ⟨.air N, 0, j⟩ d u) :
    ∃ G', Rel X G' { s with loc := insL t (splice bs off ys) s.loc, m := m' } a (w.setCells (G.la t) off vs) := by
  obtain ⟨hb, hbx⟩ := h.loc t bs ht
  have W := Wr.of_setCells w (G.la t) off vs
  obtain ⟨G', K, hv', q1, q2, q3, q4, q5⟩ := h.moveIn (off := off) rfl hb hu hm hlen hv
  refine ⟨G', h.reW W (by rw [hb]; exact fun e => nomatch e) q1 q2 q3 (fun b e he => .inl (by rw [q4] at he; exact he)) q5 (fun b e e' he hee => by rw [q4] at he ⊢; exact h.std b e e' he hee) h.size h.defers (fun u e hu => K.vt (fun i q j c _ _ _ => ⟨by simp, .inl (by simp)⟩) (h.env u e hu)) (fun u cs hu => ?_) hu.ro rfl (fun k o b' hk hb' => h.stoW W K (fun j => ⟨by simp, .inl (by simp)⟩) hk hb' (h.be_ne hb hk hb' (by simp)))⟩
  have hu' : lk u (insL t (splice bs off ys) s.loc) = some cs := hu
  rw [lk_insL] at hu'
  by_cases e : u = t
  · subst e
    simp at hu'
    subst hu'
    exact ⟨⟨bs, ht⟩, boxV_write hbx K (fun j hj => ⟨by show _ ≠ _; simp, .inr hj⟩) hlen hoff hv'⟩
  · simp only [e, if_false] at hu'
    exact ⟨⟨cs, hu'⟩, h.locW W K (fun j => ⟨by simp, .inl (by simp [e])⟩) hu' (h.la_ne hb hu' (by simp; exact fun q => e q.symm))⟩

theorem Rel.storeSto (h : Rel X G s a w) {k N off : Nat} {bs ys : List D} {vs : List Value} (hk : s.sto[k]? = some (.box bs)) (hkr : X.ro ≤ k) (hu : Ups s.m m') (hm : m'.rv (.gbox k) ≠ s.m.rv (.gbox k) ∨ ys.any isOwn = false)
    (hlen : vs.length = ys.length) (hoff : off + ys.length ≤ bs.length) (hv : ∀ (j : Nat) (d : D) (u : Value), ys[j]? = some d → vs[j]? = some u → VC w G s.m ⟨.air N, 0, j⟩ d u) :
    ∃ G' b, G.be k = some b ∧ BoxV w G s.m (.gbox k) b bs ∧ Rel X G' { s with sto := s.sto.set k (.box (splice bs off ys)), m := m' } a (w.setCells b off vs) := by
  obtain ⟨b, hbe, hb, hlt, hob⟩ := h.sto k _ hk
  rw [if_neg (by omega)] at hb
  simp only [ObV] at hob
  rw [if_neg (by omega)] at hob
  have W := Wr.of_setCells w b off vs
  obtain ⟨G', K, hv', q1, q2, q3, q4, q5⟩ := h.moveIn (off := off) rfl hb hu hm hlen hv
  refine ⟨G', b, hbe, hob, h.reW W (by rw [hb]; exact fun e => nomatch e) q1 q2 q3 (fun b e he => .inl (by rw [q4] at he; exact he)) q5 (fun b e e' he hee => by rw [q4] at he ⊢; exact h.std b e e' he hee) h.size h.defers (fun u e hu => K.vt (fun i q j c _ _ _ => ⟨by simp, .inl (by simp)⟩) (h.env u e hu)) (fun u cs hu => ⟨⟨cs, hu⟩, h.locW W K (fun j => ⟨by simp, .inl (by simp)⟩) hu (h.la_ne hb hu (by simp))⟩) hu.ro (by simp) (fun k' o b' hk' hb' => ?_)⟩
  have hk2 : (s.sto.set k (.box (splice bs off ys)))[k']? = some o := hk'
  by_cases e : k' = k
  · subst e
    have hl := (List.getElem?_eq_some_iff.1 hk).1
    rw [List.getElem?_set_self hl] at hk2
    cases hk2
    rw [hbe] at hb'
    cases hb'
    simp only [ObV]
    rw [if_neg (by omega)]
    exact boxV_write hob K (fun j hj => ⟨by show _ ≠ _; simp, .inr hj⟩) hlen hoff hv'
  · rw [List.getElem?_set_ne (fun q => e q.symm)] at hk2
    exact h.stoW W K (fun j => ⟨by simp, .inl (by simp [e])⟩) hk2 hb' (h.be_ne hb hk2 hb' (by simp; exact fun q => e q.symm))
end

end Go.Lv

namespace Go.Lv

section
variable {P : Program} {L : Ly} {X : Ctx} {G G' : Gh} {s s' : DS} {a a' : Act} {w w' : World} {c : FC} {b : Nat} {m m' : Mt}

theorem VP.set {r : Root} {i j : Nat} {q x y : D} {v : Value} (h : VP w G m r i q v) (hq : cellAt q j = some x)
    (ho : ∀ j' c u, j' ≠ j → VC w G m ⟨r, i, j'⟩ c u → VC w' G' m' ⟨r, i, j'⟩ c u) (hx : ∀ u, VC w G m ⟨r, i, j⟩ x u → VC w' G' m' ⟨r, i, j⟩ y u) : VP w' G' m' r i (setCellD q j y) v := by
  have key : ∀ d : D, (∀ cs, d ≠ .agg cs) → VP w G m r i d v → cellAt d j = some x → setCellD d j y = y → VP w' G' m' r i (setCellD d j y) v := by
    intro d hd h hc hs
    have hj : j = 0 ∧ d = x := by
      cases d with
      | agg cs => exact absurd rfl (hd cs)
      | _ => simp only [cellAt] at hc; split at hc <;> first | (rename_i e; cases hc; exact ⟨e, rfl⟩) | cases hc
    obtain ⟨rfl, rfl⟩ := hj
    rw [VP_cell hd] at h
    have h1 := hx v h
    rw [hs, VP_cell h1.plain.1]
    exact h1
  cases q with
  | agg cs =>
    obtain ⟨vs, rfl, hl, h1⟩ := h
    refine ⟨vs, rfl, by simpa using hl, fun j' d u hd hu => ?_⟩
    by_cases e : j' = j
    · subst e
      have hlt : j' < cs.length := (List.getElem?_eq_some_iff.1 hq).1
      rw [List.getElem?_set_self hlt] at hd
      cases hd
      exact hx u (h1 j' x u hq hu)
    · rw [List.getElem?_set_ne (fun q => e q.symm)] at hd
      exact ho j' d u e (h1 j' d u hd hu)
  | _ => exact key _ (by intro cs h; cases h) h hq rfl

theorem VT.set {r : Root} {i j : Nat} {d q x y : D} {v : Value} (h : VT w G m r d v) (hp : partAt d i = some q) (hq : cellAt q j = some x)
    (ho : ∀ i' j' c u, ¬ (i' = i ∧ j' = j) → VC w G m ⟨r, i', j'⟩ c u → VC w' G' m' ⟨r, i', j'⟩ c u) (hx : ∀ u, VC w G m ⟨r, i, j⟩ x u → VC w' G' m' ⟨r, i, j⟩ y u) : VT w' G' m' r (setPart d i (setCellD q j y)) v := by
  have key : ∀ d : D, (∀ ds, d ≠ .tup ds) → VT w G m r d v → partAt d i = some q → (∀ z, setPart d i z = z) → VT w' G' m' r (setPart d i (setCellD q j y)) v := by
    intro d hd h hc hs
    have hj : i = 0 ∧ d = q := by
      cases d with
      | tup cs => exact absurd rfl (hd cs)
      | _ => simp only [partAt] at hc; split at hc <;> first | (rename_i e; cases hc; exact ⟨e, rfl⟩) | cases hc
    obtain ⟨rfl, rfl⟩ := hj
    rw [VT_part hd] at h
    have h1 := VP.set h hq (fun j' c u e => ho 0 j' c u (fun z => e z.2)) hx
    rw [hs, VT_part h1.notup]
    exact h1
  cases d with
  | tup ds =>
    obtain ⟨vs, rfl, hl, h1⟩ := h
    refine ⟨vs, rfl, by simpa using hl, fun i' e u hd hu => ?_⟩
    by_cases e' : i' = i
    · subst e'
      have hlt : i' < ds.length := (List.getElem?_eq_some_iff.1 hp).1
      rw [List.getElem?_set_self hlt] at hd
      cases hd
      exact VP.set (h1 i' q u hp hu) hq (fun j' c u e => ho i' j' c u (fun z => e z.2)) hx
    · rw [List.getElem?_set_ne (fun q => e' q.symm)] at hd
      have h2 := h1 i' e u hd hu
      have h3 := VP.map (w' := w') (G' := G') (m' := m') (r' := r) (i' := i') (fun _ c => c) (fun j' c u hc => ho i' j' c u (fun z => e' z.1) hc) h2
      rwa [mapAt_id] at h3
  | _ => exact key _ (by intro cs h; cases h) h hp (fun _ => rfl)

theorem Wr.ownKeeps (W : Wr w w' b) {p : Place} (hb : G.own b = some (.lst p)) (hstow : ∀ b e, G.st b e → G.own b = none) (m : Mt) : Keeps w G m w' G m.bE (fun q => q ≠ p) where
  be := fun _ _ h => h
  st := fun _ _ h => h
  cell := fun b' n o hs _ => W.cell (by rintro rfl; rw [hstow _ _ hs] at hb; cases hb) o
  ep := by simp [Mt.bE]
  rv := fun r => by cases r <;> exact Nat.le_refl _
  al := fun _ => Nat.le_refl _
  era := Nat.le_refl _
  rd := fun he => by simp [Mt.bE] at he
  pl := fun _ _ _ => rfl
  la := fun _ _ => rfl
  own := fun b' q hq ho => by
    have : b' ≠ b := by
      rintro rfl
      rw [ho] at hb
      cases hb
      exact hq rfl
    exact ⟨ho, rfl, fun o => ⟨W.cell this o, W.frozen _⟩⟩
  opl := fun _ _ => rfl
  mp := fun _ k b' es clock _ hh => ⟨es, clock, W.map _ _ _ hh, fun i x hx => ⟨x, hx, rfl⟩⟩

theorem Rel.writeOwn (h : Rel X G s a w) {p : Place} {sz : Nat} {ys ys' : List (List D)} (hp : getPl s p = some (.list (.own sz) ys)) (hr : okR X.ro p.r = true) (W : Wr w w' b) (hb : G.own b = some (.lst p))
    (hnew : ∀ v, OwnL w G p sz ys v → OwnL w' G p sz ys' v) : Rel X G { (setPl s p (.list (.own sz) ys')) with m := (setPl s p (.list (.own sz) ys')).m.bE } a w' := by
  have K := W.ownKeeps hb h.stow s.m
  obtain ⟨r, i, j⟩ := p
  have hbne : ∀ {r'}, G.own b ≠ some (.box r') := by rw [hb]; intro r' e; cases e
  cases r with
  | air n => cases hp
  | slot t =>
    simp only [getPl] at hp
    cases hl : lk t s.env with
    | none => simp [hl] at hp
    | some d =>
      cases hq : partAt d i with
      | none => simp [hl, hq] at hp
      | some q =>
        have hp' : cellAt q j = some (.list (.own sz) ys) := by simpa [hl, hq] using hp
        simp only [setPl, hl, hq]
        refine h.reW W (by rw [hb]; exact fun e => nomatch e) (fun _ _ => rfl) rfl rfl (fun b e he => .inl he) h.stow h.std h.size h.defers (fun u e hu => ?_) (fun u cs hu => ⟨⟨cs, hu⟩, h.locW W K (fun j => by simp) hu (by rintro rfl; exact hbne (h.loc u cs hu).1)⟩) rfl rfl (fun k o b' hk hb' => h.stoW W K (fun j => by simp) hk hb' ?_)
        · have hu' : lk u (ins t (setPart d i (setCellD q j (.list (.own sz) ys'))) s.env) = some e := hu
          rw [lk_ins] at hu'
          by_cases e' : u = t
          · subst e'
            simp at hu'
            subst hu'
            refine VT.set (h.env u d hl) hq hp' (fun i' j' c' x hne hx => K.vc (fun _ => ?_) hx) (fun v hv => hnew v hv)
            intro e
            cases e
            exact hne ⟨rfl, rfl⟩
          · simp only [e', if_false] at hu'
            exact K.vt (fun i' q' j' c' _ _ _ => by simp; intro e''; exact absurd e'' e') (h.env u e hu')
        · rintro rfl
          obtain ⟨b'', h1, h2, _⟩ := h.sto k o hk
          rw [hb'] at h1
          cases h1
          split at h2 <;> (rw [h2] at hb; cases hb)
  | lbox t =>
    simp only [getPl] at hp
    cases hl : lk t s.loc with
    | none => simp [hl] at hp
    | some cs =>
      simp only [hl, Option.bind_some, Option.ite_none_right_eq_some] at hp
      obtain ⟨rfl, hp'⟩ := hp
      simp only [setPl, hl]
      refine h.reW W (by rw [hb]; exact fun e => nomatch e) (fun _ _ => rfl) rfl rfl (fun b e he => .inl he) h.stow h.std h.size h.defers (fun u e hu => K.vt (fun i' q' j' c' _ _ _ => by simp) (h.env u e hu)) (fun u cs' hu => ?_) rfl rfl (fun k o b' hk hb' => h.stoW W K (fun j => by simp) hk hb' ?_)
      · have hu' : lk u (insL t (cs.set j (.list (.own sz) ys')) s.loc) = some cs' := hu
        rw [lk_insL] at hu'
        by_cases e' : u = t
        · subst e'
          simp at hu'
          subst hu'
          obtain ⟨o1, o2⟩ := h.loc u cs hl
          have hne : G.la u ≠ b := by rintro rfl; exact hbne o1
          refine ⟨⟨cs, hl⟩, fun j' d hd => ?_⟩
          by_cases e : j' = j
          · subst e
            rw [List.getElem?_set_self (List.getElem?_eq_some_iff.1 hp').1] at hd
            cases hd
            obtain ⟨x, x1, x2, x3⟩ := o2 j' _ hp'
            exact ⟨x, by rw [W.cell hne]; exact x1, by rw [W.frozen]; exact x2, hnew x x3⟩
          · rw [List.getElem?_set_ne (fun q => e q.symm)] at hd
            obtain ⟨x, x1, x2, x3⟩ := o2 j' _ hd
            exact ⟨x, by rw [W.cell hne]; exact x1, by rw [W.frozen]; exact x2, K.vc (fun _ => by simp; exact e) x3⟩
        · simp only [e', if_false] at hu'
          exact ⟨⟨cs', hu'⟩, h.locW W K (fun j => by simp; intro e''; exact absurd e'' e') hu' (by rintro rfl; exact hbne (h.loc u cs' hu').1)⟩
      · rintro rfl
        obtain ⟨b'', h1, h2, _⟩ := h.sto k o hk
        rw [hb'] at h1
        cases h1
        split at h2 <;> (rw [h2] at hb; cases hb)
  | gbox k =>
    simp only [getPl] at hp
    split at hp
    · rename_i cs hl
      rw [Option.ite_none_right_eq_some] at hp
      obtain ⟨rfl, hp'⟩ := hp
      simp only [setPl, hl]
      have hkr : X.ro ≤ k := by simpa [okR] using hr
      have hne : ∀ k' o b', s.sto[k']? = some o → G.be k' = some b' → b' ≠ b := by
        intro k' o b' hk' hb'
        rintro rfl
        obtain ⟨b'', h1, h2, _⟩ := h.sto k' o hk'
        rw [hb'] at h1
        cases h1
        split at h2 <;> (rw [h2] at hb; cases hb)
      refine h.reW W (by rw [hb]; exact fun e => nomatch e) (fun _ _ => rfl) rfl rfl (fun b e he => .inl he) h.stow h.std h.size h.defers (fun u e hu => K.vt (fun i' q' j' c' _ _ _ => by simp) (h.env u e hu)) (fun u cs' hu => ⟨⟨cs', hu⟩, h.locW W K (fun j => by simp) hu (by rintro rfl; exact hbne (h.loc u cs' hu).1)⟩) rfl (by simp) (fun k' o b' hk' hb' => ?_)
      have hk2 : (s.sto.set k (.box (cs.set j (.list (.own sz) ys'))))[k']? = some o := hk'
      by_cases e : k' = k
      · subst e
        rw [List.getElem?_set_self (List.getElem?_eq_some_iff.1 hl).1] at hk2
        cases hk2
        obtain ⟨b'', h1, h2, h3, h4⟩ := h.sto k' _ hl
        rw [hb'] at h1
        cases h1
        have hn := hne k' _ b' hl hb'
        simp only [ObV] at h4 ⊢
        rw [if_neg (by omega)] at h4 ⊢
        intro j' d hd
        by_cases e : j' = j
        · subst e
          rw [List.getElem?_set_self (List.getElem?_eq_some_iff.1 hp').1] at hd
          cases hd
          obtain ⟨x, x1, x2, x3⟩ := h4 j' _ hp'
          exact ⟨x, by rw [W.cell hn]; exact x1, by rw [W.frozen]; exact x2, hnew x x3⟩
        · rw [List.getElem?_set_ne (fun q => e q.symm)] at hd
          obtain ⟨x, x1, x2, x3⟩ := h4 j' _ hd
          exact ⟨x, by rw [W.cell hn]; exact x1, by rw [W.frozen]; exact x2, K.vc (fun _ => by simp; exact e) x3⟩
      · rw [List.getElem?_set_ne (fun q => e q.symm)] at hk2
        exact h.stoW W K (fun j => by simp; intro e''; exact absurd e'' e) hk2 hb' (hne k' o b' hk2 hb')
    · cases hp
end

end Go.Lv

namespace Go.Lv

section
variable {P : Program} {L : Ly} {X : Ctx} {G G' : Gh} {s s' s1 : DS} {a a' : Act} {w w' : World} {c : FC} {b : Nat} {m m' : Mt}

theorem Rel.voidO (h : Rel X G s a w) (hn : c.n = X.n) {dst : Option Nat} {v : Value} (hv : voidS c dst s = some s') : Rel X G s' (a.put dst v) w := by
  unfold voidS at hv
  cases dst with
  | none => cases hv; exact h
  | some t =>
    simp only [Option.ite_none_right_eq_some] at hv
    obtain ⟨ht, hv⟩ := hv
    cases hv
    refine h.void _ ?_ ?_ ?_ ?_ ?_ (by omega) <;> split <;> first | rfl | exact bS_rv _ _ | exact fun _ => Nat.le_refl _ | exact Nat.le_refl _

theorem run_storeAt (H : LyOK P L) {t off : Nat} {v : Value} (ht : t < L.length) (hs : v.cells.size = L.size t) (hc : ∀ j, j < v.cells.size → (w.cell? ⟨b, off + j, none⟩).isSome = true) (hf : ∀ j, j < v.cells.size → w.frozen? ⟨b, off + j, none⟩ = false) (h1 : ∀ u ∈ v.cells.toList, u.oneCell' = true) :
    (Instr.storeAt t (.pointer (some ⟨b, off, none⟩)) v).run P w = .ok () (w.setCells b off v.cells.toList) := by
  have hst := run_storeCells_cells (P := P) b off v.cells.toList 0 w (by simpa using hc) (by simpa using hf) h1
  simp only [Nat.add_zero] at hst
  unfold Instr.storeAt Instr.sureAddr storeVar
  simp only [Sem.run_bind, Sem.run_pure, Result.andThen_ok, H.sizeOf' (List.getElem?_eq_getElem ht)]
  rw [if_neg (by simp [hs])]
  simp [hst]

theorem stoC_notTup {d : D} (h : (cellsD d).all stoC = true) : ∀ es, d ≠ .tup es := by
  rintro es rfl
  simp [cellsD, stoC, rowC] at h
theorem locC_notTup {d : D} (h : (cellsD d).all locC = true) : ∀ es, d ≠ .tup es := by
  rintro es rfl
  simp [cellsD, locC, rowC] at h
theorem locC_fz_notTup {d : D} (h : ((cellsD d).map fz).all locC = true) : ∀ es, d ≠ .tup es := by
  rintro es rfl
  simp [cellsD, locC, rowC, fz] at h
theorem rowC_fz_notTup {d : D} (h : ((cellsD d).map fz).all rowC = true) : ∀ es, d ≠ .tup es := by
  rintro es rfl
  simp [cellsD, rowC, fz] at h

theorem Rel.cellsAir (h : Rel X G s a w) {N : Nat} {d : D} {v : Value} (hv : VT w G s.m (.air N) d v) (hnt : ∀ es, d ≠ .tup es) (keep : Bool) :
    ∃ G', Rel X G' s a w ∧ v.cells.toList.length = (cellsD d).length ∧ (∀ (j : Nat) (e : D) (u : Value), (if keep then cellsD d else (cellsD d).map fz)[j]? = some e → v.cells.toList[j]? = some u → VC w G' s.m ⟨.air N, 0, j⟩ e u) ∧ (∀ u ∈ v.cells.toList, u.oneCell' = true) ∧ Keeps w G s.m w G' s.m (fun p => p.r ≠ .air N) := by
  rw [VT_part hnt] at hv
  obtain ⟨h1, h2⟩ := vp_cells hv
  have h1' : v.cells.toList.length = (cellsD d).length := by simpa using h1
  have h3 : ∀ u ∈ v.cells.toList, u.oneCell' = true := by
    intro u hu
    obtain ⟨j, hj⟩ := List.mem_iff_getElem?.1 hu
    have hlt : j < (cellsD d).length := by rw [← h1']; exact (List.getElem?_eq_some_iff.1 hj).1
    exact vc_one (h2 j _ u (List.getElem?_eq_getElem hlt) (by simpa using hj))
  cases keep with
  | true => exact ⟨G, h, h1', fun j e u he hu => h2 j e u (by simpa using he) (by simpa using hu), h3, Keeps.refl _ _ _ _⟩
  | false =>
    obtain ⟨r1, K1⟩ := h.freeze N
    refine ⟨_, r1, h1', fun j e u he hu => ?_, h3, K1⟩
    simp only [Bool.false_eq_true, if_false, List.getElem?_map] at he
    obtain ⟨e0, he0, rfl⟩ := Option.map_eq_some_iff.1 he
    exact VC.fz (p := ⟨.air N, 0, j⟩) rfl (h2 j e0 u he0 (by simpa using hu))

theorem boxV_cells {r : Root} {bs : List D} (h : BoxV w G m r b bs) {j : Nat} (hj : j < bs.length) : (w.cell? ⟨b, j, none⟩).isSome = true ∧ w.frozen? ⟨b, j, none⟩ = false := by
  obtain ⟨u, h1, h2, _⟩ := h j _ (List.getElem?_eq_getElem hj)
  exact ⟨by rw [h1]; rfl, h2⟩

theorem ups_or (m : Mt) (x : Bool) (r : Root) : Ups m (if x = true then m.bR r else m) := by
  split
  · exact bR_ups _ _
  · exact Ups.refl _
theorem lt_or1 (m : Mt) {y : Bool} {r : Root} (hr : r.isAir = false) : (if y = true then m.bR r else m).rv r ≠ m.rv r ∨ y = false := by
  cases y <;> simp <;> exact bR_lt m hr

theorem op_store (H : LyOK P L) (h : Rel X G s a w) (hn : c.n = X.n) {o : Oper} {t : Nat} {x y : Operand} (ho : o.op = .store t x y) (hs : opD L c X.ro s o = some s') : Yd P X o a w s' := by
  simp only [opD, ho] at hs
  split at hs
  · rename_i d s1 htk
    split at hs
    · rename_i ad had
      split at hs
      · rename_i s2 hst
        obtain ⟨G0, r0, v0, K0, _⟩ := takeO_rel h htk 0
        obtain ⟨G1, r1, v1⟩ : ∃ G1, Rel X G1 s1 a w ∧ VT w G1 s1.m (.air 0) (if fsO c y = true then fzTop d else d) (a.eval y) := by
          split
          · obtain ⟨r1, K1⟩ := r0.freeze 0
            exact ⟨_, r1, VT.fz v0⟩
          · exact ⟨_, r0, v0⟩
        generalize (if fsO c y = true then fzTop d else d) = d at *
        have fin : ∀ G' w', (Instr.storeAt t (a.eval x) (a.eval y)).run P w = .ok () w' → Rel X G' s2 a w' → Yd P X o a w s' := by
          intro G' w' hr hR
          refine ⟨undef, w', G', .inr ⟨?_, rfl⟩, hR.voidO hn hs⟩
          simp only [execOp, ho, Sem.run_bind, hr, Result.andThen_ok, Sem.run_pure]
        unfold storeD at hst
        simp only at hst
        rw [Option.ite_none_right_eq_some] at hst
        obtain ⟨⟨hsz, htl⟩, hst⟩ := hst
        split at hst
        · rename_i u ver off
          rw [Option.ite_none_right_eq_some] at hst
          obtain ⟨hver, hst⟩ := hst
          split at hst
          · rename_i bs hbs
            rw [Option.ite_none_right_eq_some] at hst
            obtain ⟨hoff, hst⟩ := hst
            rw [Option.ite_none_right_eq_some] at hst
            obtain ⟨hall, hst⟩ := hst
            cases hst
            have hnt : ∀ es, d ≠ .tup es := by
              cases hk : c.kb.contains u with
              | true => rw [hk] at hall; exact locC_notTup (by simpa using hall)
              | false => rw [hk] at hall; exact locC_fz_notTup (by simpa using hall)
            obtain ⟨G2, r2, l2, c2, o2, K2⟩ := r1.cellsAir v1 hnt (c.kb.contains u)
            have hlen : (if c.kb.contains u = true then cellsD d else (cellsD d).map fz).length = (cellsD d).length := by split <;> simp
            obtain ⟨ad, hp, _, hq⟩ := (lookO_vt r1 had (.air 0) rfl : LpV G1 s1.m u ver off (a.eval x))
            have hla : G2.la u = G1.la u := K2.la u rfl
            obtain ⟨q1, q2⟩ := r2.loc u bs hbs
            refine fin _ _ ?_ (r2.storeLoc (N := 0) (off := off) (vs := (a.eval y).cells.toList) (ys := if c.kb.contains u = true then cellsD d else (cellsD d).map fz) hbs ?_ ?_ (by rw [hlen]; exact l2) (by rw [hlen]; exact hoff) c2).choose_spec
            · rw [hp, hq hver, ← hla]
              refine run_storeAt H htl (by simpa [hsz] using l2) (fun j hj => (boxV_cells q2 ?_).1) (fun j hj => (boxV_cells q2 ?_).2) o2
              all_goals
                rw [← Array.length_toList, l2] at hj
                omega
            · exact ups_or _ _ (.lbox u)
            · exact lt_or1 s1.m (r := .lbox u) rfl
          · cases hst
        · rename_i k off
          rw [Option.ite_none_right_eq_some] at hst
          obtain ⟨hkr, hst⟩ := hst
          split at hst
          · rename_i bs hbs
            rw [Option.ite_none_right_eq_some] at hst
            obtain ⟨hcond, hst⟩ := hst
            cases hst
            simp only [Bool.and_eq_true, decide_eq_true_eq] at hcond
            obtain ⟨hoff, hall⟩ := hcond
            obtain ⟨G2, r2, l2, c2, o2, K2⟩ := r1.cellsAir v1 (stoC_notTup hall) true
            obtain ⟨bb, hb, hp⟩ := inv_gptr (lookO_vt r1 had (.air 0) rfl)
            obtain ⟨G3, b3, e3, x3, r3⟩ := r2.storeSto (N := 0) (off := off) (vs := (a.eval y).cells.toList) (ys := cellsD d) (m' := if (cellsD d).any isOwn = true then s1.m.bG else s1.m) hbs hkr (ups_or _ _ (.gbox k)) (lt_or1 s1.m (r := .gbox k) rfl) l2 hoff c2
            have hbb := K2.be k bb hb
            rw [e3] at hbb
            cases hbb
            refine fin _ _ ?_ r3
            rw [hp]
            refine run_storeAt H htl (by simpa [hsz] using l2) (fun j hj => (boxV_cells x3 ?_).1) (fun j hj => (boxV_cells x3 ?_).2) o2
            all_goals
              rw [← Array.length_toList, l2] at hj
              omega
          · cases hst
        · rename_i e p ver i row off
          rw [Option.ite_none_right_eq_some] at hst
          obtain ⟨⟨hver, hok⟩, hst⟩ := hst
          split at hst
          · rename_i sz ys hpl
            split at hst
            · rename_i r hr
              rw [Option.ite_none_right_eq_some] at hst
              obtain ⟨hcond, hst⟩ := hst
              cases hst
              simp only [Bool.and_eq_true, decide_eq_true_eq, List.length_map, beq_iff_eq] at hcond
              obtain ⟨⟨hoff, hall⟩, hrl⟩ := hcond
              obtain ⟨G2, r2, l2, c2, o2, K2⟩ := r1.cellsAir v1 (rowC_fz_notTup hall) false
              have hev := K2.vt (r := .air 1) (fun _ _ _ _ h1 h2 h3 => by have := hasOwn_part h1 h2 h3; cases this) (lookO_vt r1 had (.air 1) rfl)
              obtain ⟨bb, oo, hp, _, _, _, hq⟩ := (hev : EpV w G2 s1.m e (some (p, ver)) i row off (a.eval x))
              obtain ⟨hair, _, hq⟩ := hq p ver rfl
              obtain ⟨hb1, hb2⟩ := hq hver
              obtain ⟨v, hown⟩ := getPl_own r2 hpl hok
              have hne : ys ≠ [] := by rintro rfl; simp at hr
              rcases hown with ⟨q, _⟩ | ⟨hz, b, o1, cap, hv, hcap, hown, hfin, hGpl, hcell, hrows⟩
              · exact absurd q hne
              · rw [hGpl] at hb1 hb2
                simp only at hb1 hb2
                subst hb1
                have hrs : r.length = sz := hrows.1 r (List.mem_of_getElem? hr)
                have hi : i < ys.length := (List.getElem?_eq_some_iff.1 hr).1
                rw [← hrl, hrs] at hb2
                have hmul := mul_lt (sz := sz) hi
                have hmul2 : ys.length * sz ≤ cap * sz := Nat.mul_le_mul_right _ hcap
                have hin : ∀ j, j < (cellsD d).length → oo + off + j = o1 + (i * sz + off + j) ∧ i * sz + off + j < cap * sz := fun j hj => by omega
                have hW := Wr.of_setCells w bb (oo + off) (a.eval y).cells.toList
                have hcs : ∀ j, j < (a.eval y).cells.toList.length → (w.cell? ⟨bb, oo + off + j, none⟩).isSome = true := fun j hj => by
                  rw [l2] at hj
                  obtain ⟨i1, i2⟩ := hin j hj
                  obtain ⟨⟨u, hu⟩, _⟩ := hcell _ i2
                  rw [i1, hu]; rfl
                refine fin G2 _ ?_ (r2.writeOwn hpl hok hW hown (fun v' hv' => ?_))
                · rw [hp]
                  refine run_storeAt H htl (by simpa [hsz] using l2) (fun j hj => hcs j (by simpa using hj)) (fun j hj => ?_) o2
                  rw [← Array.length_toList, l2] at hj
                  obtain ⟨i1, i2⟩ := hin j hj
                  rw [i1]
                  exact (hcell _ i2).2
                · have hsl : (splice r off ((cellsD d).map fz)).length = sz := by rw [length_splice _ _ _ (by simpa using hoff), hrs]
                  rcases hv' with ⟨q, _⟩ | ⟨_, b', o1', cap', rfl, hcap', hown', hfin', hGpl', hcell', hrows'⟩
                  · exact absurd q hne
                  · rw [hGpl] at hGpl'
                    cases hGpl'
                    have K := hW.ownKeeps hown r2.stow s1.m
                    refine .inr ⟨hz, bb, o1, cap', by simp, by simpa using hcap', hown, by simpa using hfin, hGpl, fun q hq => ?_, fun r' hr' => ?_, fun j c' r' d' hr' hd' => ?_⟩
                    · obtain ⟨⟨u, hu⟩, hf⟩ := hcell' q hq
                      refine ⟨?_, by rw [hW.frozen]; exact hf⟩
                      by_cases hin2 : oo + off ≤ o1 + q ∧ o1 + q < oo + off + (a.eval y).cells.toList.length
                      · obtain ⟨z, hz⟩ : ∃ z, (a.eval y).cells.toList[o1 + q - (oo + off)]? = some z := ⟨_, List.getElem?_eq_getElem (by omega)⟩
                        have := setCells_at hcs hz
                        rw [show oo + off + (o1 + q - (oo + off)) = o1 + q by omega] at this
                        exact ⟨z, this⟩
                      · exact ⟨u, by rw [World.cell?_setCells_out bb _ _ _ _ (fun _ _ => by show o1 + q < _ ∨ _ ≤ o1 + q; omega)]; exact hu⟩
                    · rcases List.mem_or_eq_of_mem_set hr' with h1 | rfl
                      · exact hrows.1 r' h1
                      · exact hsl
                    · have hc' : c' < sz := by
                        have h8 := (List.getElem?_eq_some_iff.1 hd').1
                        rcases List.mem_or_eq_of_mem_set (List.mem_of_getElem? hr') with h1 | rfl
                        · rwa [hrows.1 r' h1] at h8
                        · rwa [hsl] at h8
                      by_cases hji : j = i
                      · subst hji
                        rw [List.getElem?_set_self hi] at hr'
                        cases hr'
                        rw [getElem?_splice _ _ _ (by simpa using hoff), List.length_map] at hd'
                        split at hd'
                        · rename_i hin2
                          obtain ⟨z, hz⟩ : ∃ z, (a.eval y).cells.toList[c' - off]? = some z := ⟨_, List.getElem?_eq_getElem (by omega)⟩
                          have h7 := setCells_at hcs hz
                          rw [show oo + off + (c' - off) = o1 + (j * sz + c') by omega] at h7
                          refine ⟨z, h7, K.imm (vc_rowC (c2 (c' - off) d' z (by simpa using hd') hz) ?_)⟩
                          exact List.all_eq_true.1 hall d' (List.mem_of_getElem? hd')
                        · rename_i hin2
                          obtain ⟨u, hu, hi'⟩ := hrows.2 j c' r d' hr hd'
                          exact ⟨u, by rw [World.cell?_setCells_out bb _ _ _ _ (fun _ _ => by show o1 + (j * sz + c') < _ ∨ _ ≤ o1 + (j * sz + c'); omega)]; exact hu, K.imm hi'⟩
                      · rw [List.getElem?_set_ne (fun q => hji q.symm)] at hr'
                        obtain ⟨u, hu, hi'⟩ := hrows.2 j c' r' d' hr' hd'
                        refine ⟨u, ?_, K.imm hi'⟩
                        rw [World.cell?_setCells_out bb _ _ _ _ (fun _ _ => ?_)]
                        · exact hu
                        · show o1 + (j * sz + c') < _ ∨ _ ≤ o1 + (j * sz + c')
                          rcases Nat.lt_or_ge j i with hlt | hge
                          · have := mul_lt (sz := sz) hlt
                            omega
                          · have := mul_lt (sz := sz) (show i < j by omega)
                            omega
            · cases hst
          · cases hst
        · cases hst
      · cases hs
    · cases hs
  · cases hs

theorem Rel.takeOut (h : Rel X G s a w) {r : Root} {off n N : Nat} (hm : Ups s.m m') : 
    Keeps w G s.m w (G.mv (fromB N r off n) (inB N r off n)) m' (fun p => fromB N r off n p = none ∧ inB N r off n p = none) :=
  mv_keeps hm.ep hm.rv hm.al hm.era (fun q p hq => by
    left
    unfold inB at hq
    rw [Option.ite_none_right_eq_some] at hq
    rw [hq.1.1]
    rfl)

theorem op_loadAll (H : LyOK P L) (h : Rel X G s a w) (hn : c.n = X.n) {o : Oper} {t : Nat} {x : Operand} (ho : o.op = .load t x) (hs : opD L c X.ro s o = some s') : Yd2 P c X G o s a w s' := by
  by_cases hx : ∀ ad cs dst, lookO s x = some ad → readD X.ro s ad (L.size t) = some cs → cs.any isOwn = true → o.dst = some dst → c.xf.contains dst = false
  · exact op_load H h hn ho hs hx
  · simp only [Classical.not_forall] at hx
    obtain ⟨ad, cs, dst, had, hcs, hown, hdst, hxf⟩ := hx
    have hxf : c.xf.contains dst = true := by simpa using hxf
    simp only [opD, ho, had, loadD, hcs, hown, if_true, hdst] at hs
    have hao : hasOwn ad = false := by
      unfold readD at hcs
      split at hcs <;> first | rfl | cases hcs
    have hva := lookO_vt h had (.air 0) hao
    obtain ⟨b, off, hv, hlen, hcell⟩ := readD_rel h hva hcs
    have hr : ∀ {cs' d}, ofCells L t cs' = some d → (execOp a.eval o).run P w = .ok (.value (mkV L t (cellsAt w b off (L.size t)))) w := by
      intro cs' d hof
      obtain ⟨_, td, ht⟩ := ofCells_has hof
      simp only [execOp, ho, hv]
      rw [Sem.run_bind, run_loadAt H ht (fun j hj => ?_) (ofCells_one hof)]
      · rfl
      · obtain ⟨u, hu, _⟩ := hcell j (cs[j]'(by omega)) (List.getElem?_eq_getElem (by omega))
        exact ⟨u, hu⟩
    have hcell' : ∀ j d u, cs[j]? = some d → (cellsAt w b off (L.size t))[j]? = some u → VC w G s.m (srcP s ad j) d u := by
      intro j d u hd hu
      obtain ⟨u', hu', hc⟩ := hcell j d hd
      have hj : j < L.size t := by rw [← hlen]; exact (List.getElem?_eq_some_iff.1 hd).1
      rw [cellsAt_get hj hu'] at hu
      cases hu
      exact hc
    split at hs
    · rename_i r off' y hroot hy
      cases hy
      rw [if_pos hxf] at hs
      have fin : ∀ (cs' : List D) (G1 : Gh) (s1 : DS) (d : D), cs'.length = L.size t → ofCells L t cs' = some d → Rel X G1 s1 a w → put c (some dst) d s1 = some s' → (∀ j d u, cs'[j]? = some d → (cellsAt w b off (L.size t))[j]? = some u → VC w G1 s1.m ⟨.air 0, 0, j⟩ d u) → Yd2 P c X G o s a w s' := by
        intro cs' G1 s1 d hl hof r1 hp hc
        rw [← hdst] at hp
        exact Yd2.tk (.inr ⟨dst, hdst, hxf⟩) r1 (hr hof) hp 0 (ofCells_vt hof (by rw [cellsAt_length, hl]) hc)
      split at hs
      · rename_i u
        split at hs
        · rename_i bs hbs
          have hro : ∃ ver, ad = .lptr u ver off' := by
            unfold rootOf at hroot
            split at hroot <;> first | (cases hroot; exact ⟨_, rfl⟩) | cases hroot
          obtain ⟨ver, rfl⟩ := hro
          simp only [readD] at hcs
          rw [Option.ite_none_right_eq_some] at hcs
          obtain ⟨hver, hcs⟩ := hcs
          rw [hbs] at hcs
          simp only at hcs
          obtain ⟨z1, z2, z3⟩ := sliceL_get hcs
          have K := h.takeOut (r := .lbox u) (off := off') (n := cs.length) (N := 0) (m' := s.m.bL u) (bR_ups _ (.lbox u))
          have r1 : Rel X (G.mv (fromB 0 (.lbox u) off' cs.length) (inB 0 (.lbox u) off' cs.length)) { s with loc := insL u (splice bs off' (cs.map (leftC s.m.ep))) s.loc, m := s.m.bL u } a w := by
            refine h.re (fun b hb => mv_own_other hb) rfl rfl (fun b e he => .inl he) (mv_stow h.stow) h.std (fun u' e hu => K.vt (fun i q j c _ _ _ => ⟨fromB_no (.inl (by simp)), inB_no (by simp)⟩) (h.env u' e hu)) (fun u' bs' hu => ?_) rfl rfl (fun k o b hk hb => h.stoK K (fun t j => ⟨fromB_no (.inl (by simp)), inB_no (by simp)⟩) hk hb)
            have hu' : lk u' (insL u (splice bs off' (cs.map (leftC s.m.ep))) s.loc) = some bs' := hu
            rw [lk_insL] at hu'
            by_cases e : u' = u
            · subst e
              simp at hu'
              subst hu'
              refine ⟨⟨bs, hbs⟩, fun j d hd => ?_⟩
              rw [getElem?_splice _ _ _ (by simp; omega), List.length_map] at hd
              obtain ⟨_, hbx⟩ := h.loc u' bs hbs
              split at hd
              · rename_i hj
                rw [List.getElem?_map] at hd
                obtain ⟨d0, hd0, rfl⟩ := Option.map_eq_some_iff.1 hd
                rw [z3 (j - off') (by omega), show off' + (j - off') = j by omega] at hd0
                obtain ⟨v, v1, v2, v3⟩ := hbx j d0 hd0
                exact ⟨v, v1, v2, VC.left K rfl v3⟩
              · rename_i hj
                obtain ⟨v, v1, v2, v3⟩ := hbx j d hd
                exact ⟨v, v1, v2, K.vc (fun _ => ⟨fromB_no (.inr hj), inB_no (by simp)⟩) v3⟩
            · simp only [e, if_false] at hu'
              exact ⟨⟨bs', hu'⟩, K.box (fun j c _ _ => ⟨fromB_no (.inl (by simp [e])), inB_no (by simp)⟩) (fun _ => ⟨rfl, rfl⟩) (h.loc u' bs' hu').2⟩
          have hair : ∀ j d0 v q, off' ≤ j → j < off' + cs.length → VC w G s.m ⟨.lbox u, 0, j⟩ d0 v → VC w ((G.mv (fromB 0 (.lbox u) off' cs.length) (inB 0 (.lbox u) off' cs.length)).fr (.air 0)) (s.m.bL u) q (fz d0) v := by
            intro j d0 v q h1 h2 h3
            refine VC.fz (p := ⟨.air 0, 0, j - off'⟩) rfl (VC.mv K ?_ ?_ h3)
            · exact fromB_at (N := 0) (r := .lbox u) (off := off') (n := cs.length) (j := j) (by omega) (by omega)
            · have := inB_at (N := 0) (r := .lbox u) (off := off') (n := cs.length) (j := j) (by omega) (by omega)
              exact this
          split at hs
          · split at hs
            · rename_i d hof
              obtain ⟨r2, _⟩ := r1.freeze 0
              have hlu : lk u (insL u (splice bs off' (cs.map (leftC s.m.ep))) s.loc) = some (splice bs off' (cs.map (leftC s.m.ep))) := by rw [lk_insL]; simp
              have r3 : Rel X ((G.mv (fromB 0 (.lbox u) off' cs.length) (inB 0 (.lbox u) off' cs.length)).fr (.air 0)) { s with loc := insL u (splice bs off' (cs.map fz)) s.loc, m := s.m.bL u } a w := by
                refine r2.re (fun _ _ => rfl) rfl rfl (fun b e he => .inl he) r2.stow r2.std r2.env (fun u' bs' hu => ?_) rfl rfl (fun k o b hk hb => ?_)
                · have hu' : lk u' (insL u (splice bs off' (cs.map fz)) s.loc) = some bs' := hu
                  rw [lk_insL] at hu'
                  by_cases e : u' = u
                  · subst e
                    simp at hu'
                    subst hu'
                    refine ⟨⟨_, hlu⟩, fun j d hd => ?_⟩
                    rw [getElem?_splice _ _ _ (by simp; omega), List.length_map] at hd
                    obtain ⟨_, hbx⟩ := h.loc u' bs hbs
                    split at hd
                    · rename_i hj
                      rw [List.getElem?_map] at hd
                      obtain ⟨d0, hd0, rfl⟩ := Option.map_eq_some_iff.1 hd
                      rw [z3 (j - off') (by omega), show off' + (j - off') = j by omega] at hd0
                      obtain ⟨v, v1, v2, v3⟩ := hbx j d0 hd0
                      exact ⟨v, v1, v2, hair j d0 v _ (by omega) (by omega) v3⟩
                    · rename_i hj
                      obtain ⟨v, v1, v2, v3⟩ := hbx j d hd
                      exact ⟨v, v1, v2, (fr_keeps (r := .air 0)).vc (fun _ => by simp) (K.vc (fun _ => ⟨fromB_no (.inr hj), inB_no (by simp)⟩) v3)⟩
                  · simp only [e, if_false] at hu'
                    have hq : lk u' (insL u (splice bs off' (cs.map (leftC s.m.ep))) s.loc) = some bs' := by rw [lk_insL]; simpa only [e, if_false] using hu'
                    exact ⟨⟨bs', hq⟩, (r2.loc u' bs' hq).2⟩
                · obtain ⟨b2, e1, _, _, e4⟩ := r2.sto k o hk
                  have e5 : some b = some b2 := hb.symm.trans e1
                  cases e5
                  exact e4
              refine fin (cs.map fz) _ _ d (by rw [List.length_map]; exact hlen) hof r3 hs (fun j d u' hd hu => ?_)
              rw [List.getElem?_map] at hd
              obtain ⟨d0, hd0, rfl⟩ := Option.map_eq_some_iff.1 hd
              have hj : j < cs.length := (List.getElem?_eq_some_iff.1 hd0).1
              have h1 := hcell' j d0 u' hd0 hu
              simp only [srcP, rootOf] at h1
              exact hair (off' + j) d0 u' _ (by omega) (by omega) h1
            · cases hs
          split at hs
          · rename_i d hof
            refine fin cs _ _ d hlen hof r1 hs (fun j d u' hd hu => ?_)
            have hj : j < cs.length := (List.getElem?_eq_some_iff.1 hd).1
            have h1 := hcell' j d u' hd hu
            simp only [srcP, rootOf] at h1
            refine VC.mv K ?_ ?_ h1
            · have := fromB_at (N := 0) (r := .lbox u) (off := off') (n := cs.length) (j := off' + j) (by omega) (by omega)
              rwa [show off' + j - off' = j by omega] at this
            · have := inB_at (N := 0) (r := .lbox u) (off := off') (n := cs.length) (j := off' + j) (by omega) (by omega)
              rwa [show off' + j - off' = j by omega] at this
          · cases hs
        · cases hs
      · rename_i k
        split at hs
        · rename_i bs hbs
          have hro : ad = .gptr k off' := by
            unfold rootOf at hroot
            split at hroot <;> first | (cases hroot; rfl) | cases hroot
          subst hro
          simp only [readD, hbs] at hcs
          split at hcs
          · rename_i ds hds
            cases hcs
            obtain ⟨z1, z2, z3⟩ := sliceL_get hds
            have hkr : X.ro ≤ k := by
              refine Nat.le_of_not_lt fun hk => ?_
              obtain ⟨y, hy, hyo⟩ := List.any_eq_true.1 hown
              obtain ⟨y0, _, rfl⟩ := List.mem_map.1 hy
              rw [fz_seeC hk, fz_own] at hyo
              cases hyo
            have hsee : ds.map (seeC X.ro k) = ds := by
              have : (seeC X.ro k) = id := by
                funext y
                simp [seeC, Nat.not_lt.2 hkr]
              rw [this, List.map_id]
            rw [hsee] at hs hlen hcell hown hcell'
            have K := h.takeOut (r := .gbox k) (off := off') (n := ds.length) (N := 0) (m' := s.m.bG) (bR_ups _ (.gbox k))
            have r1 : Rel X (G.mv (fromB 0 (.gbox k) off' ds.length) (inB 0 (.gbox k) off' ds.length)) { s with sto := s.sto.set k (.box (splice bs off' (ds.map fun x => if isOwn x then .dead else x))), m := s.m.bG } a w := by
              refine h.re (fun b hb => mv_own_other hb) rfl rfl (fun b e he => .inl he) (mv_stow h.stow) h.std (fun u' e hu => K.vt (fun i q j c _ _ _ => ⟨fromB_no (.inl (by simp)), inB_no (by simp)⟩) (h.env u' e hu)) (fun u' bs' hu => ⟨⟨bs', hu⟩, h.locK K (fun t j => ⟨fromB_no (.inl (by simp)), inB_no (by simp)⟩) hu⟩) rfl (by simp) (fun k' o b' hk' hb' => ?_)
              have hk2 : (s.sto.set k (.box (splice bs off' (ds.map fun x => if isOwn x then .dead else x))))[k']? = some o := hk'
              by_cases e : k' = k
              · subst e
                rw [List.getElem?_set_self (List.getElem?_eq_some_iff.1 hbs).1] at hk2
                cases hk2
                obtain ⟨b'', h1, h2, h3, h4⟩ := h.sto k' _ hbs
                rw [hb'] at h1
                cases h1
                simp only [ObV] at h4 ⊢
                rw [if_neg (by omega)] at h4 ⊢
                intro j d hd
                rw [getElem?_splice _ _ _ (by simp; omega), List.length_map] at hd
                split at hd
                · rename_i hj
                  rw [List.getElem?_map] at hd
                  obtain ⟨d0, hd0, rfl⟩ := Option.map_eq_some_iff.1 hd
                  rw [z3 (j - off') (by omega), show off' + (j - off') = j by omega] at hd0
                  obtain ⟨v, v1, v2, v3⟩ := h4 j d0 hd0
                  refine ⟨v, v1, v2, ?_⟩
                  split
                  · exact vc_one v3
                  · rename_i ho
                    exact K.vc (fun q => absurd q ho) v3
                · rename_i hj
                  obtain ⟨v, v1, v2, v3⟩ := h4 j d hd
                  exact ⟨v, v1, v2, K.vc (fun _ => ⟨fromB_no (.inr hj), inB_no (by simp)⟩) v3⟩
              · rw [List.getElem?_set_ne (fun q => e q.symm)] at hk2
                obtain ⟨b'', h1, h2, h3, h4⟩ := h.sto k' _ hk2
                rw [hb'] at h1
                cases h1
                cases o with
                | map es => exact h4
                | box cs' =>
                  simp only [ObV] at h4 ⊢
                  split <;> rename_i hr'
                  · simp only [hr', if_true] at h4
                    intro j d hd
                    obtain ⟨u, h5, h6⟩ := h4 j d hd
                    exact ⟨u, h5, K.imm h6⟩
                  · simp only [hr', if_false] at h4
                    exact K.box (fun j c _ _ => ⟨fromB_no (.inl (by simp [e])), inB_no (by simp)⟩) (fun _ => ⟨rfl, rfl⟩) h4
            have hair : ∀ j d0 v q, off' ≤ j → j < off' + ds.length → VC w G s.m ⟨.gbox k, 0, j⟩ d0 v → VC w ((G.mv (fromB 0 (.gbox k) off' ds.length) (inB 0 (.gbox k) off' ds.length)).fr (.air 0)) s.m.bG q (fz d0) v := by
              intro j d0 v q h1 h2 h3
              refine VC.fz (p := ⟨.air 0, 0, j - off'⟩) rfl (VC.mv K ?_ ?_ h3)
              · exact fromB_at (N := 0) (r := .gbox k) (off := off') (n := ds.length) (j := j) (by omega) (by omega)
              · have := inB_at (N := 0) (r := .gbox k) (off := off') (n := ds.length) (j := j) (by omega) (by omega)
                exact this
            split at hs
            · split at hs
              · rename_i d hof
                obtain ⟨r2, _⟩ := r1.freeze 0
                have r3 : Rel X ((G.mv (fromB 0 (.gbox k) off' ds.length) (inB 0 (.gbox k) off' ds.length)).fr (.air 0)) { s with sto := s.sto.set k (.box (splice bs off' (ds.map fz))), m := s.m.bG } a w := by
                  refine r2.re (fun _ _ => rfl) rfl rfl (fun b e he => .inl he) r2.stow r2.std r2.env (fun u' bs' hu => ⟨⟨bs', hu⟩, (r2.loc u' bs' hu).2⟩) rfl (by simp) (fun k' o b' hk' hb' => ?_)
                  have hk2 : (s.sto.set k (.box (splice bs off' (ds.map fz))))[k']? = some o := hk'
                  by_cases e : k' = k
                  · subst e
                    rw [List.getElem?_set_self (List.getElem?_eq_some_iff.1 hbs).1] at hk2
                    cases hk2
                    obtain ⟨b'', h1, h2, h3, h4⟩ := h.sto k' _ hbs
                    have e5 : some b' = some b'' := hb'.symm.trans h1
                    cases e5
                    simp only [ObV] at h4 ⊢
                    rw [if_neg (by omega)] at h4 ⊢
                    intro j d hd
                    rw [getElem?_splice _ _ _ (by simp; omega), List.length_map] at hd
                    split at hd
                    · rename_i hj
                      rw [List.getElem?_map] at hd
                      obtain ⟨d0, hd0, rfl⟩ := Option.map_eq_some_iff.1 hd
                      rw [z3 (j - off') (by omega), show off' + (j - off') = j by omega] at hd0
                      obtain ⟨v, v1, v2, v3⟩ := h4 j d0 hd0
                      exact ⟨v, v1, v2, hair j d0 v _ (by omega) (by omega) v3⟩
                    · rename_i hj
                      obtain ⟨v, v1, v2, v3⟩ := h4 j d hd
                      exact ⟨v, v1, v2, (fr_keeps (r := .air 0)).vc (fun _ => by simp) (K.vc (fun _ => ⟨fromB_no (.inr hj), inB_no (by simp)⟩) v3)⟩
                  · rw [List.getElem?_set_ne (fun q => e q.symm)] at hk2
                    obtain ⟨b2, e1, _, _, e4⟩ := r2.sto k' o (by
                      show (s.sto.set k _)[k']? = some o
                      rw [List.getElem?_set_ne (fun q => e q.symm)]
                      exact hk2)
                    have e5 : some b' = some b2 := hb'.symm.trans e1
                    cases e5
                    exact e4
                refine fin (ds.map fz) _ _ d (by rw [List.length_map]; exact hlen) hof r3 hs (fun j d u' hd hu => ?_)
                rw [List.getElem?_map] at hd
                obtain ⟨d0, hd0, rfl⟩ := Option.map_eq_some_iff.1 hd
                have hj : j < ds.length := (List.getElem?_eq_some_iff.1 hd0).1
                have h1 := hcell' j d0 u' hd0 hu
                simp only [srcP, rootOf] at h1
                exact hair (off' + j) d0 u' _ (by omega) (by omega) h1
              · cases hs
            split at hs
            · rename_i d hof
              refine fin ds _ _ d hlen hof r1 hs (fun j d u' hd hu => ?_)
              have hj : j < ds.length := (List.getElem?_eq_some_iff.1 hd).1
              have h1 := hcell' j d u' hd hu
              simp only [srcP, rootOf] at h1
              refine VC.mv K ?_ ?_ h1
              · have := fromB_at (N := 0) (r := .gbox k) (off := off') (n := ds.length) (j := off' + j) (by omega) (by omega)
                rwa [show off' + j - off' = j by omega] at this
              · have := inB_at (N := 0) (r := .gbox k) (off := off') (n := ds.length) (j := off' + j) (by omega) (by omega)
                rwa [show off' + j - off' = j by omega] at this
            · cases hs
          · cases hcs
        · cases hs
      · cases hs
    · cases hs
end

end Go.Lv

namespace Go.Lv

section
variable {P : Program} {L : Ly} {X : Ctx} {G G' : Gh} {s s' s1 : DS} {a a' : Act} {w w' : World} {c : FC} {b : Nat} {m m' : Mt}

theorem mvIn {N n : Nat} {r : Root} (hm : Ups m m') (hr : m'.rv r ≠ m.rv r) : Keeps w G m w (G.mv (inB N r 0 n) (fromB N r 0 n)) m' (fun p => inB N r 0 n p = none ∧ fromB N r 0 n p = none) :=
  mv_keeps hm.ep hm.rv hm.al hm.era (fun q p hq => by
    right
    unfold fromB at hq
    rw [Option.ite_none_right_eq_some] at hq
    rw [hq.1.1]
    exact hr)

theorem mvIn_vc {N n : Nat} {r : Root} (K : Keeps w G m w (G.mv (inB N r 0 n) (fromB N r 0 n)) m' (fun p => inB N r 0 n p = none ∧ fromB N r 0 n p = none)) {j : Nat} (hj : j < n) {d : D} {u : Value} (h : VC w G m ⟨.air N, 0, j⟩ d u) : VC w (G.mv (inB N r 0 n) (fromB N r 0 n)) m' ⟨r, 0, j⟩ d u := by
  refine VC.mv K ?_ ?_ h
  · have := inB_at (N := N) (r := r) (off := 0) (n := n) (j := j) (by omega) (by omega)
    simpa using this
  · have := fromB_at (N := N) (r := r) (off := 0) (n := n) (j := j) (by omega) (by omega)
    simpa using this

theorem New.boxCells {us : List Value} {t : Nat} (N : New w w' (.cells us.toArray t (0, 0))) {j : Nat} {u : Value} (h : us[j]? = some u) : w'.cell? ⟨w.heap.size, j, none⟩ = some u ∧ w'.frozen? ⟨w.heap.size, j, none⟩ = false := by
  unfold World.cell? World.frozen?
  simp only [N.at_]
  exact ⟨by simpa using h, by simp⟩

noncomputable def Gh.nloc (G : Gh) (t b : Nat) : Gh := { G with la := gset G.la t b, own := gset G.own b (some (.box (.lbox t))) }

theorem box_rel (h : Rel X G s a w) (hn : c.n = X.n) (hkp : c.kp = X.kp) {N t : Nat} {cs : List D} {us : List Value} (hl : us.length = cs.length) (hv : ∀ (j : Nat) (d : D) (u : Value), cs[j]? = some d → us[j]? = some u → VC w G s.m ⟨.air N, 0, j⟩ d u)
    (W : New w w' (.cells us.toArray t (0, 0))) {dst : Option Nat} (hs : boxD c s dst cs = some s') : ∃ G', Rel X G' s' (a.put dst (.pointer (some ⟨w.heap.size, 0, none⟩))) w' := by
  unfold boxD at hs
  cases dst with
  | none => cases hs
  | some x =>
    simp only at hs
    split at hs
    · rw [Option.ite_none_right_eq_some] at hs
      obtain ⟨hall, hs⟩ := hs
      have key0 : ∀ (G : Gh) (cs : List D), us.length = cs.length → Rel X G s a w → (∀ (j : Nat) (d : D) (u : Value), cs[j]? = some d → us[j]? = some u → VC w G s.m ⟨.air N, 0, j⟩ d u) → put c (some x) (.gptr s.sto.length 0) { s with sto := s.sto ++ [.box cs], m := if cs.any isOwn = true then s.m.bG else s.m } = some s' → ∃ G', Rel X G' s' (a.put (some x) (.pointer (some ⟨w.heap.size, 0, none⟩))) w' := by
        clear hl hv h cs hall hs
        intro G cs hl h hv hs
        have key : ∀ (G1 : Gh) (m1 : Mt), Rel X G1 { s with m := m1 } a w → (∀ (j : Nat) (d : D) (u : Value), cs[j]? = some d → us[j]? = some u → VC w G1 m1 ⟨.gbox s.sto.length, 0, j⟩ d u) → put c (some x) (.gptr s.sto.length 0) { s with sto := s.sto ++ [.box cs], m := m1 } = some s' → ∃ G', Rel X G' s' (a.put (some x) (.pointer (some ⟨w.heap.size, 0, none⟩))) w' := by
          intro G1 m1 r1 v1 hp
          have K1 := r1.nstoKeeps W
          have r2 := r1.newSto W (ob := .box cs) (by
            simp only [ObV]
            rw [if_neg (by have := h.ro; show ¬ s.sto.length < X.ro; omega)]
            intro j d hd
            obtain ⟨u, hu⟩ : ∃ u, us[j]? = some u := ⟨_, List.getElem?_eq_getElem (by have := (List.getElem?_eq_some_iff.1 hd).1; omega)⟩
            obtain ⟨c1, c2⟩ := W.boxCells hu
            exact ⟨u, c1, c2, K1.vc (fun _ => trivial) (v1 j d u hd hu)⟩)
          exact r2.putO hn hp 0 (Imm.gptr _ _ _ (gset_same _ _ _))
        by_cases ho : cs.any isOwn = true
        · rw [if_pos ho] at hs
          have K := mvIn (w := w) (G := G) (N := N) (n := cs.length) (bR_ups s.m (.gbox s.sto.length)) (bR_lt s.m (r := .gbox s.sto.length) rfl)
          refine key (G.mv (inB N (.gbox s.sto.length) 0 cs.length) (fromB N (.gbox s.sto.length) 0 cs.length)) _ ?_ (fun j d u hd hu => mvIn_vc K (List.getElem?_eq_some_iff.1 hd).1 (hv j d u hd hu)) hs
          refine h.re (fun b hb => mv_own_other hb) rfl rfl (fun b e he => .inl he) (mv_stow h.stow) h.std (fun u' e hu => K.vt (fun i q j c _ _ _ => ⟨inB_no (by simp), fromB_no (.inl (by simp))⟩) (h.env u' e hu)) (fun u' bs' hu => ⟨⟨bs', hu⟩, h.locK K (fun t j => ⟨inB_no (by simp), fromB_no (.inl (by simp))⟩) hu⟩) rfl rfl (fun k' o b' hk' hb' => ?_)
          obtain ⟨b'', h1, h2, h3, h4⟩ := h.sto k' o hk'
          have hlt := (List.getElem?_eq_some_iff.1 hk').1
          rw [hb'] at h1
          cases h1
          cases o with
          | map es => exact h4
          | box cs' =>
            simp only [ObV] at h4 ⊢
            split <;> rename_i hr'
            · simp only [hr', if_true] at h4
              intro j d hd
              obtain ⟨u, h5, h6⟩ := h4 j d hd
              exact ⟨u, h5, K.imm h6⟩
            · simp only [hr', if_false] at h4
              exact K.box (fun j c _ _ => ⟨inB_no (by simp), fromB_no (.inl (by show Root.gbox k' ≠ _; simp; have hk2 : k' < s.sto.length := hlt; omega))⟩) (fun _ => ⟨rfl, rfl⟩) h4
        · rw [if_neg ho] at hs
          refine key G _ h (fun j d u hd hu => (hv j d u hd hu).any ?_) hs
          have := List.any_eq_false.1 (by simpa using ho) d (List.mem_of_getElem? hd)
          simpa using this
      cases hk : c.kb.contains x with
      | true =>
        rw [hk] at hs
        exact key0 G cs hl h hv hs
      | false =>
        rw [hk] at hs
        obtain ⟨r1, K1⟩ := h.freeze N
        refine key0 _ (cs.map fz) (by simpa using hl) r1 (fun j d u hd hu => ?_) hs
        rw [List.getElem?_map] at hd
        obtain ⟨d0, hd0, rfl⟩ := Option.map_eq_some_iff.1 hd
        exact VC.fz (p := ⟨.air N, 0, j⟩) rfl (hv j d0 u hd0 hu)
    · rw [Option.ite_none_right_eq_some] at hs
      obtain ⟨hall, hs⟩ := hs
      have key : ∀ (G1 : Gh) (ys : List D), ys.length = cs.length → Rel X G1 s a w → (∀ (j : Nat) (d : D) (u : Value), ys[j]? = some d → us[j]? = some u → VC w G1 s.m ⟨.air N, 0, j⟩ d u) → put c (some x) (.lptr x (s.m.al x + 1) 0) { s with loc := insL x ys s.loc, m := s.m.bA x } = some s' → ∃ G', Rel X G' s' (a.put (some x) (.pointer (some ⟨w.heap.size, 0, none⟩))) w' := by
        intro G1 ys hyl r1 v1 hp
        have K := mvIn (w := w) (G := G1) (N := N) (n := ys.length) (bR_ups s.m (.lbox x)) (bR_lt s.m (r := .lbox x) rfl)
        have r2 : Rel X (G1.mv (inB N (.lbox x) 0 ys.length) (fromB N (.lbox x) 0 ys.length)) { s with loc := del x s.loc, m := s.m.bL x } a w := by
          refine r1.re (fun b hb => mv_own_other hb) rfl rfl (fun b e he => .inl he) (mv_stow r1.stow) r1.std (fun u' e hu => K.vt (fun i q j c _ _ _ => ⟨inB_no (by simp), fromB_no (.inl (by simp))⟩) (r1.env u' e hu)) (fun u' bs' hu => ?_) rfl rfl (fun k o b hk hb => r1.stoK K (fun t j => ⟨inB_no (by simp), fromB_no (.inl (by simp))⟩) hk hb)
          have hu' : lk u' (del x s.loc) = some bs' := hu
          rw [lk_del] at hu'
          by_cases e : u' = x
          · simp [e] at hu'
          · simp only [e, if_false] at hu'
            exact ⟨⟨bs', hu'⟩, K.box (fun j c _ _ => ⟨inB_no (by simp), fromB_no (.inl (by simp [e]))⟩) (fun _ => ⟨rfl, rfl⟩) (r1.loc u' bs' hu').2⟩
        have v2 : ∀ (j : Nat) (d : D) (u : Value), ys[j]? = some d → us[j]? = some u → VC w (G1.mv (inB N (.lbox x) 0 ys.length) (fromB N (.lbox x) 0 ys.length)) (s.m.bL x) ⟨.lbox x, 0, j⟩ d u := fun j d u hd hu => mvIn_vc K (List.getElem?_eq_some_iff.1 hd).1 (v1 j d u hd hu)
        generalize G1.mv (inB N (.lbox x) 0 ys.length) (fromB N (.lbox x) 0 ys.length) = G2 at *
        have K3 : Keeps w G2 (s.m.bL x) w' (G2.nloc x w.heap.size) (s.m.bA x) (fun _ => True) := by
          refine r2.newKeeps W (fun _ _ h => h) (fun _ _ h => h) rfl (fun r => ?_) (fun t => ?_) (Nat.le_refl _) (fun b hb => gset_ne _ _ (by omega)) (fun _ _ => rfl) (fun _ _ _ => rfl) (fun _ _ => rfl) (fun t ht => ?_)
          · cases r <;> exact Nat.le_refl _
          · exact up_le _ _ _
          · refine gset_ne _ _ ?_
            rintro rfl
            simp [Mt.bA, Mt.bL] at ht
        have r3 : Rel X (G2.nloc x w.heap.size) { s with loc := insL x ys s.loc, m := s.m.bA x } a w' := by
          refine r2.newBlock W K3 (fun b hb => gset_ne _ _ (by omega)) (fun e he => (r2.new _ (Nat.le_refl _)).2 e he) (fun b hb => ?_) (fun _ _ h => h) r2.size r2.defers (fun u e hu => K3.vt (fun i q j c _ _ _ => trivial) (r2.env u e hu)) (fun u cs' hu => ?_) (fun k ob' hk => ?_) r2.be (Nat.le_refl _) rfl (fun _ _ => rfl) (fun t ht => gset_ne _ _ (by
            rintro rfl
            simp only [Bool.and_eq_true, Bool.not_eq_true'] at hall
            rw [hkp, List.contains_iff_mem.2 ht] at hall
            cases hall.2))
          · simp only [Gh.nloc]
            rw [gset_ne _ _ (by omega)]
            exact (r2.new b (by omega)).1
          · have hu' : lk u (insL x ys s.loc) = some cs' := hu
            rw [lk_insL] at hu'
            by_cases e : u = x
            · subst e
              simp at hu'
              subst hu'
              simp only [Gh.nloc, gset_same, true_and]
              intro j d hd
              obtain ⟨v, hv⟩ : ∃ v, us[j]? = some v := ⟨_, List.getElem?_eq_getElem (by have := (List.getElem?_eq_some_iff.1 hd).1; omega)⟩
              obtain ⟨c1, c2⟩ := W.boxCells hv
              exact ⟨v, c1, c2, K3.vc (fun _ => trivial) (v2 j d v hd hv)⟩
            · simp only [e, if_false] at hu'
              obtain ⟨h1, h2⟩ := r2.loc u cs' (by show lk u (del x s.loc) = _; rw [lk_del, if_neg e]; exact hu')
              have hb := r2.ownLt h1
              have hla : (G2.nloc x w.heap.size).la u = G2.la u := gset_ne _ _ e
              rw [hla]
              refine ⟨?_, K3.box (fun j c _ _ => trivial) (fun j => ⟨W.cell hb j, W.frozen hb j⟩) h2⟩
              simp only [Gh.nloc]
              rw [gset_ne _ _ (by omega)]
              exact h1
          · obtain ⟨b, h1, h2, h3, h4⟩ := r2.sto k ob' hk
            refine ⟨b, h1, ?_, by rw [W.size]; omega, ?_⟩
            · simp only [Gh.nloc]
              rw [gset_ne _ _ (by omega)]
              exact h2
            · cases ob' with
              | map es =>
                obtain ⟨arr, clock, q1, q2⟩ := h4
                exact ⟨arr, clock, by rw [W.old h3]; exact q1, q2⟩
              | box cs =>
                simp only [ObV] at h4 ⊢
                split <;> rename_i hr
                · simp only [hr, if_true] at h4
                  intro j d hd
                  obtain ⟨u, h5, h6⟩ := h4 j d hd
                  exact ⟨u, by rw [W.cell h3]; exact h5, K3.imm h6⟩
                · simp only [hr, if_false] at h4
                  exact K3.box (fun j c _ _ => trivial) (fun j => ⟨W.cell h3 j, W.frozen h3 j⟩) h4
        refine r3.putO hn hp 0 ⟨_, rfl, ?_, fun _ => ?_⟩
        · simp [Mt.bA]
        · simp [Gh.nloc]
      cases hk : c.kb.contains x with
      | true =>
        rw [hk] at hs
        exact key G cs rfl h hv hs
      | false =>
        rw [hk] at hs
        obtain ⟨r1, K1⟩ := h.freeze N
        refine key _ (cs.map fz) (by simp) r1 (fun j d u hd hu => ?_) hs
        rw [List.getElem?_map] at hd
        obtain ⟨d0, hd0, rfl⟩ := Option.map_eq_some_iff.1 hd
        exact VC.fz (p := ⟨.air N, 0, j⟩) rfl (hv j d0 u hd0 hu)

theorem op_alloc (H : LyOK P L) (h : Rel X G s a w) (hn : c.n = X.n) (hkp : c.kp = X.kp) {o : Oper} {t : Nat} (ho : o.op = .alloc t) (hs : opD L c X.ro s o = some s') : Yd P X o a w s' := by
  simp only [opD, ho] at hs
  split at hs
  · rename_i cs hz
    obtain ⟨i, zv, hi, hzv, hi2, hi3, hzc, hzl⟩ := H.zeroI hz
    obtain ⟨z1, z2⟩ := dOfL_get hzc
    have W : New w (w.alloc (.cells zv.cells t)) (.cells zv.cells.toList.toArray t (0, 0)) := ⟨rfl, rfl, rfl, rfl⟩
    obtain ⟨G', r1⟩ := box_rel h hn hkp (N := 0) z1 (fun j d u hd hu => dOf1_imm (z2 j d u hd hu)) W hs
    refine ⟨_, _, G', .inl ?_, r1⟩
    simp [execOp, ho, Instr.alloc, zeroValue, typeInfo, hi, hzv, newVar, newRow]
  · cases hs

theorem op_box (h : Rel X G s a w) (hn : c.n = X.n) (hkp : c.kp = X.kp) {o : Oper} {t : Nat} {x : Operand} (ho : o.op = .box t x) (hs : opD L c X.ro s o = some s') : Yd P X o a w s' := by
  simp only [opD, ho] at hs
  split at hs
  · rename_i d s1 htk
    rw [Option.ite_none_right_eq_some] at hs
    obtain ⟨hsz, hs⟩ := hs
    obtain ⟨G1, r1, v1, K1, _⟩ := takeO_rel h htk 0
    have hnt : ∀ es, d ≠ .tup es := by
      rintro es rfl
      unfold boxD at hs
      split at hs
      · cases hs
      · simp only [cellsD] at hs
        split at hs
        · split at hs <;> simp [stoC, rowC, fz] at hs
        · split at hs <;> simp [locC, rowC, fz] at hs
    obtain ⟨G2, r2, l2, c2, o2, K2⟩ := r1.cellsAir v1 hnt true
    have W : New w (w.alloc (.cells (a.eval x).cells t)) (.cells (a.eval x).cells.toList.toArray t (0, 0)) := ⟨rfl, rfl, rfl, rfl⟩
    obtain ⟨G', r3⟩ := box_rel r2 hn hkp (N := 0) l2 c2 W hs
    refine ⟨_, _, G', .inl ?_, r3⟩
    simp [execOp, ho, Instr.box, newVar, newRow]
  · cases hs
end

end Go.Lv
