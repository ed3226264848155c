/-
  A11: a new block; structs and arrays put together; literals, made slices, new maps.
-/
import Derived.Test.YtpfoccpolaggiaaA10
set_option linter.all false
namespace Go.Lv

noncomputable def gset {α : Type} (f : Nat → α) (b : Nat) (x : α) : Nat → α := fun c => if c = b then x else f c
@[simp] theorem gset_same {α : Type} (f : Nat → α) (b : Nat) (x : α) : gset f b x b = x := by simp [gset]
theorem gset_ne {α : Type} (f : Nat → α) {b c : Nat} (x : α) (h : c ≠ b) : gset f b x c = f c := by simp [gset, h]

/-- One block more; the streams as they were. -/
structure New (w w' : World) (o : Obj) : Prop where
  heap : w'.heap = w.heap.push o
  os : w'.os = w.os
  tape : w'.tape = w.tape
  output : w'.output = w.output

section
variable {w w' : World} {o : Obj} (N : New w w' o)
include N
theorem New.size : w'.heap.size = w.heap.size + 1 := by rw [N.heap]; simp
theorem New.old {b : Nat} (h : b < w.heap.size) : w'.heap[b]? = w.heap[b]? := by
  rw [N.heap, Array.getElem?_push, if_neg (by omega)]
theorem New.at_ : w'.heap[w.heap.size]? = some o := by rw [N.heap]; simp
theorem New.cell {b : Nat} (h : b < w.heap.size) (j : Nat) : w'.cell? ⟨b, j, none⟩ = w.cell? ⟨b, j, none⟩ := by
  unfold World.cell?
  rw [N.old h]
theorem New.frozen {b : Nat} (h : b < w.heap.size) (j : Nat) : w'.frozen? ⟨b, j, none⟩ = w.frozen? ⟨b, j, none⟩ := by
  unfold World.frozen?
  rw [N.old h]
end

section
variable {P : Program} {L : Ly} {X : Ctx} {G : Gh} {s s' : DS} {a : Act} {w w' : World} {c : FC}

theorem Rel.stLt (h : Rel X G s a w) {b n : Nat} (hs : G.st b n) : b < w.heap.size := by
  rcases Nat.lt_or_ge b w.heap.size with h1 | h1
  · exact h1
  · exact absurd hs ((h.new b h1).2 n)
theorem Rel.ownLt (h : Rel X G s a w) {b : Nat} {o : Owner} (hs : G.own b = some o) : b < w.heap.size := by
  rcases Nat.lt_or_ge b w.heap.size with h1 | h1
  · exact h1
  · rw [(h.new b h1).1] at hs; cases hs
theorem Rel.beLt (h : Rel X G s a w) {k b : Nat} (hs : G.be k = some b) : b < w.heap.size := by
  rcases Nat.lt_or_ge k s.sto.length with h1 | h1
  · obtain ⟨b', e, _, h2, _⟩ := h.sto k _ (List.getElem?_eq_getElem h1)
    rw [hs] at e
    cases e
    exact h2
  · rw [h.be k h1] at hs; cases hs

/-- With one block more, of whatever owner, what was said stays. -/
theorem Rel.newKeeps (h : Rel X G s a w) {o : Obj} (N : New w w' o) {G' : Gh} {m' : Mt} {kp : Place → Prop} (hbe : ∀ k b, G.be k = some b → G'.be k = some b) (hst : ∀ b n, G.st b n → G'.st b n) (hm : m'.ep = s.m.ep) (hrv : ∀ r, s.m.rv r ≤ m'.rv r) (hal : ∀ t, s.m.al t ≤ m'.al t) (hera : s.m.era ≤ m'.era)
    (hown : ∀ b, b < w.heap.size → G'.own b = G.own b) (hfin : ∀ b, b < w.heap.size → G'.fin b = G.fin b) (hpl : ∀ p, p.r.isAir = false → m'.rv p.r = s.m.rv p.r → G'.pl p = G.pl p) (hkp : ∀ p, kp p → G'.pl p = G.pl p) (hla : ∀ t, m'.al t = s.m.al t → G'.la t = G.la t) : Keeps w G s.m w' G' m' kp where
  be := hbe
  st := hst
  cell := fun b n j hs _ => N.cell (h.stLt hs) j
  ep := by omega
  rv := hrv
  al := hal
  era := hera
  rd := fun _ b n hr => by
    have hb : b < w.heap.size := by
      rcases hr with hr | ⟨⟨p, hp⟩, _⟩
      · exact h.stLt hr
      · exact h.ownLt hp
    refine ⟨?_, fun j _ => N.cell hb j⟩
    rcases hr with hr | ⟨⟨p, hp⟩, hn⟩
    · exact .inl (hst _ _ hr)
    · exact .inr ⟨⟨p, by rw [hown b hb]; exact hp⟩, by rw [hfin b hb]; exact hn⟩
  pl := hpl
  la := hla
  own := fun b p hk ho => by
    have hb := h.ownLt ho
    exact ⟨by rw [hown b hb]; exact ho, hfin b hb, fun j => ⟨N.cell hb j, N.frozen hb j⟩⟩
  opl := hkp
  mp := fun _ k b es clock hb hh => ⟨es, clock, by rw [N.old (h.beLt hb)]; exact hh, fun i x hx => ⟨x, hx, rfl⟩⟩

/-- The relation with one block more. -/
theorem Rel.newBlock (h : Rel X G s a w) {o : Obj} (N : New w w' o) {G' : Gh} {s' : DS} {a' : Act} {kp : Place → Prop} (K : Keeps w G s.m w' G' s'.m kp) (ho : ∀ b, b < w.heap.size → G'.own b = G.own b) (hnew : ∀ e, ¬ G'.st w.heap.size e) (hgt : ∀ b, w.heap.size < b → G'.own b = none) (hst : ∀ b e, G'.st b e → G.st b e)
    (hsize : a'.tmps.size = X.n) (hdef : a'.defers = [])
    (henv : ∀ t d, lk t s'.env = some d → VT w' G' s'.m (.slot t) d (a'.tmps.getD t undef))
    (hloc : ∀ t cs, lk t s'.loc = some cs → G'.own (G'.la t) = some (.box (.lbox t)) ∧ BoxV w' G' s'.m (.lbox t) (G'.la t) cs)
    (hsto : ∀ k o, s'.sto[k]? = some o → ∃ b, G'.be k = some b ∧ (if k < X.ro then G'.own b = none else G'.own b = some (.box (.gbox k))) ∧ b < w'.heap.size ∧ ObV w' G' s'.m X.ro k b o)
    (hbe : ∀ k, s'.sto.length ≤ k → G'.be k = none) (hlen : s.sto.length ≤ s'.sto.length) (hro : s'.m.ro = s.m.ro) (hbe0 : ∀ k, k < s.sto.length → G'.be k = G.be k) (hla0 : ∀ t, t ∈ X.kp → G'.la t = G.la t) : Rel X G' s' a' w' where
  size := hsize
  defers := hdef
  env := henv
  loc := hloc
  sto := hsto
  be := hbe
  new := fun b hb => by
    rw [N.size] at hb
    refine ⟨hgt b (by omega), fun e he => ?_⟩
    exact (h.new b (by omega)).2 e (hst b e he)
  stow := fun b e he => by
    have h1 := hst b e he
    rw [ho b (h.stLt h1)]
    exact h.stow b e h1
  std := fun b e e' he hee => K.st b e' (h.std b e e' (hst b e he) hee)
  old := fun b hb h0 => by
    obtain ⟨h1, h2, h3⟩ := h.old b hb h0
    have hb' : b < w.heap.size := Nat.lt_of_lt_of_le hb h.grow
    exact ⟨(N.old hb').trans h1, by rw [ho b hb']; exact h2, fun e he => h3 e (hst b e he)⟩
  os := N.os.trans h.os
  tape := N.tape.trans h.tape
  output := N.output.trans h.output
  grow := by have := h.grow; rw [N.size]; omega
  ro := Nat.le_trans h.ro hlen
  rom := hro.trans h.rom
  be0 := fun k hk => by rw [hbe0 k (Nat.lt_of_lt_of_le hk h.n0)]; exact h.be0 k hk
  n0 := Nat.le_trans h.n0 hlen
  la0 := fun t ht => by rw [hla0 t ht]; exact h.la0 t ht

/-- A block more that belongs to someone. -/
noncomputable def Gh.add (G : Gh) (b : Nat) (o : Owner) (n : Nat) (p : Place) (x : Nat × Nat) : Gh := { G with own := gset G.own b (some o), fin := gset G.fin b n, pl := fun q => if q = p then x else G.pl q }
theorem add_ne {b c' : Nat} {o : Owner} {n : Nat} {p : Place} {x : Nat × Nat} (h : c' ≠ b) : (G.add b o n p x).own c' = G.own c' ∧ (G.add b o n p x).fin c' = G.fin c' := ⟨gset_ne _ _ h, gset_ne _ _ h⟩
theorem add_eq {b : Nat} {o : Owner} {n : Nat} {p : Place} {x : Nat × Nat} : (G.add b o n p x).own b = some o ∧ (G.add b o n p x).fin b = n ∧ (G.add b o n p x).pl p = x := by simp [Gh.add]

/-- A new list of one's own, under way (air n), in a new block. -/
theorem Rel.newList (h : Rel X G s a w) {cells : Array Value} {e : TypeId} {fr : Nat × Nat} (N : New w w' (.cells cells e fr)) (n : Nat) {xs : List (List D)} {sz cap : Nat} (hz : 0 < sz) (hlen : xs.length ≤ cap) (hc : cap * sz ≤ cells.size) (hfr : ∀ o, o < cells.size → ¬ (fr.1 ≤ o ∧ o < fr.2))
    (hrow : ∀ r, r ∈ xs → r.length = sz) (hv : ∀ (j c' : Nat) (r : List D) (d : D) (u : Value), xs[j]? = some r → r[c']? = some d → cells[j * sz + c']? = some u → Imm w G.be G.st d u) :
    ∃ G', Rel X G' s a w' ∧ VT w' G' s.m (.air n) (.list (.own sz) xs) (.slice (some ⟨w.heap.size, 0, none⟩) xs.length cap) ∧ Keeps w G s.m w' G' s.m (fun p => p.r ≠ .air n) := by
  have K : Keeps w G s.m w' (G.add w.heap.size (.lst ⟨.air n, 0, 0⟩) (xs.length * sz) ⟨.air n, 0, 0⟩ (w.heap.size, 0)) s.m (fun p => p.r ≠ .air n) := by
    refine h.newKeeps N (fun _ _ h => h) (fun _ _ h => h) rfl (fun _ => Nat.le_refl _) (fun _ => Nat.le_refl _) (Nat.le_refl _) (fun b hb => (add_ne (by omega)).1) (fun b hb => (add_ne (by omega)).2) (fun p hp _ => if_neg (by rintro rfl; cases hp)) (fun p hp => if_neg (by rintro rfl; exact hp rfl)) (fun _ _ => rfl)
  refine ⟨_, ?_, .inr ⟨hz, w.heap.size, 0, cap, rfl, hlen, add_eq.1, by rw [add_eq.2.1, Nat.zero_add], add_eq.2.2, fun i hi => ?_, hrow, fun j c' r d hr hd => ?_⟩, K⟩
  · refine h.newBlock N K (fun b hb => (add_ne (by omega)).1) (fun e he => (h.new _ (Nat.le_refl _)).2 e he) (fun b hb => by rw [(add_ne (by omega)).1]; exact (h.new b (by omega)).1) (fun _ _ h => h) h.size h.defers (fun u e hu => K.vt (fun i q j c _ _ _ => by simp) (h.env u e hu)) (fun u cs hu => ?_) (fun k o hk => ?_) h.be (Nat.le_refl _) rfl (fun _ _ => rfl) (fun _ _ => rfl)
    · obtain ⟨h1, h2⟩ := h.loc u cs hu
      have hb := h.ownLt h1
      exact ⟨by rw [← h1]; exact (add_ne (show G.la u ≠ _ by omega)).1, K.box (fun j c _ _ => by simp) (fun j => ⟨N.cell hb j, N.frozen hb j⟩) h2⟩
    · obtain ⟨b, h1, h2, h3, h4⟩ := h.sto k o hk
      refine ⟨b, h1, ?_, by rw [N.size]; omega, ?_⟩
      · rw [(add_ne (show b ≠ w.heap.size by omega)).1]
        exact h2
      · cases o with
        | map es =>
          obtain ⟨arr, clock, q1, q2⟩ := h4
          exact ⟨arr, clock, by rw [N.old h3]; exact q1, q2⟩
        | box cs =>
          simp only [ObV] at h4 ⊢
          split <;> rename_i hr
          · simp only [hr, if_true] at h4
            intro j d hd
            obtain ⟨u, h5, h6⟩ := h4 j d hd
            exact ⟨u, by rw [N.cell h3]; exact h5, K.imm h6⟩
          · simp only [hr, if_false] at h4
            exact K.box (fun j c _ _ => by simp) (fun j => ⟨N.cell h3 j, N.frozen h3 j⟩) h4
  · have hi' : i < cells.size := by omega
    rw [Nat.zero_add]
    unfold World.cell? World.frozen?
    simp only [N.at_]
    refine ⟨⟨cells[i], by simp [hi']⟩, ?_⟩
    have := hfr i hi'
    simp only [decide_eq_true_eq, Bool.and_eq_false_iff, decide_eq_false_iff_not] at *
    omega
  · have hj : j < xs.length := (List.getElem?_eq_some_iff.1 hr).1
    have hcz : c' < sz := by
      have h8 := (List.getElem?_eq_some_iff.1 hd).1
      rwa [hrow r (List.mem_of_getElem? hr)] at h8
    have hlt : j * sz + c' < cells.size := by
      have h1 := mul_lt (sz := sz) hj
      have h2 : xs.length * sz ≤ cap * sz := Nat.mul_le_mul_right _ hlen
      omega
    refine ⟨cells[j * sz + c'], ?_, K.imm (hv j c' r d _ hr hd (by simp [hlt]))⟩
    rw [Nat.zero_add]
    unfold World.cell?
    simp only [N.at_]
    simp [hlt]
end

end Go.Lv
