/-
  A3: steps that leave memory alone: a value put into a slot, an own list taken, moved, kept for good.
-/
import Derived.Test.YtpfoccpolaggiaaA2
set_option linter.all false
namespace Go.Lv

/-! ### Lists with keys -/
section
variable {α : Type}
theorem lk_cons (t : Nat) (x : Nat × α) (r : List (Nat × α)) : lk t (x :: r) = if x.1 = t then some x.2 else lk t r := by
  show (Bool.rec (motive := fun _ => Option α) (lk t r) (some x.2) (Nat.beq x.1 t)) = _
  by_cases h : x.1 = t
  · rw [if_pos h, show Nat.beq x.1 t = true from by rw [h]; exact Nat.beq_refl t]
  · rw [if_neg h, show Nat.beq x.1 t = false from by
      cases hb : Nat.beq x.1 t with
      | false => rfl
      | true => exact absurd (Nat.eq_of_beq_eq_true hb) h]
theorem lk_nil (t : Nat) : lk t ([] : List (Nat × α)) = none := rfl
theorem lk_del (t u : Nat) (l : List (Nat × α)) : lk u (del t l) = if u = t then none else lk u l := by
  induction l with
  | nil => simp [del, lk_nil]
  | cons x r ih =>
    obtain ⟨y, a⟩ := x
    simp only [del, lk_cons]
    by_cases h : y = t
    · subst h
      simp only [if_true, ih]
      by_cases h2 : u = y
      · simp [h2]
      · have : ¬ y = u := fun e => h2 e.symm
        simp [h2, this]
    · simp only [h, if_false, lk_cons, ih]
      by_cases h2 : y = u
      · subst h2
        simp [h]
      · simp [h2]
theorem lk_ins (t u : Nat) (a : α) (l : List (Nat × α)) : lk u (ins t a l) = if u = t then some a else lk u l := by
  simp only [ins, lk_cons]
  by_cases h : u = t
  · subst h
    simp
  · have : ¬ t = u := fun e => h e.symm
    simp [h, this]
theorem lk_insL (t u : Nat) (a : α) (l : List (Nat × α)) : lk u (insL t a l) = if u = t then some a else lk u l := by
  induction l with
  | nil =>
    simp only [insL, lk_cons]
    by_cases h : u = t
    · subst h
      simp
    · have : ¬ t = u := fun e => h e.symm
      simp [h, this]
  | cons x r ih =>
    have e : insL t a (x :: r) = if x.1 = t then (t, a) :: r else x :: insL t a r := by
      show (match Nat.beq x.1 t with | true => (t, a) :: r | false => x :: insL t a r) = _
      by_cases h : x.1 = t
      · rw [if_pos h, show Nat.beq x.1 t = true from by rw [h]; exact Nat.beq_refl t]
      · rw [if_neg h, show Nat.beq x.1 t = false from by
          cases hb : Nat.beq x.1 t with
          | false => rfl
          | true => exact absurd (Nat.eq_of_beq_eq_true hb) h]
    rw [e]
    by_cases h : x.1 = t
    · rw [if_pos h, lk_cons, lk_cons]
      subst h
      by_cases h2 : u = x.1
      · subst h2
        simp
      · have : ¬ x.1 = u := fun e => h2 e.symm
        simp [h2, this]
    · rw [if_neg h, lk_cons, lk_cons, ih]
      by_cases h2 : x.1 = u
      · subst h2
        simp [h]
      · simp [h2]
theorem lk_keep (ts : List Nat) (u : Nat) (l : List (Nat × α)) (a : α) (h : lk u (keep ts l) = some a) : lk u l = some a := by
  induction ts with
  | nil => simp [keep, lk_nil] at h
  | cons t r ih =>
    simp only [keep] at h
    cases hl : lk t l with
    | none => rw [hl] at h; exact ih h
    | some b =>
      rw [hl] at h
      simp only [lk_cons] at h
      by_cases e : t = u
      · subst e
        simp at h
        rw [hl, h]
      · simp [e] at h
        exact ih h
end

/-! ### The counts -/
theorem cnUp_at : ∀ (l : List (Nat × Nat)) (t u : Nat), cnL (cnUp l t) u = if u = t then cnL l t + 1 else cnL l u
  | [], t, u => by simp only [cnUp, cnL, eq_comm]
  | x :: r, t, u => by
    simp only [cnUp]
    by_cases h : x.1 = t
    · rw [if_pos h]
      simp only [cnL, h]
      by_cases h2 : t = u
      · subst h2; simp
      · rw [if_neg h2, if_neg (fun e => h2 e.symm), if_neg h2]
    · rw [if_neg h]
      simp only [cnL, if_neg h]
      by_cases h2 : x.1 = u
      · rw [if_pos h2, if_pos h2, if_neg (by omega)]
      · rw [if_neg h2, if_neg h2]
        exact cnUp_at r t u
theorem up_at (f : Cn) (t u : Nat) : up f t u = if u = t then f t + 1 else f u := cnUp_at f.l t u
@[simp] theorem up_same (f : Cn) (t : Nat) : up f t t = f t + 1 := by rw [up_at, if_pos rfl]
theorem up_le (f : Cn) (t u : Nat) : f u ≤ up f t u := by
  rw [up_at]
  split
  · rename_i h; subst h; omega
  · exact Nat.le_refl _
theorem cnMax1_at : ∀ (l : List (Nat × Nat)) (t n u : Nat), cnL l u ≤ cnL (cnMax1 l t n) u ∧ n ≤ cnL (cnMax1 l t n) t
  | [], t, n, u => by simp [cnMax1, cnL]
  | x :: r, t, n, u => by
    simp only [cnMax1]
    obtain ⟨h1, h2⟩ := cnMax1_at r t n u
    split
    · rename_i h
      simp only [cnL, h, if_true]
      refine ⟨?_, Nat.le_max_right _ _⟩
      split
      · exact Nat.le_max_left _ _
      · exact Nat.le_refl _
    · rename_i h
      simp only [cnL, if_neg h]
      refine ⟨?_, h2⟩
      split
      · exact Nat.le_refl _
      · exact h1
theorem cnMax_at (l : List (Nat × Nat)) : ∀ (l' : List (Nat × Nat)) (u : Nat), cnL l u ≤ cnL (cnMax l l') u ∧ cnL l' u ≤ cnL (cnMax l l') u
  | [], u => ⟨Nat.le_refl _, Nat.zero_le _⟩
  | x :: r, u => by
    obtain ⟨h1, h2⟩ := cnMax_at l r u
    obtain ⟨h3, h4⟩ := cnMax1_at (cnMax l r) x.1 x.2 u
    refine ⟨Nat.le_trans h1 h3, ?_⟩
    simp only [cnMax, cnL]
    split
    · rename_i h
      rw [← h]
      exact h4
    · exact Nat.le_trans h2 h3
theorem cnEq_eq : ∀ {l l' : List (Nat × Nat)}, cnEq l l' = true → l = l'
  | [], [], _ => rfl
  | [], _ :: _, h => by simp [cnEq] at h
  | _ :: _, [], h => by simp [cnEq] at h
  | x :: r, y :: q, h => by
    simp only [cnEq, Bool.and_eq_true, beq_iff_eq] at h
    rw [cnEq_eq h.2.2]
    congr 1
    exact Prod.ext h.1 h.2.1
theorem Cn.max_at (c c' : Cn) (u : Nat) : c u ≤ Cn.max c c' u ∧ c' u ≤ Cn.max c c' u := by
  unfold Cn.max
  split
  · rename_i h
    refine ⟨Nat.le_refl _, ?_⟩
    show cnL c'.l u ≤ cnL c.l u
    rw [cnEq_eq h]
    exact Nat.le_refl _
  · exact cnMax_at c.l c'.l u
@[simp] theorem bS_ep (m : Mt) (t : Nat) : (m.bS t).ep = m.ep := rfl
@[simp] theorem bS_al (m : Mt) (t : Nat) : (m.bS t).al = m.al := rfl
@[simp] theorem bS_lv (m : Mt) (t : Nat) : (m.bS t).lv = m.lv := rfl
@[simp] theorem bS_era (m : Mt) (t : Nat) : (m.bS t).era = m.era := rfl
theorem bS_rv (m : Mt) (t : Nat) (r : Root) : m.rv r ≤ (m.bS t).rv r := by
  cases r <;> simp [Mt.rv, Mt.bS]
  exact up_le _ _ _

/-- Only counts have turned. -/
theorem Keeps.of_counts {w : World} {G : Gh} {m m' : Mt} {kp : Place → Prop} (he : m'.ep = m.ep) (hr : ∀ r, m.rv r ≤ m'.rv r) (ha : ∀ t, m.al t ≤ m'.al t) (hg : m.era ≤ m'.era) : Keeps w G m w G m' kp :=
  { be := fun _ _ h => h, st := fun _ _ h => h, cell := fun _ _ _ _ _ => rfl, ep := by omega, rv := hr, al := ha, era := hg, rd := fun _ _ _ h => ⟨h, fun _ _ => rfl⟩, pl := fun _ _ _ => rfl, la := fun _ _ => rfl,
    own := fun _ _ _ h => ⟨h, rfl, fun _ => ⟨rfl, rfl⟩⟩, opl := fun _ _ => rfl, mp := fun _ k b es clock hb hh => ⟨es, clock, hh, fun i x hx => ⟨x, hx, rfl⟩⟩ }

theorem Keeps.refl (w : World) (G : Gh) (m : Mt) (kp : Place → Prop) : Keeps w G m w G m kp := Keeps.of_counts rfl (fun _ => Nat.le_refl _) (fun _ => Nat.le_refl _) (Nat.le_refl _)

theorem Keeps.trans {w1 w2 w3 : World} {G1 G2 G3 : Gh} {m1 m2 m3 : Mt} {kp kq : Place → Prop} (K : Keeps w1 G1 m1 w2 G2 m2 kp) (Q : Keeps w2 G2 m2 w3 G3 m3 kq) : Keeps w1 G1 m1 w3 G3 m3 (fun p => kp p ∧ kq p) where
  be := fun k b h => Q.be _ _ (K.be _ _ h)
  st := fun b n h => Q.st _ _ (K.st _ _ h)
  cell := fun b n o h ho => (Q.cell b n o (K.st _ _ h) ho).trans (K.cell b n o h ho)
  ep := Nat.le_trans K.ep Q.ep
  rv := fun r => Nat.le_trans (K.rv r) (Q.rv r)
  al := fun r => Nat.le_trans (K.al r) (Q.al r)
  era := Nat.le_trans K.era Q.era
  rd := fun he b n h => by
    have h1 := K.ep; have h2 := Q.ep
    obtain ⟨a1, a2⟩ := K.rd (by omega) b n h
    obtain ⟨b1, b2⟩ := Q.rd (by omega) b n a1
    exact ⟨b1, fun o ho => (b2 o ho).trans (a2 o ho)⟩
  pl := fun p ha hv => by
    have h1 := K.rv p.r; have h2 := Q.rv p.r
    exact (Q.pl p ha (by omega)).trans (K.pl p ha (by omega))
  la := fun t hv => by
    have h1 := K.al t; have h2 := Q.al t
    exact (Q.la t (by omega)).trans (K.la t (by omega))
  own := fun b p hk h => by
    obtain ⟨a1, a2, a3⟩ := K.own b p hk.1 h
    obtain ⟨b1, b2, b3⟩ := Q.own b p hk.2 a1
    exact ⟨b1, b2.trans a2, fun o => ⟨(b3 o).1.trans (a3 o).1, (b3 o).2.trans (a3 o).2⟩⟩
  opl := fun p hk => (Q.opl p hk.2).trans (K.opl p hk.1)
  mp := fun he k b es clock hb hh => by
    have h1 := K.era; have h2 := Q.era
    obtain ⟨es1, c1, a1, a2⟩ := K.mp (by omega) k b es clock hb hh
    obtain ⟨es2, c2, b1, b2⟩ := Q.mp (by omega) k b es1 c1 (K.be _ _ hb) a1
    refine ⟨es2, c2, b1, fun i x hx => ?_⟩
    obtain ⟨y, hy, e1⟩ := a2 i x hx
    obtain ⟨z, hz, e2⟩ := b2 i y hy
    exact ⟨z, hz, e2.trans e1⟩

theorem Keeps.weaken {w w' : World} {G G' : Gh} {m m' : Mt} {kp kq : Place → Prop} (K : Keeps w G m w' G' m' kp) (h : ∀ p, kq p → kp p) : Keeps w G m w' G' m' kq :=
  { K with own := fun b p hk => K.own b p (h p hk), opl := fun p hk => K.opl p (h p hk) }

/-! ### Values that are no one's own -/
theorem isOwn_eq {c : D} (h : isOwn c = true) : ∃ sz xs, c = .list (.own sz) xs := by
  cases c with
  | list q xs => cases q <;> first | exact ⟨_, _, rfl⟩ | simp [isOwn] at h
  | _ => simp [isOwn] at h

theorem hasOwn_part {d q c : D} {i j : Nat} (h1 : partAt d i = some q) (h2 : cellAt q j = some c) (hc : isOwn c = true) : hasOwn d = true := by
  have key : ∀ q : D, cellAt q j = some c → anyAt isOwn q = true := by
    intro q h2
    cases q with
    | agg cs => exact List.any_eq_true.2 ⟨c, List.mem_of_getElem? h2, hc⟩
    | _ => simp only [cellAt] at h2; split at h2 <;> first | (cases h2; exact hc) | simp at h2
  cases d with
  | tup ds => exact List.any_eq_true.2 ⟨q, List.mem_of_getElem? h1, key q h2⟩
  | _ => simp only [partAt] at h1; split at h1 <;> first | (cases h1; exact key _ h2) | simp at h1

theorem VP_cell {w : World} {G : Gh} {m : Mt} {r : Root} {i : Nat} {d : D} {v : Value} (h : ∀ cs, d ≠ .agg cs) : VP w G m r i d v = VC w G m ⟨r, i, 0⟩ d v := by
  cases d <;> first | rfl | exact absurd rfl (h _)
theorem VT_part {w : World} {G : Gh} {m : Mt} {r : Root} {d : D} {v : Value} (h : ∀ ds, d ≠ .tup ds) : VT w G m r d v = VP w G m r 0 d v := by
  cases d <;> first | rfl | exact absurd rfl (h _)

/-- A value without lists of one's own is the same at every place. -/
theorem VC.any {w : World} {G : Gh} {m : Mt} {p q : Place} {d : D} {v : Value} (h : VC w G m p d v) (hd : isOwn d = false) : VC w G m q d v := by
  cases d with
  | list k xs => cases k <;> first | exact h | simp [isOwn] at hd
  | _ => exact h
theorem VP.any {w : World} {G : Gh} {m : Mt} {r r' : Root} {i i' : Nat} {d : D} {v : Value} (h : VP w G m r i d v) (hd : anyAt isOwn d = false) : VP w G m r' i' d v := by
  cases d with
  | agg cs =>
    obtain ⟨vs, rfl, hl, h1⟩ := h
    refine ⟨vs, rfl, hl, fun j d u hd' hu => (h1 j d u hd' hu).any ?_⟩
    have := List.any_eq_false.1 hd d (List.mem_of_getElem? hd')
    simpa using this
  | _ =>
    rw [VP_cell (by intro cs h; cases h)] at h ⊢
    exact h.any hd
theorem VT.any {w : World} {G : Gh} {m : Mt} {r r' : Root} {d : D} {v : Value} (h : VT w G m r d v) (hd : hasOwn d = false) : VT w G m r' d v := by
  cases d with
  | tup ds =>
    obtain ⟨vs, rfl, hl, h1⟩ := h
    refine ⟨vs, rfl, hl, fun j d u hd' hu => (h1 j d u hd' hu).any ?_⟩
    have := List.any_eq_false.1 hd d (List.mem_of_getElem? hd')
    simpa using this
  | _ =>
    rw [VT_part (by intro cs h; cases h)] at h ⊢
    exact h.any hd

/-! ### A value put into a slot -/
theorem Act.put_getD (a : Act) (t u : Nat) (v : Value) (ht : t < a.tmps.size) : (a.put (some t) v).tmps.getD u undef = if u = t then v else a.tmps.getD u undef := by
  simp only [Act.put, Array.getD_eq_getD_getElem?, Array.getElem?_setIfInBounds]
  by_cases h : u = t
  · subst h
    simp [ht]
  · have : ¬ t = u := fun e => h e.symm
    simp [h, this]

theorem Rel.put {X : Ctx} {G : Gh} {s : DS} {a : Act} {w : World} (h : Rel X G s a w) {t : Nat} {d : D} {v : Value} (ht : t < X.n) (hv : VT w G (putS t d s).m (.slot t) d v) : Rel X G (putS t d s) (a.put (some t) v) w := by
  have K : Keeps w G s.m w G (putS t d s).m (fun _ => True) := by
    refine Keeps.of_counts ?_ ?_ ?_ ?_ <;> simp only [putS] <;> split <;> first | rfl | (intro r; first | exact bS_rv _ _ _ | exact Nat.le_refl _) | exact Nat.le_refl _
  have hb : ∀ {r : Root} {b : Nat} {cs : List D}, BoxV w G s.m r b cs → BoxV w G (putS t d s).m r b cs := fun hb => K.box (fun _ _ _ _ => trivial) (fun _ => ⟨rfl, rfl⟩) hb
  refine { size := by simp [Act.put, h.size], defers := h.defers, env := fun u e hu => ?_, loc := fun u cs hu => ?_, sto := fun k o hk => ?_, be := h.be, new := h.new, stow := h.stow, std := h.std, old := h.old, os := h.os, tape := h.tape, output := h.output, grow := h.grow, ro := h.ro, rom := by simp only [putS]; split <;> exact h.rom, be0 := h.be0, n0 := h.n0, la0 := h.la0 }
  · rw [Act.put_getD a t u v (by rw [h.size]; exact ht)]
    have hu' : lk u (ins t d s.env) = some e := hu
    rw [lk_ins] at hu'
    by_cases e' : u = t
    · subst e'
      simp at hu'
      subst hu'
      simpa using hv
    · simp only [e', if_false] at hu' ⊢
      exact K.vt (fun _ _ _ _ _ _ _ => trivial) (h.env u e hu')
  · obtain ⟨h1, h2⟩ := h.loc u cs hu
    exact ⟨h1, hb h2⟩
  · obtain ⟨b, h1, h2, h3, h4⟩ := h.sto k o hk
    refine ⟨b, h1, h2, h3, ?_⟩
    cases o with
    | map es => exact h4
    | box cs =>
      simp only [ObV] at h4 ⊢
      split
      · simpa [*] using h4
      · rename_i hk'
        simp only [hk', if_false] at h4
        exact hb h4

/-- What a slot's value says does not hang on counts that have turned since. -/
theorem Rel.void {X : Ctx} {G : Gh} {s : DS} {a : Act} {w : World} (h : Rel X G s a w) {t : Nat} {v : Value} (m' : Mt) (he : m'.ep = s.m.ep) (hr : ∀ r, s.m.rv r ≤ m'.rv r) (ha : ∀ t, s.m.al t ≤ m'.al t) (hg : s.m.era ≤ m'.era) (hro : m'.ro = s.m.ro) (ht : t < X.n) :
    Rel X G { s with env := del t s.env, m := m' } (a.put (some t) v) w := by
  have K : Keeps w G s.m w G m' (fun _ => True) := Keeps.of_counts he hr ha hg
  have hb : ∀ {r : Root} {b : Nat} {cs : List D}, BoxV w G s.m r b cs → BoxV w G m' r b cs := fun hb => K.box (fun _ _ _ _ => trivial) (fun _ => ⟨rfl, rfl⟩) hb
  refine { size := by simp [Act.put, h.size], defers := h.defers, env := fun u e hu => ?_, loc := fun u cs hu => ?_, sto := fun k o hk => ?_, be := h.be, new := h.new, stow := h.stow, std := h.std, old := h.old, os := h.os, tape := h.tape, output := h.output, grow := h.grow, ro := h.ro, rom := hro.trans h.rom, be0 := h.be0, n0 := h.n0, la0 := h.la0 }
  · rw [Act.put_getD a t u v (by rw [h.size]; exact ht)]
    have hu' : lk u (del t s.env) = some e := hu
    rw [lk_del] at hu'
    by_cases e' : u = t
    · simp [e'] at hu'
    · simp only [e', if_false] at hu' ⊢
      exact K.vt (fun _ _ _ _ _ _ _ => trivial) (h.env u e hu')
  · obtain ⟨h1, h2⟩ := h.loc u cs hu
    exact ⟨h1, hb h2⟩
  · obtain ⟨b, h1, h2, h3, h4⟩ := h.sto k o hk
    refine ⟨b, h1, h2, h3, ?_⟩
    cases o with
    | map es => exact h4
    | box cs =>
      simp only [ObV] at h4 ⊢
      split
      · simpa [*] using h4
      · rename_i hk'
        simp only [hk', if_false] at h4
        exact hb h4

/-- Fewer slots and boxes are spoken of. -/
theorem Rel.less {X : Ctx} {G : Gh} {s : DS} {a : Act} {w : World} (h : Rel X G s a w) (env : List (Nat × D)) (loc : List (Nat × List D)) (h1 : ∀ t d, lk t env = some d → lk t s.env = some d) (h2 : ∀ t d, lk t loc = some d → lk t s.loc = some d) :
    Rel X G { s with env, loc } a w :=
  { h with env := fun t d ht => h.env t d (h1 t d ht), loc := fun t cs ht => h.loc t cs (h2 t cs ht) }

theorem VT.of_eval {X : Ctx} {G : Gh} {s : DS} {a : Act} {w : World} (h : Rel X G s a w) {t : Nat} {d : D} (ht : lookO s (.tmp t) = some d) : VT w G s.m (.slot t) d (a.eval (.tmp t)) := h.env t d ht

/-! ### Constants -/
theorem dOf1_imm {w : World} {G : Gh} {m : Mt} {p : Place} {v : Value} {d : D} (h : dOf1 v = some d) : VC w G m p d v := by
  unfold dOf1 at h
  split at h <;> first | (cases h; first | exact .int _ _ | exact .bool _ | exact .str _ | exact .nil | exact .nilmap | exact .nilfn | exact .inl ⟨rfl, rfl⟩) | simp at h
theorem dOfL_get : ∀ {vs : List Value} {ds : List D}, dOfL vs = some ds → vs.length = ds.length ∧ ∀ (j : Nat) (d : D) (v : Value), ds[j]? = some d → vs[j]? = some v → dOf1 v = some d
  | [], ds, h => by
    simp [dOfL] at h
    subst h
    exact ⟨rfl, fun j d v h => by simp at h⟩
  | v :: r, ds, h => by
    simp only [dOfL] at h
    split at h
    · rename_i d ds' h1 h2
      cases h
      obtain ⟨h3, h4⟩ := dOfL_get h2
      refine ⟨by simp [h3], fun j d' v' hd hv => ?_⟩
      cases j with
      | zero => simp at hd hv; subst hd; subst hv; exact h1
      | succ j => simp at hd hv; exact h4 j d' v' hd hv
    · simp at h
theorem dOf_vt {w : World} {G : Gh} {m : Mt} {r : Root} {v : Value} {d : D} (h : dOf v = some d) : VT w G m r d v := by
  have h1 : ∀ d, dOf1 v = some d → (∀ cs, d ≠ .agg cs) ∧ (∀ cs, d ≠ .tup cs) := by
    intro d h
    unfold dOf1 at h
    split at h <;> first | (cases h; exact ⟨fun _ h => (nomatch h), fun _ h => (nomatch h)⟩) | simp at h
  unfold dOf at h
  split at h
  · rename_i cs
    obtain ⟨ds, hd, rfl⟩ := Option.map_eq_some_iff.1 h
    obtain ⟨h3, h4⟩ := dOfL_get hd
    exact ⟨cs.toList, by simp, h3, fun j d u hd hu => dOf1_imm (h4 j d u hd hu)⟩
  · have h2 := h1 d h
    have h3 := dOf1_imm (w := w) (G := G) (m := m) (p := ⟨r, 0, 0⟩) h
    cases d <;> first | exact h3 | exact absurd rfl (h2.1 _) | exact absurd rfl (h2.2 _)

theorem lookO_vt {X : Ctx} {G : Gh} {s : DS} {a : Act} {w : World} (h : Rel X G s a w) {x : Operand} {d : D} (hx : lookO s x = some d) (r : Root) (hd : hasOwn d = false) : VT w G s.m r d (a.eval x) := by
  cases x with
  | tmp t => exact (h.env t d hx).any hd
  | const v => exact dOf_vt hx
  | func f =>
    simp [lookO] at hx
    subst hx
    exact .fn f [] [] rfl fun i d v h => by simp at h
  | global g => simp [lookO] at hx

end Go.Lv
