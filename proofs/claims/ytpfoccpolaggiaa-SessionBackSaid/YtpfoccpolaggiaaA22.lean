/-
  A22: code, run on data: triples over abstract states, and their rules.
-/
import Derived.Test.YtpfoccpolaggiaaA21
import Derived.Orders
import Derived.Scope
set_option linter.all false
namespace Go.Lv

/-- How code ends. -/
inductive Ex where
  | nx
  | out (id : Nat)
  | ret
  deriving DecidableEq
noncomputable def Ex.to : Ex → Exit
  | .nx => .normal
  | .out id => .exit id
  | .ret => .ret

/-- Settings of a walk: the table of types, the function's, how many of the store's objects are only read, how many there were at the start. -/
structure St where
  L : Ly
  c : FC
  ro : Nat
  n0 : Nat

structure Fits (T : St) (X : Ctx) : Prop where
  n : T.c.n = X.n
  ro : X.ro = T.ro
  n0 : X.n0 = T.n0
  kp : T.c.kp = X.kp

noncomputable def Ok (P : Program) (T : St) (code : Code) (s : DS) (Q : Ex → DS → Prop) : Prop :=
  ∀ (X : Ctx) (G : Gh) (a : Act) (w : World), Fits T X → Rel X G s a w → code.wp P (fun e a' w' => ∃ x s' G', e = Ex.to x ∧ Q x s' ∧ Rel X G' s' a' w') a w

noncomputable def OpOk (P : Program) (T : St) (o : Oper) (s : DS) (K : DS → Prop) : Prop :=
  ∀ (X : Ctx) (G : Gh) (a : Act) (w : World), Fits T X → Rel X G s a w → ∀ (next : Act → World → Prop) (Q : Exit → Act → World → Prop), (∀ s' G' a' w', K s' → Rel X G' s' a' w' → next a' w') → o.wp P a w next Q

/-- Is an operation wanted? -/
noncomputable def wantD (ops : Array Oper) (s : DS) (o : Oper) : Option Bool :=
  match o.guard with
  | none => some true
  | some (g, want) => match (ops[g]?).bind (·.dst) with
    | some t => match lk t s.env with
      | some (.bool b) => some (b == want)
      | some (.tup []) => some false
      | _ => none
    | none => none

noncomputable def OpsOk (P : Program) (T : St) (ops : Array Oper) : List Nat → DS → (DS → Prop) → Prop
  | [], s, K => K s
  | i :: r, s, K => match ops[i]? with
    | none => OpsOk P T ops r s K
    | some o => match wantD ops s o with
      | some true => OpOk P T o s fun s1 => OpsOk P T ops r s1 K
      | some false => match put T.c o.dst (.tup []) s with
        | some s1 => OpsOk P T ops r s1 K
        | none => False
      | none => False

/-- Operations without calls, one behind the other. -/
noncomputable def runD (T : St) (ops : Array Oper) : List Nat → DS → Option DS
  | [], s => some s
  | i :: r, s => match ops[i]? with
    | none => runD T ops r s
    | some o => match wantD ops s o with
      | some true => match opD T.L T.c T.ro s o with
        | some s1 => runD T ops r s1
        | none => none
      | some false => match put T.c o.dst (.tup []) s with
        | some s1 => runD T ops r s1
        | none => none
      | none => none

section
variable {P : Program} {T : St} {X : Ctx} {G G' : Gh} {s s' s1 : DS} {a a' : Act} {w w' : World} {Q Q' : Ex → DS → Prop} {K K' : DS → Prop} {o : Oper} {ops : Array Oper}

theorem Ok.mono {c : Code} (h : Ok P T c s Q) (hq : ∀ x s, Q x s → Q' x s) : Ok P T c s Q' :=
  fun X G a w hX hR => wp_mono (h X G a w hX hR) fun e a w ⟨x, s', G', h1, h2, h3⟩ => ⟨x, s', G', h1, hq _ _ h2, h3⟩
theorem Ok.less {c : Code} (env : List (Nat × D)) (loc : List (Nat × List D)) (h1 : ∀ t d, lk t env = some d → lk t s.env = some d) (h2 : ∀ t d, lk t loc = some d → lk t s.loc = some d) (h : Ok P T c { s with env, loc } Q) : Ok P T c s Q :=
  fun X G a w hX hR => h X G a w hX (hR.less env loc h1 h2)
theorem Ok.keep {c : Code} (ts bs : List Nat) (h : Ok P T c { s with env := keep ts s.env, loc := keep bs s.loc } Q) : Ok P T c s Q :=
  h.less _ _ (fun t d ht => lk_keep ts t _ d ht) (fun t d ht => lk_keep bs t _ d ht)
theorem Ok.skip (h : Q .nx s) : Ok P T .skip s Q := fun X G a w _ hR => wp_skip ⟨.nx, s, G, rfl, h, hR⟩
theorem Ok.label {l : Nat} (h : Q .nx s) : Ok P T (.label l) s Q := fun X G a w _ hR => wp_label ⟨.nx, s, G, rfl, h, hR⟩
theorem Ok.exit {id : Nat} (h : Q (.out id) s) : Ok P T (.exit id) s Q := fun X G a w _ hR => wp_exit ⟨.out id, s, G, rfl, h, hR⟩
theorem Ok.ret (h : Q .ret s) : Ok P T .ret s Q := fun X G a w _ hR => wp_ret ⟨.ret, s, G, rfl, h, hR⟩
/-- What comes behind code that goes on. -/
noncomputable def Ex.then (next : DS → Prop) (Q : Ex → DS → Prop) : Ex → DS → Prop
  | .nx, s => next s
  | x, s => Q x s
theorem Ok.seq {x y : Code} (h : Ok P T x s (Ex.then (fun s1 => Ok P T y s1 Q) Q)) : Ok P T (.seq x y) s Q := by
  intro X G a w hX hR
  refine wp_seq (wp_mono (h X G a w hX hR) fun e a' w' ⟨x', s', G', h1, h2, h3⟩ => ?_)
  subst h1
  cases x' with
  | nx => exact h2 X G' a' w' hX h3
  | out id => exact ⟨.out id, s', G', rfl, h2, h3⟩
  | ret => exact ⟨.ret, s', G', rfl, h2, h3⟩
theorem Ok.cond {co : Operand} {x y : Code} {b : Bool} (hc : lookO s co = some (.bool b)) (h : Ok P T (if b then x else y) s Q) : Ok P T (.cond co x y) s Q :=
  fun X G a w hX hR => wp_cond (inv_bool (lookO_vt hR hc (.air 0) rfl)) (h X G a w hX hR)
theorem Ok.condT {co : Operand} {x y : Code} (hc : lookO s co = some (.bool true)) (h : Ok P T x s Q) : Ok P T (.cond co x y) s Q := Ok.cond hc h
theorem Ok.condF {co : Operand} {x y : Code} (hc : lookO s co = some (.bool false)) (h : Ok P T y s Q) : Ok P T (.cond co x y) s Q := Ok.cond hc h
theorem Ok.condS {co : Operand} {x y : Code} (b : Bool) (hc : lookO s co = some (.bool b)) (h1 : b = true → Ok P T x s Q) (h2 : b = false → Ok P T y s Q) : Ok P T (.cond co x y) s Q := by
  cases b with
  | true => exact Ok.cond hc (h1 rfl)
  | false => exact Ok.cond hc (h2 rfl)
noncomputable def Ex.blk (id : Nat) (Q : Ex → DS → Prop) : Ex → DS → Prop
  | .out id', s => if id' = id then Q .nx s else Q (.out id') s
  | x, s => Q x s
theorem Ok.block {id : Nat} {c : Code} (h : Ok P T c s (Ex.blk id Q)) : Ok P T (.block id c) s Q := by
  intro X G a w hX hR
  refine wp_block (wp_mono (h X G a w hX hR) fun e a' w' ⟨x', s', G', h1, h2, h3⟩ => ?_)
  subst h1
  cases x' with
  | nx => exact ⟨.nx, s', G', rfl, h2, h3⟩
  | ret => exact ⟨.ret, s', G', rfl, h2, h3⟩
  | out id' =>
    simp only [Ex.to, Exit.inBlock]
    simp only [Ex.blk] at h2
    by_cases e : id' = id
    · rw [if_pos e] at h2 ⊢
      exact ⟨.nx, s', G', rfl, h2, h3⟩
    · rw [if_neg e] at h2 ⊢
      exact ⟨.out id', s', G', rfl, h2, h3⟩
theorem Ok.scope {c : Code} (h : Ok P T c s Q) : Ok P T (.scope c) s Q := by
  intro X G a w hX hR
  refine wp_scope_straight (wp_mono (h X G a w hX hR) fun e a' w' ⟨x', s', G', h1, h2, h3⟩ => ?_)
  subst h1
  cases x' with
  | nx => exact ⟨.nx, s', G', rfl, h2, h3⟩
  | ret => exact ⟨.ret, s', G', rfl, h2, h3⟩
  | out id => exact ⟨.out id, s', G', rfl, h2, h3⟩
theorem least {p : Nat → Prop} (h : ∃ n, p n) : ∃ n, p n ∧ ∀ m, p m → n ≤ m := by
  obtain ⟨n, hn⟩ := h
  induction n using Nat.strongRecOn with
  | _ n ih =>
    by_cases h : ∃ m, m < n ∧ p m
    · obtain ⟨m, h1, h2⟩ := h
      exact ih m h1 h2
    · exact ⟨n, hn, fun m hm => Nat.le_of_not_lt fun hlt => h ⟨m, hlt, hm⟩⟩
noncomputable def leastN (p : Nat → Prop) : Nat := open Classical in if h : ∃ n, p n then Classical.choose (least h) else 0
theorem leastN_spec {p : Nat → Prop} (h : ∃ n, p n) : p (leastN p) ∧ ∀ m, p m → leastN p ≤ m := by
  unfold leastN
  rw [dif_pos h]
  exact Classical.choose_spec (least h)

/-- A loop: what holds ahead of each round, and a number that goes down. -/
theorem Ok.loop {c : Code} (I : Nat → DS → Prop) {n : Nat} (h0 : I n s) (hr : ∀ n s, I n s → Ok P T c s (Ex.then (fun s' => ∃ k, k < n ∧ I k s') Q)) : Ok P T (.loop c) s Q := by
  have key : ∀ n s, I n s → Ok P T (.loop c) s Q := by
    intro n s hI X G a w hX hR
    refine wp_loop (fun a' w' => ∃ k s' G', I k s' ∧ Rel X G' s' a' w') (fun a' w' => leastN fun k => ∃ s' G', I k s' ∧ Rel X G' s' a' w') ⟨n, s, G, hI, hR⟩ ?_
    intro a1 w1 hI1
    obtain ⟨⟨s1, G1, hI2, hR2⟩, hmin⟩ := leastN_spec (p := fun k => ∃ s' G', I k s' ∧ Rel X G' s' a1 w1) hI1
    have := hr _ s1 hI2 X G1 a1 w1 hX hR2
    refine wp_mono this fun e a' w' ⟨x', s', G', h1, h2, h3⟩ => ?_
    subst h1
    cases x' with
    | nx =>
      obtain ⟨k, hk, hIk⟩ := h2
      refine ⟨⟨k, s', G', hIk, h3⟩, ?_⟩
      exact Nat.lt_of_le_of_lt ((leastN_spec (p := fun k => ∃ s' G', I k s' ∧ Rel X G' s' a' w') ⟨k, s', G', hIk, h3⟩).2 k ⟨s', G', hIk, h3⟩) hk
    | out id => exact ⟨.out id, s', G', rfl, h2, h3⟩
    | ret => exact ⟨.ret, s', G', rfl, h2, h3⟩
  exact key n s h0

/-! ### Operations -/
theorem OpOk.mono (h : OpOk P T o s K) (hk : ∀ s, K s → K' s) : OpOk P T o s K' :=
  fun X G a w hX hR next Q hn => h X G a w hX hR next Q fun s' G' a' w' h1 h2 => hn s' G' a' w' (hk _ h1) h2
theorem Runs.wp {v : Value} (h : Runs P o a w v w') {next : Act → World → Prop} {Q : Exit → Act → World → Prop} (hn : next (a.put o.dst v) w') : o.wp P a w next Q := by
  unfold Oper.wp
  rcases h with h | ⟨h, rfl⟩ <;> rw [h] <;> exact hn
theorem OpOk.op (H : LyOK P T.L) (hs : opD T.L T.c T.ro s o = some s1) (h : K s1) : OpOk P T o s K := by
  intro X G a w hX hR next Q hn
  obtain ⟨v, w', G', h1, h2⟩ := op_sound H hR hX.n hX.kp (o := o) (s' := s1) (by rw [hX.ro]; exact hs)
  exact h1.wp (hn _ _ _ _ h h2)

theorem wantD_sound (hR : Rel X G s a w) {b : Bool} (h : wantD ops s o = some b) : Region.wanted o (yielded ops a.tmps) = b := by
  unfold wantD at h
  unfold Region.wanted
  cases hg : o.guard with
  | none => rw [hg] at h; simp at h; simp [h]
  | some gw =>
    obtain ⟨g, want⟩ := gw
    rw [hg] at h
    simp only at h ⊢
    unfold yielded
    cases ht : (ops[g]?).bind (·.dst) with
    | none => rw [ht] at h; cases h
    | some t =>
      rw [ht] at h
      simp only [Option.bind_some] at h ⊢
      cases hl : lk t s.env with
      | none => rw [hl] at h; cases h
      | some d =>
        rw [hl] at h
        have hv := hR.env t d hl
        split at h
        · rename_i b' e
          cases e
          cases h
          have e1 := inv_bool hv
          have : a.tmps[t]? = some (.bool b') := by
            cases hq : a.tmps[t]? with
            | none => simp [Array.getD_eq_getD_getElem?, hq, undef] at e1
            | some u => simp [Array.getD_eq_getD_getElem?, hq] at e1; rw [e1]
          rw [this]
          simp
        · rename_i e
          cases e
          cases h
          obtain ⟨vs, hv, hl, _⟩ := hv
          have : vs = [] := List.eq_nil_of_length_eq_zero hl
          subst this
          cases hq : a.tmps[t]? with
          | none => rfl
          | some u =>
            simp [Array.getD_eq_getD_getElem?, hq] at hv
            subst hv
            rfl
        · cases h

theorem Rel.putUndef (hR : Rel X G s a w) (hn : T.c.n = X.n) {dst : Option Nat} (h : Lv.put T.c dst (.tup []) s = some s1) : ∃ G', Rel X G' s1 (a.put dst undef) w :=
  hR.putO hn h 0 ⟨[], rfl, rfl, fun i d u hd => by simp at hd⟩

theorem OpsOk.sound : ∀ {l : List Nat} {s : DS} {G : Gh} {a : Act} {w : World} {Qc : Exit → Act → World → Prop}, OpsOk P T ops l s K → Fits T X → Rel X G s a w → (∀ s' G' a' w', K s' → Rel X G' s' a' w' → Qc .normal a' w') → wpOps P ops Qc l a w
  | [], s, G, a, w, Qc, h, _, hR, hq => hq _ _ _ _ h hR
  | i :: r, s, G, a, w, Qc, h, hX, hR, hq => by
    simp only [OpsOk] at h
    simp only [wpOps]
    cases ho : ops[i]? with
    | none =>
      rw [ho] at h
      exact OpsOk.sound h hX hR hq
    | some o =>
      rw [ho] at h
      simp only at h ⊢
      split at h
      · rename_i hw
        rw [wantD_sound hR hw, if_pos rfl]
        exact .inl (h X G a w hX hR _ _ fun s' G' a' w' h1 h2 => OpsOk.sound h1 hX h2 hq)
      · rename_i hw
        rw [wantD_sound hR hw, if_neg (by simp)]
        split at h
        · rename_i s1 hp
          obtain ⟨G', hR'⟩ := hR.putUndef hX.n hp
          exact OpsOk.sound h hX hR' hq
        · exact h.elim
      · exact h.elim

theorem Ok.region {id : Nat} (h : OpsOk P T ops (List.range ops.size) s (fun s' => Q .nx s')) : Ok P T (.region id ops false) s Q :=
  fun X G a w hX hR => wp_region (OpsOk.sound h hX hR fun s' G' a' w' h1 h2 => ⟨.nx, s', G', rfl, h1, h2⟩)

/-- The next operation. -/
theorem OpsOk.cons {i : Nat} {r : List Nat} (ho : ops[i]? = some o) (hg : wantD ops s o = some true) (h : OpOk P T o s fun s1 => OpsOk P T ops r s1 K) : OpsOk P T ops (i :: r) s K := by
  simp only [OpsOk, ho, hg]
  exact h
theorem OpsOk.mono : ∀ {l : List Nat} {s : DS}, OpsOk P T ops l s K → (∀ s, K s → K' s) → OpsOk P T ops l s K'
  | [], s, h, hk => hk _ h
  | i :: r, s, h, hk => by
    simp only [OpsOk] at h ⊢
    cases ho : ops[i]? with
    | none =>
      rw [ho] at h
      exact OpsOk.mono h hk
    | some o =>
      rw [ho] at h
      simp only at h ⊢
      cases hw : wantD ops s o with
      | none => rw [hw] at h; exact h.elim
      | some b =>
        rw [hw] at h
        cases b with
        | true => exact OpOk.mono h fun s h => OpsOk.mono h hk
        | false =>
          simp only at h ⊢
          cases hp : put T.c o.dst (.tup []) s with
          | none => rw [hp] at h; exact h.elim
          | some s1 => rw [hp] at h; exact OpsOk.mono h hk
theorem OpsOk.run (H : LyOK P T.L) : ∀ {l1 l2 : List Nat} {s s1 : DS}, runD T ops l1 s = some s1 → OpsOk P T ops l2 s1 K → OpsOk P T ops (l1 ++ l2) s K
  | [], l2, s, s1, h, h2 => by
    simp [runD] at h
    subst h
    exact h2
  | i :: r, l2, s, s1, h, h2 => by
    simp only [runD] at h
    simp only [List.cons_append, OpsOk]
    cases ho : ops[i]? with
    | none =>
      rw [ho] at h
      exact OpsOk.run H h h2
    | some o =>
      rw [ho] at h
      simp only at h ⊢
      cases hw : wantD ops s o with
      | none => rw [hw] at h; cases h
      | some b =>
        rw [hw] at h
        cases b with
        | true =>
          simp only at h ⊢
          cases hs : opD T.L T.c T.ro s o with
          | none => rw [hs] at h; cases h
          | some s2 => rw [hs] at h; exact OpOk.op H hs (OpsOk.run H h h2)
        | false =>
          simp only at h ⊢
          cases hp : put T.c o.dst (.tup []) s with
          | none => rw [hp] at h; cases h
          | some s2 => rw [hp] at h; exact OpsOk.run H h h2
theorem Ok.regionD (H : LyOK P T.L) {id : Nat} (hs : runD T ops (List.range ops.size) s = some s1) (h : Q .nx s1) : Ok P T (.region id ops false) s Q := by
  refine Ok.region ?_
  have := OpsOk.run (K := fun s' => Q .nx s') (l2 := []) H hs h
  rwa [List.append_nil] at this
end

end Go.Lv
