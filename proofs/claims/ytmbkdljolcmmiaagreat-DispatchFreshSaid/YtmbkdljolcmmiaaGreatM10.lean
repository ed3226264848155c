/-
  Part 10 of the texts under the proof: an abstract run of loaded code on data, and what the functions do. No condition.
-/
import Derived.Test.YtmbkdljolcmmiaaGreatM9
import Derived.Orders
import Derived.Scope
set_option linter.all false
set_option maxRecDepth 100000
namespace Go.Lv

inductive Ex where
  | nx
  | out (id : Nat)
  | ret
  deriving DecidableEq
noncomputable def Ex.to : Ex → Exit
  | .nx => .normal
  | .out id => .exit id
  | .ret => .ret

structure St where
  L : Ly
  c : FC
  ro : Nat
  n0 : Nat

structure Fits (T : St) (X : Ctx) : Prop where
  n : T.c.n = X.n
  ro : X.ro = T.ro
  n0 : X.n0 = T.n0
  kp : T.c.kp = X.kp

noncomputable def Ok (P : Program) (T : St) (code : Code) (s : DS) (Q : Ex → DS → Prop) : Prop :=
  ∀ (X : Ctx) (G : Gh) (a : Act) (w : World), Fits T X → Rel X G s a w → code.wp P (fun e a' w' => ∃ x s' G', e = Ex.to x ∧ Q x s' ∧ Rel X G' s' a' w') a w

noncomputable def OpOk (P : Program) (T : St) (o : Oper) (s : DS) (K : DS → Prop) : Prop :=
  ∀ (X : Ctx) (G : Gh) (a : Act) (w : World), Fits T X → Rel X G s a w → ∀ (next : Act → World → Prop) (Q : Exit → Act → World → Prop), (∀ s' G' a' w', K s' → Rel X G' s' a' w' → next a' w') → o.wp P a w next Q

noncomputable def wantD (ops : Array Oper) (s : DS) (o : Oper) : Option Bool :=
  match o.guard with
  | none => some true
  | some (g, want) => match (ops[g]?).bind (·.dst) with
    | some t => match lk t s.env with
      | some (.bool b) => some (b == want)
      | some (.tup []) => some false
      | _ => none
    | none => none

noncomputable def OpsOk (P : Program) (T : St) (ops : Array Oper) : List Nat → DS → (DS → Prop) → Prop
  | [], s, K => K s
  | i :: r, s, K => match ops[i]? with
    | none => OpsOk P T ops r s K
    | some o => match wantD ops s o with
      | some true => OpOk P T o s fun s1 => OpsOk P T ops r s1 K
      | some false => match put T.c o.dst (.tup []) s with
        | some s1 => OpsOk P T ops r s1 K
        | none => False
      | none => False

noncomputable def runD (T : St) (ops : Array Oper) : List Nat → DS → Option DS
  | [], s => some s
  | i :: r, s => match ops[i]? with
    | none => runD T ops r s
    | some o => match wantD ops s o with
      | some true => match opD T.L T.c T.ro s o with
        | some s1 => runD T ops r s1
        | none => none
      | some false => match put T.c o.dst (.tup []) s with
        | some s1 => runD T ops r s1
        | none => none
      | none => none

section
variable {P : Program} {T : St} {X : Ctx} {G G' : Gh} {s s' s1 : DS} {a a' : Act} {w w' : World} {Q Q' : Ex → DS → Prop} {K K' : DS → Prop} {o : Oper} {ops : Array Oper}

theorem Ok.mono {c : Code} (h : Ok P T c s Q) (hq : ∀ x s, Q x s → Q' x s) : Ok P T c s Q' :=
  fun X G a w hX hR => wp_mono (h X G a w hX hR) fun e a w ⟨x, s', G', h1, h2, h3⟩ => ⟨x, s', G', h1, hq _ _ h2, h3⟩
theorem Ok.less {c : Code} (env : List (Nat × D)) (loc : List (Nat × List D)) (h1 : ∀ t d, lk t env = some d → lk t s.env = some d) (h2 : ∀ t d, lk t loc = some d → lk t s.loc = some d) (h : Ok P T c { s with env, loc } Q) : Ok P T c s Q :=
  fun X G a w hX hR => h X G a w hX (hR.less env loc h1 h2)
theorem Ok.keep {c : Code} (ts bs : List Nat) (h : Ok P T c { s with env := keep ts s.env, loc := keep bs s.loc } Q) : Ok P T c s Q :=
  h.less _ _ (fun t d ht => lk_keep ts t _ d ht) (fun t d ht => lk_keep bs t _ d ht)
theorem Ok.skip (h : Q .nx s) : Ok P T .skip s Q := fun X G a w _ hR => wp_skip ⟨.nx, s, G, rfl, h, hR⟩
theorem Ok.label {l : Nat} (h : Q .nx s) : Ok P T (.label l) s Q := fun X G a w _ hR => wp_label ⟨.nx, s, G, rfl, h, hR⟩
theorem Ok.exit {id : Nat} (h : Q (.out id) s) : Ok P T (.exit id) s Q := fun X G a w _ hR => wp_exit ⟨.out id, s, G, rfl, h, hR⟩
theorem Ok.ret (h : Q .ret s) : Ok P T .ret s Q := fun X G a w _ hR => wp_ret ⟨.ret, s, G, rfl, h, hR⟩
noncomputable def Ex.then (next : DS → Prop) (Q : Ex → DS → Prop) : Ex → DS → Prop
  | .nx, s => next s
  | x, s => Q x s
theorem Ok.seq {x y : Code} (h : Ok P T x s (Ex.then (fun s1 => Ok P T y s1 Q) Q)) : Ok P T (.seq x y) s Q := by
  intro X G a w hX hR
  refine wp_seq (wp_mono (h X G a w hX hR) fun e a' w' ⟨x', s', G', h1, h2, h3⟩ => ?_)
  subst h1
  cases x' with
  | nx => exact h2 X G' a' w' hX h3
  | out id => exact ⟨.out id, s', G', rfl, h2, h3⟩
  | ret => exact ⟨.ret, s', G', rfl, h2, h3⟩
theorem Ok.cond {co : Operand} {x y : Code} {b : Bool} (hc : lookO s co = some (.bool b)) (h : Ok P T (if b then x else y) s Q) : Ok P T (.cond co x y) s Q :=
  fun X G a w hX hR => wp_cond (inv_bool (lookO_vt hR hc (.air 0) rfl)) (h X G a w hX hR)
theorem Ok.condT {co : Operand} {x y : Code} (hc : lookO s co = some (.bool true)) (h : Ok P T x s Q) : Ok P T (.cond co x y) s Q := Ok.cond hc h
theorem Ok.condF {co : Operand} {x y : Code} (hc : lookO s co = some (.bool false)) (h : Ok P T y s Q) : Ok P T (.cond co x y) s Q := Ok.cond hc h
noncomputable def Ex.blk (id : Nat) (Q : Ex → DS → Prop) : Ex → DS → Prop
  | .out id', s => if id' = id then Q .nx s else Q (.out id') s
  | x, s => Q x s
theorem Ok.block {id : Nat} {c : Code} (h : Ok P T c s (Ex.blk id Q)) : Ok P T (.block id c) s Q := by
  intro X G a w hX hR
  refine wp_block (wp_mono (h X G a w hX hR) fun e a' w' ⟨x', s', G', h1, h2, h3⟩ => ?_)
  subst h1
  cases x' with
  | nx => exact ⟨.nx, s', G', rfl, h2, h3⟩
  | ret => exact ⟨.ret, s', G', rfl, h2, h3⟩
  | out id' =>
    simp only [Ex.to, Exit.inBlock]
    simp only [Ex.blk] at h2
    by_cases e : id' = id
    · rw [if_pos e] at h2 ⊢
      exact ⟨.nx, s', G', rfl, h2, h3⟩
    · rw [if_neg e] at h2 ⊢
      exact ⟨.out id', s', G', rfl, h2, h3⟩
theorem Ok.scope {c : Code} (h : Ok P T c s Q) : Ok P T (.scope c) s Q := by
  intro X G a w hX hR
  refine wp_scope_straight (wp_mono (h X G a w hX hR) fun e a' w' ⟨x', s', G', h1, h2, h3⟩ => ?_)
  subst h1
  cases x' with
  | nx => exact ⟨.nx, s', G', rfl, h2, h3⟩
  | ret => exact ⟨.ret, s', G', rfl, h2, h3⟩
  | out id => exact ⟨.out id, s', G', rfl, h2, h3⟩
theorem least {p : Nat → Prop} (h : ∃ n, p n) : ∃ n, p n ∧ ∀ m, p m → n ≤ m := by
  obtain ⟨n, hn⟩ := h
  induction n using Nat.strongRecOn with
  | _ n ih =>
    by_cases h : ∃ m, m < n ∧ p m
    · obtain ⟨m, h1, h2⟩ := h
      exact ih m h1 h2
    · exact ⟨n, hn, fun m hm => Nat.le_of_not_lt fun hlt => h ⟨m, hlt, hm⟩⟩
noncomputable def leastN (p : Nat → Prop) : Nat := open Classical in if h : ∃ n, p n then Classical.choose (least h) else 0
theorem leastN_spec {p : Nat → Prop} (h : ∃ n, p n) : p (leastN p) ∧ ∀ m, p m → leastN p ≤ m := by
  unfold leastN
  rw [dif_pos h]
  exact Classical.choose_spec (least h)

theorem Ok.loop {c : Code} (I : Nat → DS → Prop) {n : Nat} (h0 : I n s) (hr : ∀ n s, I n s → Ok P T c s (Ex.then (fun s' => ∃ k, k < n ∧ I k s') Q)) : Ok P T (.loop c) s Q := by
  have key : ∀ n s, I n s → Ok P T (.loop c) s Q := by
    intro n s hI X G a w hX hR
    refine wp_loop (fun a' w' => ∃ k s' G', I k s' ∧ Rel X G' s' a' w') (fun a' w' => leastN fun k => ∃ s' G', I k s' ∧ Rel X G' s' a' w') ⟨n, s, G, hI, hR⟩ ?_
    intro a1 w1 hI1
    obtain ⟨⟨s1, G1, hI2, hR2⟩, hmin⟩ := leastN_spec (p := fun k => ∃ s' G', I k s' ∧ Rel X G' s' a1 w1) hI1
    have := hr _ s1 hI2 X G1 a1 w1 hX hR2
    refine wp_mono this fun e a' w' ⟨x', s', G', h1, h2, h3⟩ => ?_
    subst h1
    cases x' with
    | nx =>
      obtain ⟨k, hk, hIk⟩ := h2
      refine ⟨⟨k, s', G', hIk, h3⟩, ?_⟩
      exact Nat.lt_of_le_of_lt ((leastN_spec (p := fun k => ∃ s' G', I k s' ∧ Rel X G' s' a' w') ⟨k, s', G', hIk, h3⟩).2 k ⟨s', G', hIk, h3⟩) hk
    | out id => exact ⟨.out id, s', G', rfl, h2, h3⟩
    | ret => exact ⟨.ret, s', G', rfl, h2, h3⟩
  exact key n s h0

theorem OpOk.mono (h : OpOk P T o s K) (hk : ∀ s, K s → K' s) : OpOk P T o s K' :=
  fun X G a w hX hR next Q hn => h X G a w hX hR next Q fun s' G' a' w' h1 h2 => hn s' G' a' w' (hk _ h1) h2
theorem Runs.wp {v : Value} (h : Runs P o a w v w') {next : Act → World → Prop} {Q : Exit → Act → World → Prop} (hn : next (a.put o.dst v) w') : o.wp P a w next Q := by
  unfold Oper.wp
  rcases h with h | ⟨h, rfl⟩ <;> rw [h] <;> exact hn
theorem OpOk.op (H : LyOK P T.L) (hs : opD T.L T.c T.ro s o = some s1) (h : K s1) : OpOk P T o s K := by
  intro X G a w hX hR next Q hn
  obtain ⟨v, w', G', h1, h2⟩ := op_sound H hR hX.n hX.kp (o := o) (s' := s1) (by rw [hX.ro]; exact hs)
  exact h1.wp (hn _ _ _ _ h h2)

theorem wantD_sound (hR : Rel X G s a w) {b : Bool} (h : wantD ops s o = some b) : Region.wanted o (yielded ops a.tmps) = b := by
  unfold wantD at h
  unfold Region.wanted
  cases hg : o.guard with
  | none => rw [hg] at h; simp at h; simp [h]
  | some gw =>
    obtain ⟨g, want⟩ := gw
    rw [hg] at h
    simp only at h ⊢
    unfold yielded
    cases ht : (ops[g]?).bind (·.dst) with
    | none => rw [ht] at h; cases h
    | some t =>
      rw [ht] at h
      simp only [Option.bind_some] at h ⊢
      cases hl : lk t s.env with
      | none => rw [hl] at h; cases h
      | some d =>
        rw [hl] at h
        have hv := hR.env t d hl
        split at h
        · rename_i b' e
          cases e
          cases h
          have e1 := inv_bool hv
          have : a.tmps[t]? = some (.bool b') := by
            cases hq : a.tmps[t]? with
            | none => simp [Array.getD_eq_getD_getElem?, hq, undef] at e1
            | some u => simp [Array.getD_eq_getD_getElem?, hq] at e1; rw [e1]
          rw [this]
          simp
        · rename_i e
          cases e
          cases h
          obtain ⟨vs, hv, hl, _⟩ := hv
          have : vs = [] := List.eq_nil_of_length_eq_zero hl
          subst this
          cases hq : a.tmps[t]? with
          | none => rfl
          | some u =>
            simp [Array.getD_eq_getD_getElem?, hq] at hv
            subst hv
            rfl
        · cases h

theorem Rel.putUndef (hR : Rel X G s a w) (hn : T.c.n = X.n) {dst : Option Nat} (h : Lv.put T.c dst (.tup []) s = some s1) : ∃ G', Rel X G' s1 (a.put dst undef) w :=
  hR.putO hn h 0 ⟨[], rfl, rfl, fun i d u hd => by simp at hd⟩

theorem OpsOk.sound : ∀ {l : List Nat} {s : DS} {G : Gh} {a : Act} {w : World} {Qc : Exit → Act → World → Prop}, OpsOk P T ops l s K → Fits T X → Rel X G s a w → (∀ s' G' a' w', K s' → Rel X G' s' a' w' → Qc .normal a' w') → wpOps P ops Qc l a w
  | [], s, G, a, w, Qc, h, _, hR, hq => hq _ _ _ _ h hR
  | i :: r, s, G, a, w, Qc, h, hX, hR, hq => by
    simp only [OpsOk] at h
    simp only [wpOps]
    cases ho : ops[i]? with
    | none =>
      rw [ho] at h
      exact OpsOk.sound h hX hR hq
    | some o =>
      rw [ho] at h
      simp only at h ⊢
      split at h
      · rename_i hw
        rw [wantD_sound hR hw, if_pos rfl]
        exact .inl (h X G a w hX hR _ _ fun s' G' a' w' h1 h2 => OpsOk.sound h1 hX h2 hq)
      · rename_i hw
        rw [wantD_sound hR hw, if_neg (by simp)]
        split at h
        · rename_i s1 hp
          obtain ⟨G', hR'⟩ := hR.putUndef hX.n hp
          exact OpsOk.sound h hX hR' hq
        · exact h.elim
      · exact h.elim

theorem Ok.region {id : Nat} (h : OpsOk P T ops (List.range ops.size) s (fun s' => Q .nx s')) : Ok P T (.region id ops false) s Q :=
  fun X G a w hX hR => wp_region (OpsOk.sound h hX hR fun s' G' a' w' h1 h2 => ⟨.nx, s', G', rfl, h1, h2⟩)

theorem OpsOk.cons {i : Nat} {r : List Nat} (ho : ops[i]? = some o) (hg : wantD ops s o = some true) (h : OpOk P T o s fun s1 => OpsOk P T ops r s1 K) : OpsOk P T ops (i :: r) s K := by
  simp only [OpsOk, ho, hg]
  exact h
theorem OpsOk.mono : ∀ {l : List Nat} {s : DS}, OpsOk P T ops l s K → (∀ s, K s → K' s) → OpsOk P T ops l s K'
  | [], s, h, hk => hk _ h
  | i :: r, s, h, hk => by
    simp only [OpsOk] at h ⊢
    cases ho : ops[i]? with
    | none =>
      rw [ho] at h
      exact OpsOk.mono h hk
    | some o =>
      rw [ho] at h
      simp only at h ⊢
      cases hw : wantD ops s o with
      | none => rw [hw] at h; exact h.elim
      | some b =>
        rw [hw] at h
        cases b with
        | true => exact OpOk.mono h fun s h => OpsOk.mono h hk
        | false =>
          simp only at h ⊢
          cases hp : put T.c o.dst (.tup []) s with
          | none => rw [hp] at h; exact h.elim
          | some s1 => rw [hp] at h; exact OpsOk.mono h hk
theorem OpsOk.run (H : LyOK P T.L) : ∀ {l1 l2 : List Nat} {s s1 : DS}, runD T ops l1 s = some s1 → OpsOk P T ops l2 s1 K → OpsOk P T ops (l1 ++ l2) s K
  | [], l2, s, s1, h, h2 => by
    simp [runD] at h
    subst h
    exact h2
  | i :: r, l2, s, s1, h, h2 => by
    simp only [runD] at h
    simp only [List.cons_append, OpsOk]
    cases ho : ops[i]? with
    | none =>
      rw [ho] at h
      exact OpsOk.run H h h2
    | some o =>
      rw [ho] at h
      simp only at h ⊢
      cases hw : wantD ops s o with
      | none => rw [hw] at h; cases h
      | some b =>
        rw [hw] at h
        cases b with
        | true =>
          simp only at h ⊢
          cases hs : opD T.L T.c T.ro s o with
          | none => rw [hs] at h; cases h
          | some s2 => rw [hs] at h; exact OpOk.op H hs (OpsOk.run H h h2)
        | false =>
          simp only at h ⊢
          cases hp : put T.c o.dst (.tup []) s with
          | none => rw [hp] at h; cases h
          | some s2 => rw [hp] at h; exact OpsOk.run H h h2
end

end Go.Lv

namespace Go.Lv

noncomputable def resOne (L : Ly) (ro : Nat) (s : DS) : ResultVar → Option (D × DS)
  | .tmp t => match takeO s (.tmp t) with
    | some (d, s1) => if isTup d then none else some (d, s1)
    | none => none
  | .cell a t => match lookO s (.tmp a) with
    | some ad => match readD ro s ad (L.size t) with
      | some cs => if cs.any isOwn then
          match ad with
          | .lptr u _ off => match lk u s.loc, ofCells L t cs with
            | some bs, some d => if isTup d then none else some (d, { s with loc := insL u (splice bs off (cs.map (leftC s.m.ep))) s.loc, m := s.m.bL u })
            | _, _ => none
          | _ => none
        else match ofCells L t cs with
        | some d => if isTup d then none else some (d, s)
        | none => none
      | none => none
    | none => none
noncomputable def resL (L : Ly) (ro : Nat) (s : DS) : List ResultVar → Option (List D × DS)
  | [] => some ([], s)
  | x :: r => match resOne L ro s x with
    | some (d, s1) => match resL L ro s1 r with
      | some (ds, s2) => some (d :: ds, s2)
      | none => none
    | none => none
noncomputable def resD (L : Ly) (ro : Nat) (s : DS) (rs : List ResultVar) : Option (D × DS) :=
  match resL L ro s rs with
  | some ([d], s1) => some (d, s1)
  | some (ds, s1) => some (.tup ds, s1)
  | none => none

section
variable {P : Program} {T : St} {L : Ly} {X : Ctx} {G G' : Gh} {s s' s1 : DS} {a a' : Act} {w w' : World} {Q Q' : Ex → DS → Prop} {K K' : DS → Prop} {o : Oper} {ops : Array Oper}

noncomputable def toPart (n k : Nat) (p : Place) : Option Place := if p.r = .air n ∧ p.i = 0 then some ⟨.air 0, k, p.j⟩ else none
noncomputable def ofPart (n k : Nat) (q : Place) : Option Place := if q.r = .air 0 ∧ q.i = k then some ⟨.air n, 0, q.j⟩ else none

theorem tupL : ∀ (ds : List D) (us : List Value) (G : Gh) (n k : Nat), Rel X G s a w → 0 < n → (∀ (j : Nat) (d : D) (u : Value), ds[j]? = some d → us[j]? = some u → VT w G s.m (.air (n + j)) d u ∧ ∀ es, d ≠ .tup es) →
    ∃ G', Rel X G' s a w ∧ (∀ (j : Nat) (d : D) (u : Value), ds[j]? = some d → us[j]? = some u → VP w G' s.m (.air 0) (k + j) d u) ∧ Keeps w G s.m w G' s.m (fun p => (p.r = .air 0 ∧ p.i < k) ∨ ∃ j, p.r = .air j ∧ n + ds.length ≤ j)
  | [], us, G, n, k, h, _, _ => ⟨G, h, fun j d u hd => by simp at hd, Keeps.refl _ _ _ _⟩
  | d :: ds, [], G, n, k, h, _, _ => ⟨G, h, fun j d u _ hu => by simp at hu, Keeps.refl _ _ _ _⟩
  | d :: ds, u :: us, G, n, k, h, hn, hv => by
    obtain ⟨hv0, hnt⟩ := hv 0 d u rfl rfl
    rw [VT_part hnt] at hv0
    have K : Keeps w G s.m w (G.mv (toPart n k) (ofPart n k)) s.m (fun p => toPart n k p = none ∧ ofPart n k p = none) :=
      mv_keeps rfl (fun _ => Nat.le_refl _) (fun _ => Nat.le_refl _) (Nat.le_refl _) (fun q p hq => by
        left
        unfold ofPart at hq
        rw [Option.ite_none_right_eq_some] at hq
        rw [hq.1.1]
        rfl)
    have no1 : ∀ {p : Place}, p.r ≠ .air n → toPart n k p = none := fun hp => by unfold toPart; rw [if_neg (fun q => hp q.1)]
    have no2 : ∀ {p : Place}, (p.r ≠ .air 0 ∨ p.i ≠ k) → ofPart n k p = none := fun hp => by
      unfold ofPart
      rw [if_neg]
      rintro ⟨q1, q2⟩
      rcases hp with hp | hp
      · exact hp q1
      · exact hp q2
    have r1 : Rel X (G.mv (toPart n k) (ofPart n k)) s a w :=
      h.re (fun b hb => mv_own_other hb) rfl rfl (fun b e he => .inl he) (mv_stow h.stow) h.std (fun u e hu => K.vt (fun i q j c _ _ _ => ⟨no1 (by simp), no2 (.inl (by simp))⟩) (h.env u e hu)) (fun u cs hu => ⟨⟨cs, hu⟩, h.locK K (fun t j => ⟨no1 (by simp), no2 (.inl (by simp))⟩) hu⟩) rfl rfl (fun k o b hk hb => h.stoK K (fun t j => ⟨no1 (by simp), no2 (.inl (by simp))⟩) hk hb)
    have v0 : VP w (G.mv (toPart n k) (ofPart n k)) s.m (.air 0) k d u := by
      have := VP.map (r' := .air 0) (i' := k) (fun _ c => c) (fun j c u hc => VC.mv K (p := ⟨.air n, 0, j⟩) (q := ⟨.air 0, k, j⟩) (by unfold toPart; rw [if_pos ⟨rfl, rfl⟩]) (by unfold ofPart; rw [if_pos ⟨rfl, rfl⟩]) hc) hv0
      rwa [mapAt_id] at this
    obtain ⟨G', r2, v2, K2⟩ := tupL ds us _ (n + 1) (k + 1) r1 (by omega) (fun j d' u' hd hu => by
      obtain ⟨q1, q2⟩ := hv (j + 1) d' u' (by simpa using hd) (by simpa using hu)
      refine ⟨?_, q2⟩
      rw [show n + 1 + j = n + (j + 1) by omega]
      exact K.vt (fun i q j' c _ _ _ => ⟨no1 (by simp), no2 (.inl (by simp))⟩) q1)
    refine ⟨G', r2, fun j d' u' hd hu => ?_, (K.trans K2).weaken fun p hp => ?_⟩
    · cases j with
      | zero =>
        simp at hd hu
        subst hd; subst hu
        exact K2.vp (fun j c _ _ => .inl ⟨rfl, by simp⟩) v0
      | succ j =>
        have := v2 j d' u' (by simpa using hd) (by simpa using hu)
        rwa [show k + 1 + j = k + (j + 1) by omega] at this
    · simp only [List.length_cons] at hp
      rcases hp with ⟨h1, h2⟩ | ⟨j, h1, h2⟩
      · exact ⟨⟨no1 (by rw [h1]; simp; omega), no2 (.inr (by omega))⟩, .inl ⟨h1, by omega⟩⟩
      · exact ⟨⟨no1 (by rw [h1]; simp; omega), no2 (.inl (by rw [h1]; simp; omega))⟩, .inr ⟨j, h1, by omega⟩⟩

theorem Rel.takeBox (H : LyOK P L) (h : Rel X G s a w) {u ver off t N : Nat} {cs bs : List D} {d : D} (hcs : readD X.ro s (.lptr u ver off) (L.size t) = some cs) (hbs : lk u s.loc = some bs) (hof : ofCells L t cs = some d) {b : Nat} (hlen : cs.length = L.size t)
    (hcell : ∀ (j : Nat) (d : D), cs[j]? = some d → ∃ v, w.cell? ⟨b, off + j, none⟩ = some v ∧ VC w G s.m ⟨.lbox u, 0, off + j⟩ d v) :
    ∃ G1, Rel X G1 { s with loc := insL u (splice bs off (cs.map (leftC s.m.ep))) s.loc, m := s.m.bL u } a w ∧ VT w G1 (s.m.bL u) (.air N) d (mkV L t (cellsAt w b off (L.size t))) ∧ Keeps w G s.m w G1 (s.m.bL u) (fun p => ∃ j, p.r = .air j ∧ j ≠ N) := by
  simp only [readD] at hcs
  rw [Option.ite_none_right_eq_some] at hcs
  obtain ⟨hver, hcs⟩ := hcs
  rw [hbs] at hcs
  simp only at hcs
  obtain ⟨z1, z2, z3⟩ := sliceL_get hcs
  have K := h.takeOut (r := .lbox u) (off := off) (n := cs.length) (N := N) (m' := s.m.bL u) (bR_ups _ (.lbox u))
  refine ⟨_, ?_, ?_, K.weaken fun p hp => ?_⟩
  · refine h.re (fun b hb => mv_own_other hb) rfl rfl (fun b e he => .inl he) (mv_stow h.stow) h.std (fun u' e hu => K.vt (fun i q j c _ _ _ => ⟨fromB_no (.inl (by simp)), inB_no (by simp)⟩) (h.env u' e hu)) (fun u' bs' hu => ?_) rfl rfl (fun k o b hk hb => h.stoK K (fun t j => ⟨fromB_no (.inl (by simp)), inB_no (by simp)⟩) hk hb)
    have hu' : lk u' (insL u (splice bs off (cs.map (leftC s.m.ep))) s.loc) = some bs' := hu
    rw [lk_insL] at hu'
    by_cases e : u' = u
    · subst e
      simp at hu'
      subst hu'
      refine ⟨⟨bs, hbs⟩, fun j d hd => ?_⟩
      rw [getElem?_splice _ _ _ (by simp; omega), List.length_map] at hd
      obtain ⟨_, hbx⟩ := h.loc u' bs hbs
      split at hd
      · rename_i hj
        rw [List.getElem?_map] at hd
        obtain ⟨d0, hd0, rfl⟩ := Option.map_eq_some_iff.1 hd
        rw [z3 (j - off) (by omega), show off + (j - off) = j by omega] at hd0
        obtain ⟨v, v1, v2, v3⟩ := hbx j d0 hd0
        exact ⟨v, v1, v2, VC.left K rfl v3⟩
      · rename_i hj
        obtain ⟨v, v1, v2, v3⟩ := hbx j d hd
        exact ⟨v, v1, v2, K.vc (fun _ => ⟨fromB_no (.inr hj), inB_no (by simp)⟩) v3⟩
    · simp only [e, if_false] at hu'
      exact ⟨⟨bs', hu'⟩, K.box (fun j c _ _ => ⟨fromB_no (.inl (by simp [e])), inB_no (by simp)⟩) (fun _ => ⟨rfl, rfl⟩) (h.loc u' bs' hu').2⟩
  · refine ofCells_vt hof (by rw [cellsAt_length, hlen]) (fun j d u' hd hu => ?_)
    have hj : j < cs.length := (List.getElem?_eq_some_iff.1 hd).1
    obtain ⟨v, hv, hc⟩ := hcell j d hd
    rw [cellsAt_get (by omega) hv] at hu
    cases hu
    refine VC.mv K ?_ ?_ hc
    · have := fromB_at (N := N) (r := .lbox u) (off := off) (n := cs.length) (j := off + j) (by omega) (by omega)
      rwa [show off + j - off = j by omega] at this
    · have := inB_at (N := N) (r := .lbox u) (off := off) (n := cs.length) (j := off + j) (by omega) (by omega)
      rwa [show off + j - off = j by omega] at this
  · obtain ⟨j, hj, hjN⟩ := hp
    exact ⟨fromB_no (.inl (by rw [hj]; simp)), inB_no (by rw [hj]; simp; exact hjN)⟩

noncomputable def resG (tmps : Array Value) : ResultVar → Sem Value
  | .tmp t => pure (tmps.getD t undef)
  | .cell a t => do loadVar t (← asAddr (tmps.getD a undef))

theorem resOne_rel (H : LyOK P L) (h : Rel X G s a w) {x : ResultVar} {d : D} (hr : resOne L X.ro s x = some (d, s1)) (n : Nat) :
    ∃ v G1, (resG a.tmps x).run P w = .ok v w ∧ Rel X G1 s1 a w ∧ VT w G1 s1.m (.air n) d v ∧ (∀ es, d ≠ .tup es) ∧ Keeps w G s.m w G1 s1.m (fun p => ∃ j, p.r = .air j ∧ j ≠ n) := by
  cases x with
  | tmp t =>
    simp only [resOne] at hr
    split at hr
    · rename_i d' s' htk
      rw [Option.ite_none_left_eq_some] at hr
      obtain ⟨hnt, hr⟩ := hr
      cases hr
      obtain ⟨G1, r1, v1, K1, _⟩ := takeO_rel h htk n
      refine ⟨_, G1, rfl, r1, v1, fun es e => hnt (by rw [e]; rfl), K1.weaken fun p hp => ?_⟩
      obtain ⟨j, hj, hjn⟩ := hp
      exact ⟨by rw [hj]; simp; exact hjn, fun t _ => by rw [hj]; simp⟩
    · cases hr
  | cell b t =>
    simp only [resOne] at hr
    split at hr
    · rename_i ad had
      split at hr
      · rename_i cs hcs
        split at hr
        · rename_i hany
          split at hr
          · rename_i u ver off
            split at hr
            · rename_i bs d' hbs hof
              rw [Option.ite_none_left_eq_some] at hr
              obtain ⟨hnt, hr⟩ := hr
              cases hr
              obtain ⟨bb, off', hv, hlen, hcell⟩ := readD_rel h (lookO_vt h had (.air 0) rfl) hcs
              have hoff : off' = off := by
                obtain ⟨a0, e1, _, e2⟩ := (lookO_vt h had (.air 0) rfl : LpV G s.m u ver off _)
                have hver : ver = s.m.al u := by
                  simp only [readD] at hcs
                  rw [Option.ite_none_right_eq_some] at hcs
                  exact hcs.1
                rw [e2 hver, hv] at e1
                cases e1
                rfl
              subst hoff
              obtain ⟨_, td, ht⟩ := ofCells_has hof
              have hrun := run_loadAt (P := P) (w := w) H (b := bb) (o := off') ht (fun j hj => by
                obtain ⟨u, hu, _⟩ := hcell j (cs[j]'(by omega)) (List.getElem?_eq_getElem (by omega))
                exact ⟨u, hu⟩) (ofCells_one hof)
              obtain ⟨G1, r1, v1, K1⟩ := h.takeBox (N := n) H hcs hbs hof hlen (fun j d hd => by
                obtain ⟨v, hv, hc⟩ := hcell j d hd
                refine ⟨v, hv, ?_⟩
                have h2 := hc
                simp only [srcP, rootOf] at h2
                exact h2)
              refine ⟨_, G1, ?_, r1, v1, fun es e => hnt (by rw [e]; rfl), K1⟩
              have e1 : a.tmps.getD b undef = .pointer (some ⟨bb, off', none⟩) := hv
              simp only [resG, e1]
              simp only [Instr.loadAt, Instr.sureAddr, Sem.run_bind, Sem.run_pure, Result.andThen_ok] at hrun
              simp only [Sem.run_bind, asAddr, Sem.run_pure, Result.andThen_ok]
              exact hrun
            · cases hr
          · cases hr
        rename_i hno
        split at hr
        · rename_i d' hof
          rw [Option.ite_none_left_eq_some] at hr
          obtain ⟨hnt, hr⟩ := hr
          cases hr
          have hao : hasOwn ad = false := by
            unfold readD at hcs
            split at hcs <;> first | rfl | cases hcs
          obtain ⟨bb, off, hv, hlen, hcell⟩ := readD_rel h (lookO_vt h had (.air 0) hao) hcs
          obtain ⟨_, td, ht⟩ := ofCells_has hof
          have hrun := run_loadAt (P := P) (w := w) H (b := bb) (o := off) ht (fun j hj => by
            obtain ⟨u, hu, _⟩ := hcell j (cs[j]'(by omega)) (List.getElem?_eq_getElem (by omega))
            exact ⟨u, hu⟩) (ofCells_one hof)
          refine ⟨mkV L t (cellsAt w bb off (L.size t)), G, ?_, h, ?_, fun es e => hnt (by rw [e]; rfl), Keeps.refl _ _ _ _⟩
          · have e1 : a.tmps.getD b undef = .pointer (some ⟨bb, off, none⟩) := hv
            simp only [resG, e1]
            simp only [Instr.loadAt, Instr.sureAddr, Sem.run_bind, Sem.run_pure, Result.andThen_ok] at hrun
            simp only [Sem.run_bind, asAddr, Sem.run_pure, Result.andThen_ok]
            exact hrun
          · refine VT.any (r := .air n) (ofCells_vt hof (by rw [cellsAt_length, hlen]) fun j d u hd hu => ?_) ?_
            · obtain ⟨u', hu', hc⟩ := hcell j d hd
              have hj : j < L.size t := by rw [← hlen]; exact (List.getElem?_eq_some_iff.1 hd).1
              rw [cellsAt_get hj hu'] at hu
              cases hu
              refine hc.any ?_
              have := List.any_eq_false.1 (by simpa using hno) d (List.mem_of_getElem? hd)
              simpa using this
            · unfold ofCells at hof
              rw [Option.ite_none_right_eq_some] at hof
              obtain ⟨_, hof⟩ := hof
              have hno' : cs.any isOwn = false := by simpa using hno
              split at hof
              · cases hof; exact hno'
              · split at hof
                · rename_i c
                  cases hof
                  simp only [List.any_cons, List.any_nil, Bool.or_false] at hno'
                  cases d with
                  | agg es =>
                    rename_i hcs2 _ _
                    exfalso
                    obtain ⟨u, _, hc⟩ := hcell 0 (.agg es) rfl
                    exact hc
                  | tup es => exact absurd rfl hnt
                  | _ => exact hno'
                · cases hof
        · cases hr
      · cases hr
    · cases hr

theorem resL_rel (H : LyOK P L) : ∀ {xs : List ResultVar} {ds : List D} {G : Gh} {s s1 : DS}, Rel X G s a w → resL L X.ro s xs = some (ds, s1) → ∀ n : Nat,
    ∃ vs G1, (xs.mapM (resG a.tmps)).run P w = .ok vs w ∧ Rel X G1 s1 a w ∧ vs.length = ds.length ∧ ds.length = xs.length ∧ (∀ d, d ∈ ds → ∀ es, d ≠ .tup es) ∧ (∀ (k : Nat) (d : D) (v : Value), ds[k]? = some d → vs[k]? = some v → VT w G1 s1.m (.air (n + k)) d v) ∧ Keeps w G s.m w G1 s1.m (fun p => ∃ j, p.r = .air j ∧ (j < n ∨ n + xs.length ≤ j))
  | [], ds, G, s, s1, h, ht, n => by
    simp [resL] at ht
    obtain ⟨rfl, rfl⟩ := ht
    exact ⟨[], G, by simp, h, rfl, rfl, fun d hd => (nomatch hd), fun k d x hd => by simp at hd, Keeps.refl _ _ _ _⟩
  | x :: xs, ds, G, s, s1, h, ht, n => by
    simp only [resL] at ht
    split at ht
    · rename_i d s2 h1
      split at ht
      · rename_i ds' s3 h2
        cases ht
        obtain ⟨v, G1, q1, r1, v1, nt1, k1⟩ := resOne_rel H h h1 n
        obtain ⟨vs, G2, q2, r2, l2, l3, t2, v2, k2⟩ := resL_rel H r1 h2 (n + 1)
        refine ⟨v :: vs, G2, ?_, r2, by simp [l2], by simp [l3], fun d' hd' => ?_, fun k d' x' hd hx => ?_, ?_⟩
        · simp only [List.mapM_cons, Sem.run_bind, q1, Result.andThen_ok, q2, Sem.run_pure]
        · rcases List.mem_cons.1 hd' with rfl | hd'
          · exact nt1
          · exact t2 d' hd'
        · cases k with
          | zero =>
            simp at hd hx
            subst hd; subst hx
            exact k2.vt (fun i q j c _ _ _ => ⟨n, rfl, .inl (by omega)⟩) v1
          | succ k =>
            simp at hd hx
            have := v2 k d' x' hd hx
            rwa [show n + 1 + k = n + (k + 1) by omega] at this
        · refine (k1.trans k2).weaken fun p hp => ?_
          obtain ⟨j, hj, hjn⟩ := hp
          simp at hjn
          exact ⟨⟨j, hj, by omega⟩, j, hj, by omega⟩
      · cases ht
    · cases ht

theorem resD_rel (H : LyOK P L) (h : Rel X G s a w) {fn : Func} {d : D} (hr : resD L X.ro s fn.results.toList = some (d, s1)) :
    ∃ v G', (results fn a.tmps).run P w = .ok v w ∧ Rel X G' s1 a w ∧ VT w G' s1.m (.air 0) d v := by
  unfold resD at hr
  have hrun : ∀ vs : List Value, (fn.results.toList.mapM (resG a.tmps)).run P w = .ok vs w → (results fn a.tmps).run P w = .ok (if h : vs.toArray.size = 1 then vs.toArray[0] else .tuple vs.toArray) w := by
    intro vs hvs
    unfold results
    simp only [Array.mapM_eq_mapM_toList, Sem.run_bind]
    have e3 : ∀ g : ResultVar → Sem Value, (∀ x, g x = resG a.tmps x) → (fn.results.toList.mapM g).run P w = .ok vs w := fun g hg => by
      rw [show g = resG a.tmps from funext hg]
      exact hvs
    rw [Sem.run_map, e3 _ (fun x => by cases x <;> rfl)]
    rfl
  split at hr
  · rename_i d' s' hl
    cases hr
    obtain ⟨vs, G1, q1, r1, l1, l2, t1, v1, _⟩ := resL_rel H h hl 0
    obtain ⟨v, rfl⟩ := List.length_eq_one_iff.1 (show vs.length = 1 by rw [l1]; rfl)
    exact ⟨v, G1, by rw [hrun _ q1]; rfl, r1, v1 0 d v rfl rfl⟩
  · rename_i ds s' hne hl
    cases hr
    obtain ⟨vs, G1, q1, r1, l1, l2, t1, v1, _⟩ := resL_rel H h hl 1
    obtain ⟨G2, r2, v2, _⟩ := tupL ds vs G1 1 0 r1 (by omega) (fun j d u hd hu => ⟨v1 j d u hd hu, t1 d (List.mem_of_getElem? hd)⟩)
    have hsz : vs.toArray.size ≠ 1 := by
      simp only [List.size_toArray]
      rw [l1]
      intro e
      obtain ⟨d0, rfl⟩ := List.length_eq_one_iff.1 e
      exact hne d0 rfl
    have hr2 := hrun _ q1
    rw [dif_neg hsz] at hr2
    refine ⟨_, G2, hr2, r2, ⟨_, rfl, l1, fun i d u hd hu => ?_⟩⟩
    have := v2 i d u hd hu
    rwa [Nat.zero_add] at this
  · cases hr

noncomputable def num : Nat → List D → List (Nat × D)
  | _, [] => []
  | k, d :: r => (k, d) :: num (k + 1) r
theorem lk_num : ∀ (ds : List D) (k t : Nat), lk t (num k ds) = if k ≤ t then ds[t - k]? else none
  | [], k, t => by simp [num, lk_nil]
  | d :: r, k, t => by
    simp only [num, lk_cons]
    by_cases h : k = t
    · subst h
      simp
    · rw [if_neg h, lk_num r]
      by_cases h2 : k ≤ t
      · rw [if_pos h2, if_pos (by omega)]
        obtain ⟨j, rfl⟩ : ∃ j, t = k + 1 + j := ⟨t - (k + 1), by omega⟩
        rw [show k + 1 + j - (k + 1) = j by omega, show k + 1 + j - k = j + 1 by omega]
        rfl
      · rw [if_neg h2, if_neg (by omega)]

noncomputable def m0 (ro : Nat) : Mt := ⟨⟨[]⟩, ⟨[]⟩, ⟨[]⟩, 0, 0, ro⟩
noncomputable def s0 (ro : Nat) (args : List D) (sto : List Ob) : DS := ⟨num 0 args, [], sto, m0 ro⟩
noncomputable def Frm (n : Nat) (vs : List Value) : Act := ⟨vs.toArray ++ Array.replicate (n - vs.length) undef, []⟩

noncomputable def Tri (P : Program) (f ro : Nat) (args : List D) (sto : List Ob) (R : D → List Ob → Prop) : Prop :=
  ∃ fn, P.funcs[f]? = some fn ∧ (fn.body.isNone = false ∧ (fn.name == "runtime.NumGoroutine") = false) ∧ args.length ≤ fn.ntmps ∧ ro ≤ sto.length ∧ ∀ (G0 : Gh) (w : World) (vs : List Value), vs.length = args.length →
    Rel ⟨fn.ntmps, ro, sto.length, w, G0, []⟩ G0 (s0 ro args sto) (Frm fn.ntmps vs) w →
    Calls P f vs.toArray w fun e w' => match e with
      | .returned v => ∃ d s' G' a', R d s'.sto ∧ Rel ⟨fn.ntmps, ro, sto.length, w, G0, []⟩ G' s' a' w' ∧ VT w' G' s'.m (.air 0) d v
      | _ => False

theorem Tri.mono {f ro : Nat} {args : List D} {sto : List Ob} {R R' : D → List Ob → Prop} (h : Tri P f ro args sto R) (hr : ∀ d l, R d l → R' d l) : Tri P f ro args sto R' := by
  obtain ⟨fn, h1, h2, h3, h4, h5⟩ := h
  refine ⟨fn, h1, h2, h3, h4, fun G0 w vs hl hR => (h5 G0 w vs hl hR).mono fun e w' he => ?_⟩
  cases e with
  | returned v => obtain ⟨d, s', G', a', q1, q2⟩ := he; exact ⟨d, s', G', a', hr _ _ q1, q2⟩
  | panicked c => exact he.elim
  | outgrown => exact he.elim

theorem Tri.of_ok {f ro : Nat} {args : List D} {sto : List Ob} {R : D → List Ob → Prop} {fn : Func} {code : Code} {L : Ly} {c : FC} (H : LyOK P L) (hf : P.funcs[f]? = some fn) (hb : fn.body = some code) (hn : (fn.name == "runtime.NumGoroutine") = false) (hc : c.n = fn.ntmps ∧ c.kp = []) (hl : args.length ≤ fn.ntmps) (hro : ro ≤ sto.length)
    (h : Ok P ⟨L, c, ro, sto.length⟩ code (s0 ro args sto) (fun x s' => match x with
      | .out _ => False
      | _ => ∃ d s'', resD L ro s' fn.results.toList = some (d, s'') ∧ R d s''.sto)) : Tri P f ro args sto R := by
  refine ⟨fn, hf, ⟨by rw [hb]; rfl, hn⟩, hl, hro, fun G0 w vs hvl hR => ?_⟩
  refine calls_of_wp hf hb ?_
  have := h ⟨fn.ntmps, ro, sto.length, w, G0, []⟩ G0 (Frm fn.ntmps vs) w ⟨hc.1, rfl, rfl, hc.2⟩ hR
  have e : (⟨vs.toArray ++ Array.replicate (fn.ntmps - vs.toArray.size) undef, []⟩ : Act) = Frm fn.ntmps vs := by simp [Frm]
  rw [e]
  refine wp_mono this ?_
  rintro e a' w' ⟨x, s', G', h1, h2, h3⟩
  subst h1
  have fin : (∃ d s'', resD L ro s' fn.results.toList = some (d, s'') ∧ R d s''.sto) → a'.defers = [] ∧ ∃ v, (results fn a'.tmps).run P w' = .ok v w' ∧ ∃ d s' G' a', R d s'.sto ∧ Rel ⟨fn.ntmps, ro, sto.length, w, G0, []⟩ G' s' a' w' ∧ VT w' G' s'.m (.air 0) d v := by
    rintro ⟨d, s'', q1, q2⟩
    obtain ⟨v, G2, r1, r2, r3⟩ := resD_rel (P := P) H h3 q1
    exact ⟨h3.defers, v, r1, d, s'', G2, a', q2, r2, r3⟩
  cases x with
  | nx => exact fin h2
  | ret => exact fin h2
  | out id => exact h2.elim
end

end Go.Lv

namespace Go.Lv

noncomputable def cellsOK (d : D) : Bool := !isTup d && (cellsD d).all stoC
noncomputable def partsOK : D → Bool
  | .tup ds => ds.all cellsOK
  | d => cellsOK d
noncomputable def isDead : D → Bool
  | .dead => true
  | _ => false
noncomputable def boxOK : Ob → Bool
  | .box cs => cs.all fun c => stoC c || isDead c
  | .map _ => true
noncomputable def boxIm : Ob → Bool
  | .box cs => cs.all rowC
  | .map _ => true
noncomputable def stoOK (ro r : Nat) (sto : List Ob) : Bool := ((sto.take r).drop ro).all boxIm && (sto.drop r).all boxOK

noncomputable def hadOwn (ds : List D) : Bool := ds.any hasOwn
noncomputable def callM (m : Mt) (pu own : Bool) : Mt := { m with era := if pu then m.era else m.era + 1, ep := if pu && !own then m.ep else m.ep + 1 }
noncomputable def afterC (s1 : DS) (r : Nat) (ds : List D) (sto : List Ob) : DS := { s1 with sto, m := callM s1.m (sto.length == r) (hadOwn ds) }

noncomputable def intoOwn (n r l : Nat) : Option Owner → Option Owner
  | some (.lst p) => match p.r with
    | .air k => if 1 ≤ k ∧ k ≤ n then some (.lst ⟨.slot (k - 1), p.i, p.j⟩) else none
    | .gbox k => if r ≤ k ∧ k < l then some (.lst p) else none
    | _ => none
  | some (.box (.gbox k)) => if r ≤ k ∧ k < l then some (.box (.gbox k)) else none
  | _ => none
noncomputable def Gh.into (G : Gh) (n r l : Nat) : Gh :=
  { G with
    own := fun b => intoOwn n r l (G.own b)
    pl := fun p => match p.r with
      | .slot t => G.pl ⟨.air (t + 1), p.i, p.j⟩
      | _ => G.pl p }
noncomputable def backOwn : Option Owner → Option Owner
  | some (.lst p) => match p.r with
    | .air 0 => some (.lst p)
    | .gbox _ => some (.lst p)
    | _ => none
  | some (.box (.gbox k)) => some (.box (.gbox k))
  | _ => none
noncomputable def Gh.back (G G' : Gh) (n r l sz : Nat) (pu : Bool) : Gh :=
  open Classical in
  { be := G'.be
    la := G.la
    own := fun b => if b < sz ∧ intoOwn n r l (G.own b) = none then G.own b else backOwn (G'.own b)
    fin := fun b => if b < sz ∧ intoOwn n r l (G.own b) = none then G.fin b else G'.fin b
    st := fun b e => if b < sz ∧ intoOwn n r l (G.own b) = none then G.st b e else G'.st b e
    pl := fun p => match p.r with
      | .air 0 => G'.pl p
      | .gbox k => if k < r ∨ pu = true then G.pl p else G'.pl p
      | _ => G.pl p }

section
variable {P : Program} {T : St} {X : Ctx} {G G1 G' : Gh} {s s' s1 : DS} {a a' : Act} {w w' : World} {Q Q' : Ex → DS → Prop} {K K' : DS → Prop} {o : Oper} {ops : Array Oper} {m m' : Mt}

theorem run_call {x : Operand} {args : Array Operand} {tys : Array TypeId} (ho : o.op = .call { callee := .value x, args, argTypes := tys }) {f : Nat} {caps : Array Value} (hx : a.eval x = .func (.func f) #[] caps) {fn : Func} (hf : P.funcs[f]? = some fn) (hb : fn.body.isNone = false) (hn : (fn.name == "runtime.NumGoroutine") = false) :
    (execOp a.eval o).run P w = .ok (.enter f (args.map a.eval ++ caps)) w := by
  have hb' : fn.body ≠ none := by intro e; rw [e] at hb; cases hb
  have hn' : ¬ fn.name = "runtime.NumGoroutine" := by simpa using hn
  simp [execOp, ho, resolve, Deferred.ofValue, hx, invoke, callFunc, hf, hb', hn']

theorem into_vc {n r l t i j : Nat} {d : D} {v : Value} (ht : isOwn d = true → t < n) (hd : stoC d = true) (h : VC w G m ⟨.air (t + 1), i, j⟩ d v) : VC w (G.into n r l) (m0 r) ⟨.slot t, i, j⟩ d v := by
  by_cases hro : rowC d = true
  · have hi := vc_rowC h hro
    cases d with
    | list q xs => cases q <;> first | exact hi | simp [rowC] at hro
    | _ => first | exact hi | simp [rowC] at hro
  · cases d with
    | list q xs =>
      cases q with
      | own sz =>
        rcases h with h | ⟨hz, b, off, cap, rfl, hc, ho, hf, hpl, hcell, hrows⟩
        · exact .inl h
        · refine .inr ⟨hz, b, off, cap, rfl, hc, ?_, hf, hpl, hcell, hrows⟩
          show intoOwn n r l (G.own b) = _
          rw [ho]
          simp only [intoOwn]
          have := ht rfl
          rw [if_pos ⟨by omega, by omega⟩]
          simp
      | _ => simp [stoC, rowC] at hd hro
    | _ => simp_all [stoC]

theorem into_vt {n r l t : Nat} {d : D} {v : Value} (ht : hasOwn d = true → t < n) (hd : cellsOK d = true) (h : VT w G m (.air (t + 1)) d v) : VT w (G.into n r l) (m0 r) (.slot t) d v := by
  simp only [cellsOK, Bool.and_eq_true, Bool.not_eq_true'] at hd
  obtain ⟨hnt, hall⟩ := hd
  have hnt' : ∀ es, d ≠ .tup es := by rintro es rfl; simp [isTup] at hnt
  rw [VT_part hnt'] at h ⊢
  cases d with
  | agg cs =>
    obtain ⟨vs, rfl, hl, h1⟩ := h
    exact ⟨vs, rfl, hl, fun j d u hd hu => into_vc (fun ho => ht (List.any_eq_true.2 ⟨d, List.mem_of_getElem? hd, ho⟩)) (List.all_eq_true.1 hall d (List.mem_of_getElem? hd)) (h1 j d u hd hu)⟩
  | tup ds => exact absurd rfl (hnt' ds)
  | _ =>
    rw [VP_cell (by intro cs e; cases e)] at h ⊢
    exact into_vc (fun ho => ht ho) (by simpa [cellsD] using hall) h

theorem box_im {r : Root} {b : Nat} {cs : List D} (h : BoxV w G m r b cs) (hc : cs.all rowC = true) : ∀ (j : Nat) (d : D), cs[j]? = some d → ∃ u, w.cell? ⟨b, j, none⟩ = some u ∧ Imm w G.be G.st (fz d) u := by
  intro j d hd
  obtain ⟨u, h1, _, h3⟩ := h j d hd
  have hr := List.all_eq_true.1 hc d (List.mem_of_getElem? hd)
  have : fz d = d := by
    cases d with
    | list q xs => cases q <;> first | rfl | simp [rowC] at hr
    | _ => rfl
  rw [this]
  exact ⟨u, h1, vc_rowC h3 hr⟩

theorem into_box {n r l k : Nat} {b : Nat} {cs : List D} (hk : r ≤ k ∧ k < l) (hc : (cs.all fun c => stoC c || isDead c) = true) (h : BoxV w G m (.gbox k) b cs) : BoxV w (G.into n r l) (m0 r) (.gbox k) b cs := by
  intro j d hd
  obtain ⟨u, h1, h2, h3⟩ := h j d hd
  refine ⟨u, h1, h2, ?_⟩
  have hr := List.all_eq_true.1 hc d (List.mem_of_getElem? hd)
  by_cases hro : rowC d = true
  · have hi := vc_rowC h3 hro
    cases d with
    | list q xs => cases q <;> first | exact hi | simp [rowC] at hro
    | _ => first | exact hi | simp [rowC] at hro
  · cases d with
    | list q xs =>
      cases q with
      | own sz =>
        rcases h3 with h3 | ⟨hz, b, off, cap, rfl, hc, ho, hf, hpl, hcell, hrows⟩
        · exact .inl h3
        · refine .inr ⟨hz, b, off, cap, rfl, hc, ?_, hf, hpl, hcell, hrows⟩
          show intoOwn n r l (G.own b) = _
          rw [ho]
          simp only [intoOwn]
          rw [if_pos hk]
      | _ => simp [stoC, rowC, isDead] at hr hro
    | dead => exact h3
    | _ => simp_all [stoC, rowC, isDead]

theorem Rel.start (h : Rel X G s a w) {r n : Nat} {ds caps : List D} {vs cvs : List Value} (hr1 : X.ro ≤ r) (hr2 : r ≤ s.sto.length) (hok : stoOK X.ro r s.sto = true) (hds : ds.all cellsOK = true) (hl : vs.length = ds.length) (hv : ∀ (k : Nat) (d : D) (v : Value), ds[k]? = some d → vs[k]? = some v → VT w G s.m (.air (k + 1)) d v)
    (hcl : cvs.length = caps.length) {nt : Nat} (hnt : hadOwn ds = true → n = ds.length) (hc : ∀ (k : Nat) (d : D) (v : Value), caps[k]? = some d → cvs[k]? = some v → Imm w G.be G.st d v) (hn : (ds ++ caps).length ≤ nt) :
    Rel ⟨nt, r, s.sto.length, w, G.into n r s.sto.length, []⟩ (G.into n r s.sto.length) (s0 r (ds ++ caps) s.sto) (Frm nt (vs ++ cvs)) w := by
  have hvl : (vs ++ cvs).length ≤ nt := by rw [List.length_append] at hn ⊢; omega
  simp only [stoOK, Bool.and_eq_true] at hok
  obtain ⟨hok1, hok2⟩ := hok
  refine { size := by simp only [Frm, Array.size_append, List.size_toArray, Array.size_replicate]; omega, defers := rfl, env := fun t d ht => ?_, loc := fun t cs ht => by simp [s0, lk_nil] at ht, sto := fun k o hk => ?_, be := h.be, new := fun b hb => ?_, stow := fun b e he => ?_, std := h.std, old := fun b hb h0 => ⟨rfl, h0, fun e he => he⟩, os := rfl, tape := rfl, output := rfl, grow := Nat.le_refl _, ro := hr2, rom := rfl, be0 := fun _ _ => rfl, n0 := Nat.le_refl _, la0 := fun t ht => nomatch ht }
  · have ht' : lk t (num 0 (ds ++ caps)) = some d := ht
    rw [lk_num] at ht'
    simp only [Nat.zero_le, if_true, Nat.sub_zero] at ht'
    have hlt : t < (vs ++ cvs).length := by
      have := (List.getElem?_eq_some_iff.1 ht').1
      rw [List.length_append] at this ⊢
      omega
    have hg : (Frm nt (vs ++ cvs)).tmps.getD t undef = (vs ++ cvs)[t] := by
      simp only [Frm, Array.getD_eq_getD_getElem?]
      rw [Array.getElem?_append_left (by simpa using hlt)]
      simp only [List.getElem?_toArray]
      rw [List.getElem?_eq_getElem hlt]
      rfl
    rw [hg]
    by_cases h1 : t < ds.length
    · rw [List.getElem?_append_left h1] at ht'
      rw [List.getElem_append_left (by omega)]
      exact into_vt (fun ho => by rw [hnt (List.any_eq_true.2 ⟨d, List.mem_of_getElem? ht', ho⟩)]; exact h1) (List.all_eq_true.1 hds d (List.mem_of_getElem? ht')) (hv t d _ ht' (List.getElem?_eq_getElem (by omega)))
    · rw [List.getElem?_append_right (by omega)] at ht'
      rw [List.getElem_append_right (by omega)]
      have hlt2 : t - vs.length < cvs.length := by rw [List.length_append] at hlt; omega
      have hi := hc (t - ds.length) d (cvs[t - vs.length]) ht' (by rw [← hl]; exact List.getElem?_eq_getElem hlt2)
      have : VC w (G.into n r s.sto.length) (m0 r) ⟨.slot t, 0, 0⟩ d (cvs[t - vs.length]) := by
        cases d with
        | list q xs => cases q <;> first | exact hi | cases hi
        | _ => first | exact hi | cases hi
      rw [VT_part this.plain.2, VP_cell this.plain.1]
      exact this
  · have hk' : s.sto[k]? = some o := hk
    obtain ⟨b, h1, h2, h3, h4⟩ := h.sto k o hk'
    refine ⟨b, h1, ?_, h3, ?_⟩
    · show if k < r then intoOwn _ _ _ (G.own b) = none else intoOwn _ _ _ (G.own b) = _
      by_cases hkr : k < r
      · rw [if_pos hkr]
        split at h2
        · rw [h2]; rfl
        · rw [h2]
          simp only [intoOwn]
          rw [if_neg (by omega)]
      · rw [if_neg hkr]
        rw [if_neg (by omega)] at h2
        rw [h2]
        simp only [intoOwn]
        have hlt := (List.getElem?_eq_some_iff.1 hk').1
        rw [if_pos ⟨by omega, hlt⟩]
    · cases o with
      | map es => exact h4
      | box cs =>
        simp only [ObV] at h4 ⊢
        by_cases hk0 : k < X.ro
        · rw [if_pos hk0] at h4
          rw [if_pos (by omega)]
          exact h4
        · rw [if_neg hk0] at h4
          by_cases hkr : k < r
          · rw [if_pos hkr]
            have hmem : Ob.box cs ∈ (s.sto.take r).drop X.ro := by
              refine List.mem_of_getElem? (i := k - X.ro) ?_
              rw [List.getElem?_drop, show X.ro + (k - X.ro) = k by omega, List.getElem?_take, if_pos hkr]
              exact hk'
            have := box_im h4 (List.all_eq_true.1 hok1 _ hmem)
            exact this
          · rw [if_neg hkr]
            have hlt := (List.getElem?_eq_some_iff.1 hk').1
            refine into_box ⟨by omega, hlt⟩ ?_ h4
            have : Ob.box cs ∈ s.sto.drop r := by
              refine List.mem_of_getElem? (i := k - r) ?_
              rw [List.getElem?_drop, show r + (k - r) = k by omega]
              exact hk'
            exact List.all_eq_true.1 hok2 _ this
  · obtain ⟨h1, h2⟩ := h.new b hb
    exact ⟨by show intoOwn _ _ _ (G.own b) = none; rw [h1]; rfl, h2⟩
  · show intoOwn _ _ _ (G.own b) = none
    rw [h.stow b e he]
    rfl

theorem heap_cell {b : Nat} (h : w'.heap[b]? = w.heap[b]?) (o : Nat) : w'.cell? ⟨b, o, none⟩ = w.cell? ⟨b, o, none⟩ ∧ w'.frozen? ⟨b, o, none⟩ = w.frozen? ⟨b, o, none⟩ := by
  unfold World.cell? World.frozen?
  rw [h]
  exact ⟨rfl, rfl⟩

noncomputable def stays (r : Nat) (p : Place) : Prop := match p.r with
  | .air _ => False
  | .gbox k => k < r
  | _ => True

theorem callM_rv (m : Mt) (pu own : Bool) (r : Root) : m.rv r ≤ (callM m pu own).rv r := by
  cases r <;> simp [Mt.rv, callM]
  cases pu <;> simp

theorem into_none {n r l : Nat} {b : Nat} {p : Place} (h : G.own b = some (.lst p)) (hs : stays r p) : intoOwn n r l (G.own b) = none := by
  rw [h]
  unfold stays at hs
  simp only [intoOwn]
  split
  · rename_i e; rw [e] at hs; exact hs.elim
  · rename_i e; rw [e] at hs; simp only at hs; rw [if_neg (by omega)]
  · rfl

section
variable {n r nt l : Nat} {pu : Bool} (h : Rel X G1 s1 a w) (h' : Rel ⟨nt, r, l, w, G1.into n r l, []⟩ G' s' a' w') (hll : l = s1.sto.length)
include h h' hll

theorem back_old {b : Nat} (hb : b < w.heap.size) (h0 : intoOwn n r l (G1.own b) = none) : w'.heap[b]? = w.heap[b]? ∧ G'.own b = none ∧ ∀ e, G'.st b e → G1.st b e :=
  h'.old b hb h0

theorem back_st {b e : Nat} (hs : G'.st b e) : (Gh.back G1 G' n r l w.heap.size pu).st b e := by
  simp only [Gh.back]
  split
  · rename_i hc
    exact (back_old h h' hll hc.1 hc.2).2.2 e hs
  · exact hs

theorem back_imm {d : D} {v : Value} (hi : Imm w' G'.be G'.st d v) : Imm w' (Gh.back G1 G' n r l w.heap.size pu).be (Gh.back G1 G' n r l w.heap.size pu).st d v :=
  hi.mono (fun _ _ h => h) (fun b e hs => back_st h h' hll hs) (fun _ _ _ _ _ => rfl)

theorem back_vc {p : Place} (hp : p.r = .air 0 ∨ ∃ k, p.r = .gbox k ∧ r ≤ k ∧ pu = false) {d : D} (hd : (stoC d || isDead d) = true) {v : Value} {m2 : Mt} (hv : VC w' G' s'.m p d v) : VC w' (Gh.back G1 G' n r l w.heap.size pu) m2 p d v := by
  by_cases hro : rowC d = true
  · have hi := back_imm (pu := pu) h h' hll (vc_rowC hv hro)
    cases d with
    | list q xs => cases q <;> first | exact hi | simp [rowC] at hro
    | _ => first | exact hi | simp [rowC] at hro
  · cases d with
    | list q xs =>
      cases q with
      | own sz =>
        rcases hv with hv | ⟨hz, b, off, cap, rfl, hc, ho, hf, hpl, hcell, hrows⟩
        · exact .inl hv
        · have hnot : ¬ (b < w.heap.size ∧ intoOwn n r l (G1.own b) = none) := by
            rintro ⟨q1, q2⟩
            have := (back_old h h' hll q1 q2).2.1
            rw [ho] at this
            cases this
          refine .inr ⟨hz, b, off, cap, rfl, hc, ?_, ?_, ?_, hcell, hrows.mono (fun _ _ h => h) (fun b e hs => back_st h h' hll hs) (fun _ _ _ _ _ => rfl) (fun _ _ => rfl)⟩
          · simp only [Gh.back]
            rw [if_neg hnot, ho]
            rcases hp with hp | ⟨k, hp, _⟩ <;> simp only [backOwn, hp]
          · simp only [Gh.back]
            rw [if_neg hnot]
            exact hf
          · rw [← hpl]
            rcases hp with hp | ⟨k, hp, hk, hpu⟩ <;> simp only [Gh.back, hp]
            rw [if_neg (by rw [hpu]; simp; omega)]
      | _ => simp [stoC, rowC, isDead] at hd hro
    | dead => exact hv
    | _ => simp_all [stoC, rowC, isDead]

theorem back_keeps {own : Bool} (hpu : pu = true → l ≤ r) (hown : own = false → n = 0) : Keeps w G1 s1.m w' (Gh.back G1 G' n r l w.heap.size pu) (callM s1.m pu own) (stays r) where
  be := fun k b hb => by
    have hlt : k < s1.sto.length := by
      refine Nat.lt_of_not_le fun hk => ?_
      rw [h.be k hk] at hb
      cases hb
    show G'.be k = some b
    rw [h'.be0 k (by show k < l; omega)]
    exact hb
  st := fun b e hs => by
    have h0 := h.stow b e hs
    simp only [Gh.back]
    rw [if_pos ⟨h.stLt hs, by rw [h0]; rfl⟩]
    exact hs
  cell := fun b e o hs _ => by
    have h0 := h.stow b e hs
    unfold World.cell?
    rw [(back_old h h' hll (h.stLt hs) (by rw [h0]; rfl)).1]
  ep := by simp only [callM]; split <;> omega
  rv := callM_rv _ _ _
  al := fun _ => Nat.le_refl _
  era := by simp only [callM]; split <;> omega
  rd := fun he b e hr => by
    have hc : pu = true ∧ own = false := by
      simp only [callM] at he
      split at he
      · rename_i q; simpa using q
      · omega
    have h0 : intoOwn n r l (G1.own b) = none := by
      rcases hr with hr | ⟨⟨p, hp⟩, _⟩
      · rw [h.stow b e hr]; rfl
      · rw [hp]
        simp only [intoOwn]
        split
        · rename_i k e1
          have := hown hc.2
          rw [if_neg (by omega)]
        · rename_i k e1
          have := hpu hc.1
          rw [if_neg (by omega)]
        · rfl
    have hb : b < w.heap.size := by
      rcases hr with hr | ⟨⟨p, hp⟩, _⟩
      · exact h.stLt hr
      · exact h.ownLt hp
    refine ⟨?_, fun o _ => by unfold World.cell?; rw [(back_old h h' hll hb h0).1]⟩
    rcases hr with hr | ⟨⟨p, hp⟩, hn⟩
    · left
      simp only [Gh.back]
      rw [if_pos ⟨hb, h0⟩]
      exact hr
    · right
      simp only [Gh.back]
      rw [if_pos ⟨hb, h0⟩, if_pos ⟨hb, h0⟩]
      exact ⟨⟨p, hp⟩, hn⟩
  pl := fun p ha hv => by
    obtain ⟨pr, i, j⟩ := p
    cases pr with
    | air k => cases ha
    | gbox k =>
      simp only [Gh.back]
      have hp : pu = true := by
        cases pu with
        | true => rfl
        | false => simp [Mt.rv, callM] at hv
      rw [if_pos (.inr hp)]
    | slot t => rfl
    | lbox t => rfl
  la := fun _ _ => rfl
  own := fun b p hs ho => by
    have h0 := into_none (n := n) (l := l) ho hs
    have hb := h.ownLt ho
    refine ⟨?_, ?_, fun o => ?_⟩
    · simp only [Gh.back]
      rw [if_pos ⟨hb, h0⟩]
      exact ho
    · simp only [Gh.back]
      rw [if_pos ⟨hb, h0⟩]
    · unfold World.cell? World.frozen?
      rw [(back_old h h' hll hb h0).1]
      exact ⟨rfl, rfl⟩
  opl := fun p hs => by
    obtain ⟨pr, i, j⟩ := p
    cases pr with
    | air k => exact hs.elim
    | gbox k =>
      have hk : k < r := hs
      simp only [Gh.back]
      rw [if_pos (.inl hk)]
    | slot t => rfl
    | lbox t => rfl
  mp := fun he k b es clock hb hh => by
    have hp : pu = true := by
      cases pu with
      | true => rfl
      | false => simp [callM] at he
    have hlt : k < s1.sto.length := by
      refine Nat.lt_of_not_le fun hk => ?_
      rw [h.be k hk] at hb
      cases hb
    obtain ⟨b', e1, e2, e3, _⟩ := h.sto k _ (List.getElem?_eq_getElem hlt)
    rw [hb] at e1
    cases e1
    have h0 : intoOwn n r l (G1.own b) = none := by
      split at e2
      · rw [e2]; rfl
      · rw [e2]
        simp only [intoOwn]
        have := hpu hp
        rw [if_neg (by omega)]
    exact ⟨es, clock, by rw [(back_old h h' hll e3 h0).1]; exact hh, fun i x hx => ⟨x, hx, rfl⟩⟩

theorem Rel.back (hTX : X.ro ≤ r) {own : Bool} (hrl : r ≤ l) (hpu : pu = (s'.sto.length == r)) (hown : own = false → n = 0) (hpre : ∀ k, k < r → s'.sto[k]? = s1.sto[k]?) (hbx : (s'.sto.drop r).all boxOK = true) :
    Rel X (Gh.back G1 G' n r l w.heap.size pu) { s1 with sto := s'.sto, m := callM s1.m pu own } a w' := by
  have hlen : l ≤ s'.sto.length := h'.n0
  have hpu' : pu = true → l ≤ r := by
    intro e
    rw [hpu] at e
    have : s'.sto.length = r := by simpa using e
    omega
  have K := back_keeps h h' hll (pu := pu) hpu' hown
  have hkl : ∀ k, k < l → G'.be k = G1.be k := fun k hk => h'.be0 k hk
  refine { size := h.size, defers := h.defers, env := fun t d ht => K.vt (fun i q j c _ _ _ => by simp [stays]) (h.env t d ht), loc := fun t cs ht => ?_, sto := fun k o hk => ?_, be := h'.be, new := fun b hb => ?_, stow := fun b e he => ?_, std := fun b e e' he hee => ?_, old := fun b hb h0 => ?_, os := h'.os.trans h.os, tape := h'.tape.trans h.tape, output := h'.output.trans h.output, grow := Nat.le_trans h.grow h'.grow, ro := ?_, rom := h.rom, be0 := fun k hk => ?_, n0 := ?_, la0 := h.la0 }
  · obtain ⟨h1, h2⟩ := h.loc t cs ht
    have hb := h.ownLt h1
    have h0 : intoOwn n r l (G1.own (G1.la t)) = none := by rw [h1]; rfl
    refine ⟨?_, K.box (fun j c _ _ => by simp [stays]) (fun o => ?_) h2⟩
    · show (if _ then G1.own (G1.la t) else _) = _
      rw [if_pos ⟨hb, h0⟩]
      exact h1
    · exact heap_cell (back_old h h' hll hb h0).1 o
  · have hk' : s'.sto[k]? = some o := hk
    by_cases hkr : k < r
    · rw [hpre k hkr] at hk'
      obtain ⟨b, h1, h2, h3, h4⟩ := h.sto k o hk'
      have h0 : intoOwn n r l (G1.own b) = none := by
        split at h2
        · rw [h2]; rfl
        · rw [h2]
          simp only [intoOwn]
          rw [if_neg (by omega)]
      have hheap := (back_old h h' hll h3 h0).1
      refine ⟨b, K.be k b h1, ?_, Nat.lt_of_lt_of_le h3 h'.grow, ?_⟩
      · show if k < X.ro then (if _ then G1.own b else _) = none else (if _ then G1.own b else _) = _
        have e1 : (if b < w.heap.size ∧ intoOwn n r l (G1.own b) = none then G1.own b else backOwn (G'.own b)) = G1.own b := if_pos ⟨h3, h0⟩
        rw [e1]
        exact h2
      · cases o with
        | map es =>
          obtain ⟨arr, clock, q1, q2⟩ := h4
          exact ⟨arr, clock, by rw [hheap]; exact q1, q2⟩
        | box cs =>
          simp only [ObV] at h4 ⊢
          split <;> rename_i hk0
          · rw [if_pos hk0] at h4
            intro j d hd
            obtain ⟨u, h5, h6⟩ := h4 j d hd
            exact ⟨u, by rw [(heap_cell hheap j).1]; exact h5, K.imm h6⟩
          · rw [if_neg hk0] at h4
            exact K.box (fun j c _ _ => hkr) (fun o => heap_cell hheap o) h4
    · obtain ⟨b, h1, h2, h3, h4⟩ := h'.sto k o hk'
      rw [if_neg hkr] at h2
      have hpf : pu = false := by
        rw [hpu]
        have := (List.getElem?_eq_some_iff.1 hk').1
        simp
        omega
      have hnot : ¬ (b < w.heap.size ∧ intoOwn n r l (G1.own b) = none) := by
        rintro ⟨q1, q2⟩
        have := (back_old h h' hll q1 q2).2.1
        rw [h2] at this
        cases this
      refine ⟨b, h1, ?_, h3, ?_⟩
      · rw [if_neg (show ¬ k < X.ro by omega)]
        show (if _ then _ else backOwn (G'.own b)) = _
        rw [if_neg hnot, h2]
        rfl
      · cases o with
        | map es => exact h4
        | box cs =>
          simp only [ObV] at h4 ⊢
          rw [if_neg hkr] at h4
          rw [if_neg (show ¬ k < X.ro by omega)]
          have hall : (cs.all fun c => stoC c || isDead c) = true := by
            have : Ob.box cs ∈ s'.sto.drop r := by
              refine List.mem_of_getElem? (i := k - r) ?_
              rw [List.getElem?_drop, show r + (k - r) = k by omega]
              exact hk'
            exact List.all_eq_true.1 hbx _ this
          intro j d hd
          obtain ⟨u, u1, u2, u3⟩ := h4 j d hd
          exact ⟨u, u1, u2, back_vc h h' hll (.inr ⟨k, rfl, by omega, hpf⟩) (List.all_eq_true.1 hall d (List.mem_of_getElem? hd)) u3⟩
  · obtain ⟨q1, q2⟩ := h'.new b hb
    have hge : ¬ (b < w.heap.size ∧ intoOwn n r l (G1.own b) = none) := by
      rintro ⟨q3, _⟩
      have : w.heap.size ≤ w'.heap.size := h'.grow
      omega
    refine ⟨?_, fun e he => ?_⟩
    · show (if _ then _ else backOwn (G'.own b)) = _
      rw [if_neg hge, q1]
      rfl
    · simp only [Gh.back] at he
      rw [if_neg hge] at he
      exact q2 e he
  · simp only [Gh.back] at he ⊢
    by_cases hc : b < w.heap.size ∧ intoOwn n r l (G1.own b) = none
    · rw [if_pos hc] at he ⊢
      exact h.stow b e he
    · rw [if_neg hc] at he ⊢
      rw [h'.stow b e he]
      rfl
  · simp only [Gh.back] at he ⊢
    split <;> rename_i hc
    · rw [if_pos hc] at he
      exact h.std b e e' he hee
    · rw [if_neg hc] at he
      exact h'.std b e e' he hee
  · obtain ⟨q1, q2, q3⟩ := h.old b hb h0
    have hbs : b < w.heap.size := Nat.lt_of_lt_of_le hb h.grow
    have hn : intoOwn n r l (G1.own b) = none := by rw [q2]; rfl
    refine ⟨(back_old h h' hll hbs hn).1.trans q1, ?_, fun e he => ?_⟩
    · show (if _ then G1.own b else _) = _
      rw [if_pos ⟨hbs, hn⟩]
      exact q2
    · simp only [Gh.back] at he
      rw [if_pos ⟨hbs, hn⟩] at he
      exact q3 e he
  · have : X.ro ≤ s1.sto.length := h.ro
    show X.ro ≤ s'.sto.length
    omega
  · have : X.n0 ≤ s1.sto.length := h.n0
    show G'.be k = _
    rw [hkl k (by omega)]
    exact h.be0 k hk
  · have : X.n0 ≤ s1.sto.length := h.n0
    show X.n0 ≤ s'.sto.length
    omega

theorem back_vt {d : D} (hd : partsOK d = true) {v : Value} {m2 : Mt} (hv : VT w' G' s'.m (.air 0) d v) : VT w' (Gh.back G1 G' n r l w.heap.size pu) m2 (.air 0) d v := by
  have cell : ∀ {d : D} {i : Nat} {v : Value}, cellsOK d = true → VP w' G' s'.m (.air 0) i d v → VP w' (Gh.back G1 G' n r l w.heap.size pu) m2 (.air 0) i d v := by
    intro d i v hd hv
    simp only [cellsOK, Bool.and_eq_true, Bool.not_eq_true'] at hd
    obtain ⟨hnt, hall⟩ := hd
    cases d with
    | agg cs =>
      obtain ⟨vs, rfl, hl, h1⟩ := hv
      exact ⟨vs, rfl, hl, fun j d u hd hu => back_vc h h' hll (.inl rfl) (by rw [List.all_eq_true.1 hall d (List.mem_of_getElem? hd)]; rfl) (h1 j d u hd hu)⟩
    | tup ds => simp [isTup] at hnt
    | _ =>
      rw [VP_cell (by intro cs e; cases e)] at hv ⊢
      exact back_vc h h' hll (.inl rfl) (by simp only [cellsD, List.all_cons, List.all_nil, Bool.and_true] at hall; rw [hall]; rfl) hv
  cases d with
  | tup ds =>
    obtain ⟨vs, rfl, hl, h1⟩ := hv
    exact ⟨vs, rfl, hl, fun i d u hd' hu => cell (List.all_eq_true.1 hd d (List.mem_of_getElem? hd')) (h1 i d u hd' hu)⟩
  | _ =>
    rw [VT_part (by intro cs e; cases e)] at hv ⊢
    exact cell hd hv
end


noncomputable def frzA (oa : List Nat) : Nat → List D → List D
  | _, [] => []
  | k, d :: r => (if oa.contains k then d else fzTop d) :: frzA oa (k + 1) r
theorem frzA_len (oa : List Nat) : ∀ (k : Nat) (ds : List D), (frzA oa k ds).length = ds.length
  | _, [] => rfl
  | k, d :: r => by simp [frzA, frzA_len oa (k + 1) r]
theorem frzL (oa : List Nat) : ∀ (ds : List D) (us : List Value) (k : Nat) (G : Gh) (n : Nat), Rel X G s a w → (∀ (j : Nat) (d : D) (u : Value), ds[j]? = some d → us[j]? = some u → VT w G s.m (.air (n + j)) d u) →
    ∃ G', Rel X G' s a w ∧ (∀ (j : Nat) (d : D) (u : Value), (frzA oa k ds)[j]? = some d → us[j]? = some u → VT w G' s.m (.air (n + j)) d u) ∧ Keeps w G s.m w G' s.m (fun p => ∀ j, p.r = .air j → j < n)
  | [], us, k, G, n, h, _ => ⟨G, h, fun j d u hd => by simp [frzA] at hd, Keeps.refl _ _ _ _⟩
  | d :: ds, [], k, G, n, h, _ => ⟨G, h, fun j d u _ hu => by simp at hu, Keeps.refl _ _ _ _⟩
  | d :: ds, u :: us, k, G, n, h, hv => by
    have hv0 := hv 0 d u rfl rfl
    have step : ∃ G1, Rel X G1 s a w ∧ VT w G1 s.m (.air n) (if oa.contains k then d else fzTop d) u ∧ Keeps w G s.m w G1 s.m (fun p => p.r ≠ .air n) := by
      cases hc : oa.contains k with
      | true => exact ⟨G, h, hv0, (Keeps.refl _ _ _ _).weaken fun _ _ => trivial⟩
      | false =>
        obtain ⟨r1, K1⟩ := h.freeze n
        exact ⟨_, r1, VT.fz (r' := .air n) hv0, K1⟩
    obtain ⟨G1, r1, v1, K1⟩ := step
    obtain ⟨G', r2, v2, K2⟩ := frzL oa ds us (k + 1) G1 (n + 1) r1 (fun j d' u' hd hu => by
      have := hv (j + 1) d' u' (by simpa using hd) (by simpa using hu)
      rw [show n + (j + 1) = n + 1 + j by omega] at this
      exact K1.vt (fun i q j' c _ _ _ => by simp; omega) this)
    refine ⟨G', r2, fun j d' u' hd hu => ?_, (K1.trans K2).weaken fun p hp => ⟨fun e => by have := hp n e; omega, fun j e => by have := hp j e; omega⟩⟩
    cases j with
    | zero =>
      simp [frzA] at hd hu
      subst hd; subst hu
      have v1' := v1
      simp only [List.contains_iff_mem] at v1'
      exact K2.vt (fun i q j c _ _ _ => fun j' e => by simp at e; omega) v1'
    | succ j =>
      have := v2 j d' u' (by simpa [frzA] using hd) (by simpa using hu)
      rwa [show n + 1 + j = n + (j + 1) by omega] at this

theorem OpOk.call {x : Operand} {args : Array Operand} {tys : Array TypeId} (ho : o.op = .call { callee := .value x, args, argTypes := tys }) {f : Nat} {caps ds : List D} {s1 : DS} {r : Nat} {R : D → List Ob → Prop} (oa : List Nat)
    (hx : lookO s x = some (.fn f caps)) (ht : takeL s args.toList = some (ds, s1)) (hds : (frzA oa 0 ds).all cellsOK = true) (hok : stoOK T.ro r s.sto = true) (hr : T.ro ≤ r) (h : Tri P f r (frzA oa 0 ds ++ caps) s.sto R)
    (hk : ∀ d sto', R d sto' → s.sto.length ≤ sto'.length → partsOK d = true ∧ (∀ k, k < r → sto'[k]? = s.sto[k]?) ∧ (sto'.drop r).all boxOK = true ∧ ∃ s2, put T.c o.dst d (afterC s1 r (frzA oa 0 ds) sto') = some s2 ∧ K s2) : OpOk P T o s K := by
  intro X G a w hX hR next Q hn
  obtain ⟨G0, r0, l1, t1, v0, K0, e1, e2, _⟩ := takeL_rel hR ht 1
  obtain ⟨G1, r1, v1, K1⟩ := frzL oa ds (args.toList.map a.eval) 0 G0 1 r0 (fun k d v hd hv => by
    rw [List.getElem?_map] at hv
    obtain ⟨y, hy, rfl⟩ := Option.map_eq_some_iff.1 hv
    exact v0 k d y hd hy)
  have hfl := frzA_len oa 0 ds
  generalize frzA oa 0 ds = ds' at *
  obtain ⟨cvs, hxv, hcl, hci⟩ := inv_fn (lookO_vt hR hx (.air 0) rfl)
  obtain ⟨fn, hf, ⟨hb, hnm⟩, hlen, hrl, hcall⟩ := h
  have hvs : (args.toList.map a.eval).length = ds'.length := by simp [l1, hfl]
  have hst := r1.start (r := r) (n := if hadOwn ds' then ds'.length else 0) (ds := ds') (caps := caps) (vs := args.toList.map a.eval) (cvs := cvs) (by rw [hX.ro]; exact hr) (by rw [e1]; exact hrl) (by rw [hX.ro, e1]; exact hok) hds hvs (fun k d v hd hv => by
    have := v1 k d v hd hv
    rwa [Nat.add_comm] at this) hcl.symm (fun hh => by rw [if_pos hh]) (fun k d v hd hv => K1.imm (K0.imm (hci k d v hd hv))) hlen
  rw [e1] at hst
  unfold Oper.wp
  rw [run_call ho hxv hf hb hnm]
  rw [Oper.upon_enter]
  have hargs : args.map a.eval ++ cvs.toArray = (args.toList.map a.eval ++ cvs).toArray := by
    apply Array.ext'
    simp
  rw [hargs]
  refine (hcall _ w _ (by simp [hvs, hcl]) hst).mono fun e w' he => ?_
  cases e with
  | panicked c => exact he.elim
  | outgrown => exact he.elim
  | returned v =>
    obtain ⟨d, s', G', a', hRd, r', v'⟩ := he
    have hl0 : s.sto.length = s1.sto.length := by rw [e1]
    obtain ⟨k1, k2, k3, s2, k4, k5⟩ := hk d s'.sto hRd r'.n0
    have rb := Rel.back (pu := s'.sto.length == r) (own := hadOwn ds') r1 r' hl0 (by rw [hX.ro]; exact hr) hrl rfl (fun hh => by rw [if_neg (by rw [hh]; simp)]) (fun k hk => by rw [e1]; exact k2 k hk) k3
    obtain ⟨G3, r3⟩ := rb.putO hX.n k4 0 (back_vt r1 r' hl0 k1 v')
    exact hn _ _ _ _ k5 r3
end

end Go.Lv

namespace Go.Lv

noncomputable def lendC (s : DS) : D → Option D
  | .list q xs => match lsD s (.list q xs) with | some ys => some (.list .imm ys) | none => none
  | d => if rowC d then some d else none
noncomputable def lendCs (s : DS) : List D → Option (List D)
  | [] => some []
  | d :: r => match lendC s d, lendCs s r with
    | some x, some xs => some (x :: xs)
    | _, _ => none
noncomputable def lendD (s : DS) : D → Option D
  | .agg cs => match lendCs s cs with | some xs => some (.agg xs) | none => none
  | .tup _ => none
  | d => lendC s d
noncomputable def lendL (s : DS) : List Operand → Option (List D)
  | [] => some []
  | x :: r => match (match lookO s x with | some d => lendD s d | none => none), lendL s r with
    | some d, some ds => some (d :: ds)
    | _, _ => none

noncomputable def flatR (xs : List (List D)) : Bool := xs.all fun r => r.all sclC
noncomputable def flatC : D → Bool
  | .int _ _ | .bool _ | .str _ | .nil | .gptr _ _ | .nilmap | .map _ | .nilfn | .fn _ [] => true
  | .list (.own _) xs => flatR xs
  | .list .imm xs => flatR xs
  | _ => false
noncomputable def flatP (d : D) : Bool := !isTup d && (cellsD d).all flatC
noncomputable def flatT : D → Bool
  | .tup ds => ds.all flatP
  | d => flatP d
noncomputable def unlC (e : Nat) : D → D
  | .list .imm xs => .list (.cp e none) xs
  | d => d
noncomputable def unlD (e : Nat) (d : D) : D := mapTop (fun _ _ c => unlC e c) d

noncomputable def boxSt : Ob → Bool
  | .box cs => cs.all stoC
  | .map _ => true

section
variable {P : Program} {T : St} {X : Ctx} {G G1 G' : Gh} {s s' s1 : DS} {a a' : Act} {w w' : World} {Q Q' : Ex → DS → Prop} {K K' : DS → Prop} {o : Oper} {ops : Array Oper} {m m' : Mt}

theorem imm_rd {d : D} {v : Value} (h : Imm w G.be G.st d v) : Imm w G.be G.rd d v := h.mono (fun _ _ h => h) (fun _ _ h => .inl h) (fun _ _ _ _ _ => rfl)

theorem ls_imm {ys : List (List D)} {v : Value} (h : LsV w G ys v) : Imm w G.be G.rd (.list .imm ys) v := by
  obtain ⟨A, cap, rfl, h1⟩ := h
  by_cases hy : ys = []
  · subst hy
    exact .nils _ _
  · rcases h1 with h1 | ⟨b, off, sz, rfl, hz, hc, hr, hrow⟩
    · exact absurd h1 hy
    · exact imm_list.2 (.inr ⟨b, off, cap, sz, rfl, List.length_pos_iff.2 hy, hz, hc, hr, hrow.mono (fun _ _ h => h) (fun _ _ h => .inl h) (fun _ _ _ _ _ => rfl) fun _ _ => rfl⟩)

theorem lendC_rel (h : Rel X G s a w) {p : Place} {d d' : D} {v : Value} (hv : VC w G s.m p d v) (hl : lendC s d = some d') : Imm w G.be G.rd d' v := by
  cases d with
  | list q xs =>
    simp only [lendC] at hl
    split at hl
    · rename_i ys hys
      cases hl
      refine ls_imm ?_
      cases q with
      | own sz =>
        simp only [lsD, Option.some.injEq] at hys
        subst hys
        exact (hv : OwnL w G p sz _ v).ls
      | cp e q => exact lsD_rel h (r := p.r) (d := .list (.cp e q) xs) hv hys
      | imm => exact lsD_rel h (r := p.r) (d := .list .imm xs) hv hys
    · cases hl
  | _ =>
    simp only [lendC] at hl
    rw [Option.ite_none_right_eq_some] at hl
    obtain ⟨hr, hl⟩ := hl
    cases hl
    exact imm_rd (vc_rowC hv hr)

theorem lendCs_get : ∀ {cs ds : List D}, lendCs s cs = some ds → ds.length = cs.length ∧ ∀ (j : Nat) (d : D), ds[j]? = some d → ∃ c, cs[j]? = some c ∧ lendC s c = some d
  | [], ds, h => by simp [lendCs] at h; subst h; exact ⟨rfl, fun j d h => by simp at h⟩
  | c :: cs, ds, h => by
    simp only [lendCs] at h
    split at h
    · rename_i x xs h1 h2
      cases h
      obtain ⟨h3, h4⟩ := lendCs_get h2
      refine ⟨by simp [h3], fun j d hd => ?_⟩
      cases j with
      | zero => simp at hd; subst hd; exact ⟨c, rfl, h1⟩
      | succ j => exact h4 j d (by simpa using hd)
    · cases h

noncomputable def Gh.lend (G : Gh) : Gh := { G with own := fun _ => none, st := fun b e => G.rd b e }

theorem lendD_rel (h : Rel X G s a w) {r r' : Root} {d d' : D} {v : Value} (hv : VT w G s.m r d v) (hl : lendD s d = some d') {m2 : Mt} : VT w G.lend m2 r' d' v := by
  have cell : ∀ {p q : Place} {c c' : D} {u : Value}, VC w G s.m p c u → lendC s c = some c' → VC w G.lend m2 q c' u := by
    intro p q c c' u hc hl
    have hi := lendC_rel h hc hl
    have hi' : Imm w G.lend.be G.lend.st c' u := hi
    cases c' with
    | list k xs => cases k <;> first | exact hi' | cases hi'
    | _ => first | exact hi' | cases hi'
  have key : ∀ d : D, (∀ cs, d ≠ .agg cs) → VT w G s.m r d v → (∀ ds, d ≠ .tup ds) → lendC s d = some d' → VT w G.lend m2 r' d' v := by
    intro d hd h hnt hl
    rw [VT_part hnt, VP_cell hd] at h
    have := cell (q := ⟨r', 0, 0⟩) h hl
    rw [VT_part this.plain.2, VP_cell this.plain.1]
    exact this
  cases d with
  | agg cs =>
    simp only [lendD] at hl
    split at hl
    · rename_i xs hxs
      cases hl
      obtain ⟨vs, rfl, hvl, h1⟩ := hv
      obtain ⟨q1, q2⟩ := lendCs_get hxs
      refine ⟨vs, rfl, by omega, fun j d u hd hu => ?_⟩
      obtain ⟨c, hc, hcl⟩ := q2 j d hd
      exact cell (h1 j c u hc hu) hcl
    · cases hl
  | tup ds => cases hl
  | _ => exact key _ (by intro cs e; cases e) hv (by intro cs e; cases e) hl

theorem lendL_get : ∀ {xs : List Operand} {ds : List D}, lendL s xs = some ds → ds.length = xs.length ∧ ∀ (k : Nat) (d : D) (x : Operand), ds[k]? = some d → xs[k]? = some x → ∃ c, lookO s x = some c ∧ lendD s c = some d
  | [], ds, h => by simp [lendL] at h; subst h; exact ⟨rfl, fun j d x h => by simp at h⟩
  | x :: xs, ds, h => by
    simp only [lendL] at h
    split at h
    · rename_i d ds' h1 h2
      cases h
      obtain ⟨h3, h4⟩ := lendL_get h2
      refine ⟨by simp [h3], fun k d' x' hd hx => ?_⟩
      cases k with
      | zero =>
        simp at hd hx
        subst hd; subst hx
        split at h1
        · rename_i c hc; exact ⟨c, hc, h1⟩
        · cases h1
      | succ k => exact h4 k d' x' (by simpa using hd) (by simpa using hx)
    · cases h

theorem Rel.startL (h : Rel X G s a w) {ds : List D} {vs : List Value} (hok : (s.sto.drop X.ro).all boxSt = true) (hl : vs.length = ds.length) (hv : ∀ (k : Nat) (d : D) (v : Value), ds[k]? = some d → vs[k]? = some v → ∀ r, VT w G.lend (m0 s.sto.length) r d v)
    {nt : Nat} (hn : ds.length ≤ nt) : Rel ⟨nt, s.sto.length, s.sto.length, w, G.lend, []⟩ G.lend (s0 s.sto.length ds s.sto) (Frm nt vs) w := by
  refine { size := by simp only [Frm, Array.size_append, List.size_toArray, Array.size_replicate]; omega, defers := rfl, env := fun t d ht => ?_, loc := fun t cs ht => by simp [s0, lk_nil] at ht, sto := fun k o hk => ?_, be := h.be, new := fun b hb => ⟨rfl, fun e he => ?_⟩, stow := fun b e he => rfl, std := fun b e e' he hee => rd_down h he hee, old := fun b hb h0 => ⟨rfl, h0, fun e he => he⟩, os := rfl, tape := rfl, output := rfl, grow := Nat.le_refl _, ro := Nat.le_refl _, rom := rfl, be0 := fun _ _ => rfl, n0 := Nat.le_refl _, la0 := fun t ht => nomatch ht }
  · have ht' : lk t (num 0 ds) = some d := ht
    rw [lk_num] at ht'
    simp only [Nat.zero_le, if_true, Nat.sub_zero] at ht'
    have hlt : t < vs.length := by
      have := (List.getElem?_eq_some_iff.1 ht').1
      omega
    have hg : (Frm nt vs).tmps.getD t undef = vs[t] := by
      simp only [Frm, Array.getD_eq_getD_getElem?]
      rw [Array.getElem?_append_left (by simpa using hlt)]
      simp only [List.getElem?_toArray]
      rw [List.getElem?_eq_getElem hlt]
      rfl
    rw [hg]
    exact hv t d _ ht' (List.getElem?_eq_getElem hlt) _
  · have hk' : s.sto[k]? = some o := hk
    have hlt : k < s.sto.length := (List.getElem?_eq_some_iff.1 hk').1
    obtain ⟨b, h1, h2, h3, h4⟩ := h.sto k o hk'
    refine ⟨b, h1, by rw [if_pos hlt]; rfl, h3, ?_⟩
    cases o with
    | map es => exact h4
    | box cs =>
      simp only [ObV] at h4 ⊢
      rw [if_pos hlt]
      by_cases hk0 : k < X.ro
      · rw [if_pos hk0] at h4
        intro j d hd
        obtain ⟨u, u1, u2⟩ := h4 j d hd
        exact ⟨u, u1, imm_rd u2⟩
      · rw [if_neg hk0] at h4
        have hmem : Ob.box cs ∈ s.sto.drop X.ro := by
          refine List.mem_of_getElem? (i := k - X.ro) ?_
          rw [List.getElem?_drop, show X.ro + (k - X.ro) = k by omega]
          exact hk'
        have hall : cs.all stoC = true := List.all_eq_true.1 hok _ hmem
        intro j d hd
        obtain ⟨u, u1, _, u3⟩ := h4 j d hd
        refine ⟨u, u1, ?_⟩
        have hst := List.all_eq_true.1 hall d (List.mem_of_getElem? hd)
        cases d with
        | list q xs =>
          cases q with
          | own sz => exact ls_imm (u3 : OwnL w G ⟨.gbox k, 0, j⟩ sz xs u).ls
          | cp e q => simp [stoC, rowC] at hst
          | imm => exact imm_rd u3
        | _ => first | exact imm_rd u3 | simp [stoC, rowC] at hst
  · rcases he with he | ⟨⟨p, hp⟩, _⟩
    · exact (h.new b hb).2 e he
    · rw [(h.new b hb).1] at hp; cases hp

noncomputable def backOwnL : Option Owner → Option Owner
  | some (.lst p) => match p.r with
    | .air 0 => some (.lst p)
    | _ => none
  | _ => none
noncomputable def Gh.backL (G G' : Gh) (sz : Nat) : Gh :=
  { be := G'.be
    la := G.la
    own := fun b => if b < sz then G.own b else backOwnL (G'.own b)
    fin := fun b => if b < sz then G.fin b else G'.fin b
    st := fun b e => if b < sz then G.st b e else G'.st b e
    pl := fun p => match p.r with
      | .air 0 => G'.pl p
      | _ => G.pl p }

section
variable {nt : Nat} (h : Rel X G s a w) (h' : Rel ⟨nt, s.sto.length, s.sto.length, w, G.lend, []⟩ G' s' a' w') (hse : s'.sto = s.sto)
include h h' hse

theorem backL_old {b : Nat} (hb : b < w.heap.size) : w'.heap[b]? = w.heap[b]? ∧ G'.own b = none ∧ ∀ e, G'.st b e → G.rd b e := h'.old b hb rfl

theorem backL_be (k : Nat) : G'.be k = G.be k := by
  by_cases hk : k < s.sto.length
  · exact h'.be0 k hk
  · rw [h.be k (by omega), h'.be k (by rw [hse]; omega)]

theorem backL_keeps : Keeps w G s.m w' (Gh.backL G G' w.heap.size) s.m (fun p => p.r.isAir = false) where
  be := fun k b hb => by show G'.be k = some b; rw [backL_be h h' hse]; exact hb
  st := fun b e hs => by simp only [Gh.backL]; rw [if_pos (h.stLt hs)]; exact hs
  cell := fun b e o hs _ => (heap_cell (backL_old h h' hse (h.stLt hs)).1 o).1
  ep := Nat.le_refl _
  rv := fun _ => Nat.le_refl _
  al := fun _ => Nat.le_refl _
  era := Nat.le_refl _
  rd := fun _ b e hr => by
    have hb : b < w.heap.size := by
      rcases hr with hr | ⟨⟨p, hp⟩, _⟩
      · exact h.stLt hr
      · exact h.ownLt hp
    refine ⟨?_, fun o _ => (heap_cell (backL_old h h' hse hb).1 o).1⟩
    rcases hr with hr | ⟨hp, hn⟩
    · left; simp only [Gh.backL]; rw [if_pos hb]; exact hr
    · right; simp only [Gh.backL]; rw [if_pos hb, if_pos hb]; exact ⟨hp, hn⟩
  pl := fun p ha _ => by
    obtain ⟨pr, i, j⟩ := p
    cases pr <;> first | rfl | cases ha
  la := fun _ _ => rfl
  own := fun b p _ ho => by
    have hb := h.ownLt ho
    refine ⟨?_, ?_, fun o => heap_cell (backL_old h h' hse hb).1 o⟩
    · simp only [Gh.backL]; rw [if_pos hb]; exact ho
    · simp only [Gh.backL]; rw [if_pos hb]
  opl := fun p hs => by
    obtain ⟨pr, i, j⟩ := p
    cases pr <;> first | rfl | cases hs
  mp := fun _ k b es clock hb hh => ⟨es, clock, by rw [(backL_old h h' hse (h.beLt hb)).1]; exact hh, fun i x hx => ⟨x, hx, rfl⟩⟩

theorem Rel.backL : Rel X (Gh.backL G G' w.heap.size) s a w' := by
  have K := backL_keeps h h' hse
  refine { size := h.size, defers := h.defers, env := fun t d ht => K.vt (fun i q j c _ _ _ => rfl) (h.env t d ht), loc := fun t cs ht => ?_, sto := fun k o hk => ?_, be := fun k hk => by show G'.be k = none; rw [backL_be h h' hse]; exact h.be k hk, new := fun b hb => ?_, stow := fun b e he => ?_, std := fun b e e' he hee => ?_, old := fun b hb h0 => ?_, os := h'.os.trans h.os, tape := h'.tape.trans h.tape, output := h'.output.trans h.output, grow := Nat.le_trans h.grow h'.grow, ro := h.ro, rom := h.rom, be0 := fun k hk => by show G'.be k = _; rw [backL_be h h' hse]; exact h.be0 k hk, n0 := h.n0, la0 := h.la0 }
  · obtain ⟨h1, h2⟩ := h.loc t cs ht
    have hb := h.ownLt h1
    refine ⟨?_, K.box (fun j c _ _ => rfl) (fun o => heap_cell (backL_old h h' hse hb).1 o) h2⟩
    have e1 : (Gh.backL G G' w.heap.size).own (G.la t) = G.own (G.la t) := if_pos hb
    exact e1.trans h1
  · obtain ⟨b, h1, h2, h3, h4⟩ := h.sto k o hk
    have hheap := (backL_old h h' hse h3).1
    refine ⟨b, K.be k b h1, ?_, Nat.lt_of_lt_of_le h3 h'.grow, ?_⟩
    · have e1 : (Gh.backL G G' w.heap.size).own b = G.own b := if_pos h3
      rw [e1]
      exact h2
    · cases o with
      | map es =>
        obtain ⟨arr, clock, q1, q2⟩ := h4
        exact ⟨arr, clock, by rw [hheap]; exact q1, q2⟩
      | box cs =>
        simp only [ObV] at h4 ⊢
        split <;> rename_i hk0
        · rw [if_pos hk0] at h4
          intro j d hd
          obtain ⟨u, h5, h6⟩ := h4 j d hd
          exact ⟨u, by rw [(heap_cell hheap j).1]; exact h5, K.imm h6⟩
        · rw [if_neg hk0] at h4
          exact K.box (fun j c _ _ => rfl) (fun o => heap_cell hheap o) h4
  · obtain ⟨q1, q2⟩ := h'.new b hb
    have hge : ¬ b < w.heap.size := by
      have : w.heap.size ≤ w'.heap.size := h'.grow
      omega
    refine ⟨?_, fun e he => ?_⟩
    · show (if _ then _ else backOwnL (G'.own b)) = _
      rw [if_neg hge, q1]
      rfl
    · simp only [Gh.backL] at he
      rw [if_neg hge] at he
      exact q2 e he
  · simp only [Gh.backL] at he ⊢
    by_cases hc : b < w.heap.size
    · rw [if_pos hc] at he ⊢
      exact h.stow b e he
    · rw [if_neg hc] at he ⊢
      rw [h'.stow b e he]
      rfl
  · simp only [Gh.backL] at he ⊢
    split <;> rename_i hc
    · rw [if_pos hc] at he
      exact h.std b e e' he hee
    · rw [if_neg hc] at he
      exact h'.std b e e' he hee
  · obtain ⟨q1, q2, q3⟩ := h.old b hb h0
    have hbs : b < w.heap.size := Nat.lt_of_lt_of_le hb h.grow
    refine ⟨(backL_old h h' hse hbs).1.trans q1, ?_, fun e he => ?_⟩
    · show (if _ then G.own b else _) = _
      rw [if_pos hbs]
      exact q2
    · simp only [Gh.backL] at he
      rw [if_pos hbs] at he
      exact q3 e he

theorem backL_rows {b off sz : Nat} {xs : List (List D)} (hf : flatR xs = true) (hr : RowsAt w' G'.be G'.st b off sz xs) {be : Nat → Option Nat} {st : Nat → Nat → Prop} : RowsAt w' be st b off sz xs := by
  refine ⟨hr.1, fun j c r d hj hd => ?_⟩
  obtain ⟨v, hv, hi⟩ := hr.2 j c r d hj hd
  refine ⟨v, hv, ?_⟩
  have hs := List.all_eq_true.1 (List.all_eq_true.1 hf r (List.mem_of_getElem? hj)) d (List.mem_of_getElem? hd)
  cases d <;> first | (simp [sclC] at hs; done) | (cases hi; constructor)

theorem backL_vc {p : Place} (hp : p.r = .air 0) {d : D} (hd : flatC d = true) {v : Value} (hv : VC w' G' s'.m p d v) : VC w' (Gh.backL G G' w.heap.size) s.m p (unlC s.m.ep d) v := by
  cases d with
  | list q xs =>
    cases q with
    | own sz =>
      rcases hv with hv | ⟨hz, b, off, cap, rfl, hc, ho, hf, hpl, hcell, hrows⟩
      · exact .inl hv
      · have hnot : ¬ b < w.heap.size := by
          intro q1
          have := (backL_old h h' hse q1).2.1
          rw [ho] at this
          cases this
        refine .inr ⟨hz, b, off, cap, rfl, hc, ?_, ?_, ?_, hcell, backL_rows h h' hse hd hrows⟩
        · simp only [Gh.backL]
          rw [if_neg hnot, ho]
          simp only [backOwnL, hp]
        · simp only [Gh.backL]
          rw [if_neg hnot]
          exact hf
        · rw [← hpl]
          simp only [Gh.backL, hp]
    | cp e q => simp [flatC] at hd
    | imm =>
      rcases imm_list.1 hv with ⟨rfl, A, cap, rfl⟩ | ⟨b, off, cap, sz, rfl, h1, h2, h3, h4, h5⟩
      · exact ⟨A, cap, rfl, Nat.le_refl _, fun _ => .inl rfl, fun p n e => by cases e⟩
      · refine ⟨_, cap, rfl, Nat.le_refl _, fun _ => .inr ⟨b, off, sz, rfl, h2, h3, ?_, backL_rows h h' hse hd h5⟩, fun p n e => by cases e⟩
        by_cases hb : b < w.heap.size
        · rcases (backL_old h h' hse hb).2.2 _ h4 with q | ⟨q1, q2⟩
          · left; simp only [Gh.backL]; rw [if_pos hb]; exact q
          · right; simp only [Gh.backL]; rw [if_pos hb, if_pos hb]; exact ⟨q1, q2⟩
        · left; simp only [Gh.backL]; rw [if_neg hb]; exact h4
  | fn f caps =>
    cases caps with
    | cons c r => simp [flatC] at hd
    | nil =>
      have hi : Imm w' G'.be G'.st (.fn f []) v := hv
      cases hi with
      | fn _ _ vs hl _ =>
        have : vs = [] := List.eq_nil_of_length_eq_zero hl.symm
        subst this
        exact Imm.fn f [] [] rfl fun i d v h => by simp at h
  | gptr k off =>
    have hi : Imm w' G'.be G'.st (.gptr k off) v := hv
    cases hi with | gptr _ _ b hb => exact Imm.gptr k off b hb
  | map k =>
    have hi : Imm w' G'.be G'.st (.map k) v := hv
    cases hi with | map _ b hb => exact Imm.map k b hb
  | int k n => have hi : Imm w' G'.be G'.st (.int k n) v := hv; cases hi; exact Imm.int _ _
  | bool b => have hi : Imm w' G'.be G'.st (.bool b) v := hv; cases hi; exact Imm.bool _
  | str b => have hi : Imm w' G'.be G'.st (.str b) v := hv; cases hi; exact Imm.str _
  | nil => have hi : Imm w' G'.be G'.st .nil v := hv; cases hi; exact Imm.nil
  | nilmap => have hi : Imm w' G'.be G'.st .nilmap v := hv; cases hi; exact Imm.nilmap
  | nilfn => have hi : Imm w' G'.be G'.st .nilfn v := hv; cases hi; exact Imm.nilfn
  | _ => simp [flatC] at hd

theorem backL_vt {d : D} (hd : flatT d = true) {v : Value} (hv : VT w' G' s'.m (.air 0) d v) : VT w' (Gh.backL G G' w.heap.size) s.m (.air 0) (unlD s.m.ep d) v := by
  have cell : ∀ {d : D} {i : Nat} {v : Value}, flatP d = true → VP w' G' s'.m (.air 0) i d v → VP w' (Gh.backL G G' w.heap.size) s.m (.air 0) i (mapAt (fun _ c => unlC s.m.ep c) d) v := by
    intro d i v hd hv
    simp only [flatP, Bool.and_eq_true, Bool.not_eq_true'] at hd
    obtain ⟨hnt, hall⟩ := hd
    cases d with
    | agg cs =>
      obtain ⟨vs, rfl, hl, h1⟩ := hv
      refine ⟨vs, rfl, by rw [mapIx_length]; exact hl, fun j d u hd hu => ?_⟩
      rw [mapIx_get] at hd
      obtain ⟨c, hc, rfl⟩ := Option.map_eq_some_iff.1 hd
      exact backL_vc h h' hse rfl (List.all_eq_true.1 hall c (List.mem_of_getElem? hc)) (h1 j c u hc hu)
    | tup ds => simp [isTup] at hnt
    | _ =>
      rw [VP_cell (by intro cs e; cases e)] at hv
      simp only [cellsD, List.all_cons, List.all_nil, Bool.and_true] at hall
      have := backL_vc h h' hse (p := ⟨.air 0, i, 0⟩) rfl hall hv
      simp only [mapAt]
      rw [VP_cell this.plain.1]
      exact this
  cases d with
  | tup ds =>
    obtain ⟨vs, rfl, hl, h1⟩ := hv
    refine ⟨vs, rfl, by rw [mapIx_length]; exact hl, fun i d u hd' hu => ?_⟩
    rw [mapIx_get] at hd'
    obtain ⟨c, hc, rfl⟩ := Option.map_eq_some_iff.1 hd'
    exact cell (List.all_eq_true.1 hd c (List.mem_of_getElem? hc)) (h1 i c u hc hu)
  | _ =>
    rw [VT_part (by intro cs e; cases e)] at hv
    have := cell hd hv
    simp only [unlD, mapTop]
    rw [VT_part this.notup]
    exact this
end

theorem OpOk.callL {x : Operand} {args : Array Operand} {tys : Array TypeId} (ho : o.op = .call { callee := .value x, args, argTypes := tys }) {f : Nat} {ds : List D} {R : D → List Ob → Prop}
    (hx : lookO s x = some (.fn f [])) (ht : lendL s args.toList = some ds) (hok : (s.sto.drop T.ro).all boxSt = true) (h : Tri P f s.sto.length ds s.sto R)
    (hk : ∀ d sto', R d sto' → sto' = s.sto ∧ flatT d = true ∧ ∃ s2, put T.c o.dst (unlD s.m.ep d) s = some s2 ∧ K s2) : OpOk P T o s K := by
  intro X G a w hX hR next Q hn
  obtain ⟨cvs, hxv, hcl, _⟩ := inv_fn (lookO_vt hR hx (.air 0) rfl)
  have hcv : cvs = [] := List.eq_nil_of_length_eq_zero hcl.symm
  subst hcv
  obtain ⟨fn, hf, ⟨hb, hnm⟩, hlen, hrl, hcall⟩ := h
  obtain ⟨q1, q2⟩ := lendL_get ht
  have hvs : (args.toList.map a.eval).length = ds.length := by simp [q1]
  have hst := hR.startL (ds := ds) (vs := args.toList.map a.eval) (by rw [hX.ro]; exact hok) hvs (fun k d v hd hv r => by
    rw [List.getElem?_map] at hv
    obtain ⟨y, hy, rfl⟩ := Option.map_eq_some_iff.1 hv
    obtain ⟨c, hc1, hc2⟩ := q2 k d y hd hy
    obtain ⟨r0, hv0⟩ := lookO_any hR hc1
    exact lendD_rel hR hv0 hc2) hlen
  unfold Oper.wp
  rw [run_call ho hxv hf hb hnm]
  rw [Oper.upon_enter]
  have hargs : args.map a.eval ++ (#[] : Array Value) = (args.toList.map a.eval).toArray := by
    apply Array.ext'
    simp
  rw [show ([] : List Value).toArray = #[] from rfl, hargs]
  refine (hcall _ w _ hvs hst).mono fun e w' he => ?_
  cases e with
  | panicked c => exact he.elim
  | outgrown => exact he.elim
  | returned v =>
    obtain ⟨d, s', G', a', hRd, r', v'⟩ := he
    obtain ⟨k1, k2, s2, k4, k5⟩ := hk d s'.sto hRd
    have rb := Rel.backL hR r' k1
    obtain ⟨G3, r3⟩ := rb.putO hX.n k4 0 (backL_vt hR r' k1 k2 v')
    exact hn _ _ _ _ k5 r3
end

end Go.Lv

namespace Go.Lv

noncomputable def roK (L : Ly) : Op → Bool
  | .move _ | .pick _ _ _ | .load _ _ | .nilCheck _ | .binOp _ _ _ _ _ | .unOp _ _ _ | .makeFunc _ _ _ | .slice _ _ _ _ _ | .fieldAddr _ _ _ | .field _ _ _ | .indexAddr _ _ _ | .index _ _ _ | .lookup _ _ _ _ | .extract _ _ | .build _ _ => true
  | .convert t u _ => match L.tk t, L.tk u with
    | .str, .str => true
    | .str, _ => false
    | _, _ => true
  | .call { callee := .builtin .len, .. } | .call { callee := .builtin .min, .. } | .call { callee := .builtin .max, .. } => true
  | _ => false

section
variable {P : Program} {L : Ly} {X : Ctx} {G : Gh} {s s' : DS} {a : Act} {w : World} {c : FC}
theorem op_ro (H : LyOK P L) (h : Rel X G s a w) (hn : c.n = X.n) {o : Oper} (hk : roK L o.op = true) (hs : opD L c X.ro s o = some s') : Yd2 P c X G o s a w s' := by
  cases ho : o.op with
  | move x => exact op_move h hn ho hs
  | pick x y z => exact op_pick h hn ho hs
  | load t x => exact op_loadAll H h hn ho hs
  | nilCheck x => exact op_nilCheck h hn ho hs
  | binOp op t x y t' => exact op_bin H h hn ho hs
  | unOp op t x => exact op_un h hn ho hs
  | convert t u x =>
    refine op_convert_num H h hn ho hs fun b h1 h2 => ?_
    rw [ho] at hk
    simp only [roK, h1] at hk
    cases h3 : L.tk u <;> simp [h3] at hk
    rfl
  | makeFunc f first caps => exact op_makeFunc h hn ho hs
  | slice t x lo hi mx => exact op_slice H h hn ho hs
  | fieldAddr t x f => exact op_fieldAddr H h hn ho hs
  | field t x f => exact op_field H h hn ho hs
  | indexAddr t x y => exact op_indexAddr H h hn ho hs
  | index t x y => exact op_index H h hn ho hs
  | lookup t x y ok => exact op_lookup H h hn ho hs
  | extract x i => exact op_extract h hn ho hs
  | build t ps => exact op_build H h hn ho hs
  | call c' =>
    obtain ⟨callee, args, argTypes⟩ := c'
    rw [ho] at hk
    cases callee with
    | builtin bi =>
      have hs' := hs
      simp only [opD, ho] at hs
      cases bi with
      | len => exact op_len H h hn ho hs'
      | min => exact op_minmax h hn (.inl ⟨rfl, rfl⟩) ho hs
      | max => exact op_minmax h hn (.inr ⟨rfl, rfl⟩) ho hs
      | _ => simp [roK] at hk
    | _ => simp [roK] at hk
  | _ => rw [ho] at hk; simp [roK] at hk
end

noncomputable def delAll (ts : List Nat) (l : List (Nat × D)) : List (Nat × D) := ts.foldr (fun t l => del t l) l
theorem lk_delAll (ts : List Nat) (u : Nat) (l : List (Nat × D)) : lk u (delAll ts l) = if u ∈ ts then none else lk u l := by
  induction ts with
  | nil => simp [delAll]
  | cons t r ih =>
    have : delAll (t :: r) l = del t (delAll r l) := rfl
    rw [this, lk_del, ih]
    by_cases h : u = t
    · simp [h]
    · simp [h]

noncomputable def dstOf (ops : Array Oper) (i : Nat) : Option Nat := (ops[i]?).bind (·.dst)
noncomputable def looks (ops : Array Oper) (i : Nat) : List Nat := match ops[i]? with
  | some o => o.looksAt ops
  | none => []
noncomputable def waits (ops : Array Oper) (k i : Nat) : Bool := match ops[k]? with
  | some o => o.after.any fun e => Region.binds .any e && e.on == i
  | none => false
noncomputable def rdy (ops : Array Oper) (L : List Nat) (k : Nat) : Bool := match ops[k]? with
  | some o => o.after.all fun e => !Region.binds .any e || L.contains e.on
  | none => false

noncomputable def isOwnO (s : DS) (x : Operand) : Bool := match lookO s x with
  | some d => hasOwn d
  | none => false
noncomputable def roV (T : St) (ops : Array Oper) (s : DS) (i : Nat) : Option D :=
  match ops[i]? with
  | none => none
  | some o => match o.dst with
    | none => none
    | some t =>
      let e : DS := { s with env := keep (o.looksAt ops) s.env }
      if decide (t < T.c.n) && !(o.looksAt ops).contains t then
        match wantD ops e o with
        | some true => if roK T.L o.op && !T.c.xf.contains t && ((T.c.la && lookK o.op) || !(o.op.operands.toList.any fun x => isOwnO e x)) then match opD T.L T.c T.ro e o with
            | some s1 => match lk t s1.env with
              | some d => if hasOwn d then none else some d
              | none => none
            | none => none
          else none
        | some false => some (.tup [])
        | none => none
      else none

noncomputable def aloneK (ops : Array Oper) (i : Nat) : Bool := match dstOf ops i with
  | none => false
  | some t => (List.range ops.size).all fun k => k == i || (dstOf ops k != some t && (!(looks ops k).contains t || waits ops k i))

noncomputable def stepOk (P : Program) (T : St) (ops : Array Oper) (j : Nat) (s : DS) (K : DS → Prop) : Prop :=
  match ops[j]? with
  | none => False
  | some o => match wantD ops s o with
    | some true => OpOk P T o s K
    | some false => match put T.c o.dst (.tup []) s with
      | some s1 => K s1
      | none => False
    | none => False

noncomputable def stillV (T : St) (ops : Array Oper) (V : List Nat) (s s1 : DS) : Prop :=
  ∀ i, i ∈ V → ∀ t d, dstOf ops i = some t → roV T ops s i = some d → lk t s.env = some d → roV T ops s1 i = some d ∧ lk t s1.env = some d

structure LeS (s s1 : DS) : Prop where
  env : ∀ t d, lk t s1.env = some d → lk t s.env = some d
  loc : ∀ t cs, lk t s1.loc = some cs → ∃ cs0, lk t s.loc = some cs0 ∧ ∀ (j : Nat) (c : D), cs[j]? = some c → ∃ c0, cs0[j]? = some c0 ∧ ∀ w G m p v, VC w G m p c0 v → VC w G m p c v
  sto : s1.sto = s.sto
  vr : ∀ t, s.m.vr t ≤ s1.m.vr t
  lv : ∀ t, s.m.lv t ≤ s1.m.lv t
  al : ∀ t, s.m.al t ≤ s1.m.al t
  era : s.m.era ≤ s1.m.era
  ep : s.m.ep ≤ s1.m.ep
  ro : s1.m.ro = s.m.ro
theorem more_keeps {w : World} {G : Gh} {s s1 : DS} (h : LeS s s1) : Keeps w G s.m w G s1.m (fun _ => True) where
  be := fun _ _ h => h
  st := fun _ _ h => h
  cell := fun _ _ _ _ _ => rfl
  ep := h.ep
  rv := fun r => by
    cases r with
    | slot t => exact h.vr t
    | lbox t => exact h.lv t
    | gbox k => exact h.era
    | air n => exact Nat.le_refl _
  al := h.al
  era := h.era
  rd := fun _ _ _ h => ⟨h, fun _ _ => rfl⟩
  pl := fun _ _ _ => rfl
  la := fun _ _ => rfl
  own := fun _ _ _ h => ⟨h, rfl, fun _ => ⟨rfl, rfl⟩⟩
  opl := fun _ _ => rfl
  mp := fun _ k b es clock _ hh => ⟨es, clock, hh, fun i x hx => ⟨x, hx, rfl⟩⟩
theorem Rel.le {X : Ctx} {G : Gh} {s s1 : DS} {a : Act} {w : World} (h : Rel X G s a w) (hl : LeS s s1) : Rel X G s1 a w :=
  have K := more_keeps (w := w) (G := G) hl
  { size := h.size
    defers := h.defers
    env := fun t d ht => K.vt (fun _ _ _ _ _ _ _ => trivial) (h.env t d (hl.env t d ht))
    loc := fun t cs ht => by
      obtain ⟨cs0, h0, hw⟩ := hl.loc t cs ht
      obtain ⟨h1, h2⟩ := h.loc t cs0 h0
      have h3 := K.box (fun _ _ _ _ => trivial) (fun _ => ⟨rfl, rfl⟩) h2
      refine ⟨h1, fun j c hc => ?_⟩
      obtain ⟨c0, hc0, hvc⟩ := hw j c hc
      obtain ⟨u, u1, u2, u3⟩ := h3 j c0 hc0
      exact ⟨u, u1, u2, hvc _ _ _ _ _ u3⟩
    sto := fun k o hk => by
      rw [hl.sto] at hk
      obtain ⟨b, h1, h2, h3, h4⟩ := h.sto k o hk
      refine ⟨b, h1, h2, h3, ?_⟩
      cases o with
      | map es => exact h4
      | box cs =>
        simp only [ObV] at h4 ⊢
        split <;> rename_i hk0
        · rw [if_pos hk0] at h4
          exact h4
        · rw [if_neg hk0] at h4
          exact K.box (fun _ _ _ _ => trivial) (fun _ => ⟨rfl, rfl⟩) h4
    be := fun k hk => h.be k (by rw [hl.sto] at hk; exact hk)
    new := h.new
    stow := h.stow
    std := h.std
    old := h.old
    os := h.os
    tape := h.tape
    output := h.output
    grow := h.grow
    ro := by rw [hl.sto]; exact h.ro
    rom := by rw [hl.ro]; exact h.rom
    be0 := h.be0
    n0 := by rw [hl.sto]; exact h.n0
    la0 := h.la0 }

noncomputable def befF (ops : Array Oper) : List Nat → List Nat → List Nat
  | [], S => S
  | k :: r, S => befF ops r (if S.any (fun m => waits ops m k) then k :: S else S)
noncomputable def dropB (ops : Array Oper) (j : Nat) (V : List Nat) : List Nat := V.filter fun i => !(befF ops (List.range j).reverse [j]).contains i

noncomputable def Sch (P : Program) (T : St) (ops : Array Oper) : Nat → List Nat → List Nat → DS → (DS → Prop) → Prop
  | 0, L, V, s, K => (∀ k, k < ops.size → k ∈ L) ∧ K s
  | f + 1, L, V, s, K => ((∀ k, k < ops.size → k ∈ L) ∧ K s) ∨
    (∃ i t d, i ∉ L ∧ dstOf ops i = some t ∧ rdy ops L i = true ∧ aloneK ops i = true ∧ ownAt t s.env = false ∧ roV T ops s i = some d ∧ Sch P T ops f (i :: L) (i :: V) (putS t d s) K) ∨
    ((∃ j, j < ops.size ∧ j ∉ L) ∧ ∀ j, j < ops.size → j ∉ L → rdy ops L j = true → stepOk P T ops j s fun s1 => stillV T ops (dropB ops j V) s s1 ∧ Sch P T ops f (j :: L) (dropB ops j V) s1 K) ∨
    (∃ L' V' s1, (∀ k, k ∈ L' ↔ k ∈ L) ∧ (∀ k, k ∈ V → k ∈ V') ∧ LeS s s1 ∧ stillV T ops V s s1 ∧ Sch P T ops f L' V' s1 K)

section
variable {P : Program} {T : St} {X : Ctx} {G G' : Gh} {s s' s1 : DS} {a a' : Act} {w w' : World} {K K' : DS → Prop} {o : Oper} {ops : Array Oper} {Qc : Exit → Act → World → Prop}

theorem roV_run (H : LyOK P T.L) (hX : Fits T X) {i t : Nat} {d : D} (hs : dstOf ops i = some t) (hv : roV T ops s i = some d) (hd : ∃ o, ops[i]? = some o ∧ ∀ u, u ∈ o.looksAt ops → ∀ e, lk u s.env = some e → lk u s1.env = some e)
    (he : s1.loc = s.loc ∧ s1.sto = s.sto ∧ s1.m = s.m) (hR : Rel X G s1 a w) : hasOwn d = false ∧ t < T.c.n ∧ ∃ v, (∀ m', m'.ep = s.m.ep → (∀ r, s.m.rv r ≤ m'.rv r) → (∀ t, s.m.al t ≤ m'.al t) → s.m.era ≤ m'.era → VT w G m' (.slot t) d v) ∧
      ∀ K', K' (a.put (some t) v) w → wpOp P ops Qc i K' a w := by
  obtain ⟨o, ho, hlk⟩ := hd
  simp only [dstOf, ho, Option.bind_some] at hs
  unfold roV at hv
  rw [ho] at hv
  simp only [hs] at hv
  rw [Option.ite_none_right_eq_some] at hv
  obtain ⟨hc, hv⟩ := hv
  simp only [Bool.and_eq_true, decide_eq_true_eq] at hc
  have hRe : Rel X G { s with env := keep (o.looksAt ops) s.env } a w := by
    have hkeep : ∀ (ts : List Nat), (∀ u, u ∈ ts → ∀ e, lk u s.env = some e → lk u s1.env = some e) → ∀ u d, lk u (keep ts s.env) = some d → lk u s1.env = some d := by
      intro ts
      induction ts with
      | nil => intro _ u d h; simp [keep, lk_nil] at h
      | cons t r ih =>
        intro hts u d h
        simp only [keep] at h
        cases hl : lk t s.env with
        | none => rw [hl] at h; exact ih (fun u hu => hts u (by simp [hu])) u d h
        | some b =>
          rw [hl] at h
          simp only [lk_cons] at h
          by_cases e : t = u
          · subst e
            simp at h
            subst h
            exact hts t (by simp) _ hl
          · simp [e] at h
            exact ih (fun u hu => hts u (by simp [hu])) u d h
    have := hR.less (keep (o.looksAt ops) s.env) s.loc (hkeep _ hlk) (fun u d h => by rw [he.1]; exact h)
    have e2 : ({ s1 with env := keep (o.looksAt ops) s.env, loc := s.loc } : DS) = { s with env := keep (o.looksAt ops) s.env } := by
      cases s1
      simp only at he
      obtain ⟨_, e2, e3⟩ := he
      subst e2 e3
      rfl
    rw [e2] at this
    exact this
  split at hv
  · rename_i hw
    rw [Option.ite_none_right_eq_some] at hv
    obtain ⟨hq, hv⟩ := hv
    simp only [Bool.and_eq_true, Bool.or_eq_true, Bool.not_eq_true'] at hq
    obtain ⟨⟨hro, hxf⟩, hno⟩ := hq
    split at hv
    · rename_i s2 hs2
      split at hv
      · rename_i d' hd'
        rw [Option.ite_none_left_eq_some] at hv
        obtain ⟨hown, hv⟩ := hv
        cases hv
        obtain ⟨v, d2, n, hr, hor⟩ := op_ro H hRe hX.n hro (by rw [hX.ro]; exact hs2)
        have hor' : Lv.put T.c o.dst d2 { s with env := keep (o.looksAt ops) s.env } = some s2 ∧ VT w G s.m (.air n) d2 v := by
          rcases hor with hor | ⟨htk, _⟩
          · exact hor
          · exfalso
            rcases htk with ⟨x, d0, hx, hl, hh, hlk⟩ | ⟨t', ht', hx⟩
            · rcases hno with hno | hno
              · rw [hlk] at hno; cases hno.2
              have := List.any_eq_false.1 hno x (Array.mem_toList_iff.2 hx)
              simp [isOwnO, hl, hh] at this
            · rw [hs] at ht'
              cases ht'
              rw [hxf] at hx
              cases hx
        obtain ⟨hp, hvt⟩ := hor'
        rw [hs] at hp
        simp only [Lv.put, Option.ite_none_right_eq_some] at hp
        obtain ⟨htn, hp⟩ := hp
        cases hp
        have hd2 : d2 = d := by
          simp only [putS, lk_ins, if_true] at hd'
          exact Option.some.inj hd'
        subst hd2
        refine ⟨by simpa using hown, htn, v, fun m' h1 h2 h3 h4 => ?_, fun K' hK => ?_⟩
        · exact VT.any ((Keeps.of_counts (w := w) (G := G) (kp := fun _ => True) h1 h2 h3 h4).vt (fun _ _ _ _ _ _ _ => trivial) hvt) (by simpa using hown)
        · unfold wpOp
          simp only [ho]
          rw [wantD_sound hRe hw, if_pos rfl]
          left
          unfold Oper.wp
          rw [hr, Oper.upon_value, hs]
          exact hK
      · cases hv
    · cases hv
  · rename_i hw
    cases hv
    refine ⟨rfl, hc.1, undef, fun m' _ _ _ _ => ⟨[], rfl, rfl, fun i d u hd => by simp at hd⟩, fun K' hK => ?_⟩
    unfold wpOp
    simp only [ho]
    rw [wantD_sound hRe hw, if_neg (by simp), hs]
    exact hK
  · cases hv

theorem stepOk.run {j : Nat} (h : stepOk P T ops j s K) (hX : Fits T X) (hR : Rel X G s a w) {Kc : Act → World → Prop} (hk : ∀ s' G' a' w', K s' → Rel X G' s' a' w' → Kc a' w') : wpOp P ops Qc j Kc a w := by
  unfold stepOk at h
  unfold wpOp
  cases ho : ops[j]? with
  | none => rw [ho] at h; exact h.elim
  | some o =>
    rw [ho] at h
    simp only at h ⊢
    cases hw : wantD ops s o with
    | none => rw [hw] at h; exact h.elim
    | some b =>
      rw [hw] at h
      rw [wantD_sound hR hw]
      cases b with
      | true => exact .inl (h X G a w hX hR _ _ hk)
      | false =>
        simp only at h
        rw [if_neg (by simp)]
        cases hp : put T.c o.dst (.tup []) s with
        | none => rw [hp] at h; exact h.elim
        | some s1 =>
          rw [hp] at h
          obtain ⟨G', hR'⟩ := hR.putUndef hX.n hp
          exact hk _ _ _ _ h hR'

theorem wpOp_put1 {j t : Nat} {oj : Oper} {v : Value} (hj : ops[j]? = some oj) (h1 : t ∉ oj.looksAt ops) (h2 : oj.dst ≠ some t) (hsj : ∀ cs b, oj.op ≠ .select cs b)
    (hQ : ∀ c a w, Qc (.panic c) (a.put (some t) v) w → Qc (.panic c) a w) {Kc : Act → World → Prop} (h : wpOp P ops Qc j Kc (a.put (some t) v) w) : wpOp P ops Qc j (fun a' w' => Kc (a'.put (some t) v) w') a w := by
  have h1' : ∀ d, (some t : Option Nat) = some d → d ∉ oj.looksAt ops := fun d hd => by cases hd; exact h1
  have h2' : ∀ d, (some t : Option Nat) = some d → oj.dst ≠ some d := fun d hd => by cases hd; exact h2
  unfold wpOp at *
  simp only [hj] at *
  rw [wanted_put oj a (some t) v h1'] at h
  split
  · rename_i hw
    simp only [hw, if_true] at h
    rcases h with h | ⟨hasks, hlets⟩
    case inr => exact .inr ⟨by unfold Oper.asks at *; rw [execOp_put oj hsj a (some t) v h1'] at hasks; exact hasks, hlets⟩
    refine .inl ?_
    unfold Oper.wp at *
    rw [execOp_put oj hsj a (some t) v h1'] at h
    generalize (execOp a.eval oj).run P w = r at *
    cases r with
    | ok n w' =>
      cases n <;> simp only [Oper.upon] at h ⊢
      case value u => rw [← Act.put_comm a v u h2']; exact h
      case skip => rw [← Act.put_comm a v undef h2']; exact h
      case defer d =>
        rw [← Act.put_comm _ v undef h2', ← Act.put_defers]
        exact h
      case enter f args =>
        refine Calls.mono h fun e w'' he => ?_
        cases e with
        | returned u =>
          show Kc ((a.put oj.dst u).put (some t) v) w''
          rw [← Act.put_comm a v u h2']; exact he
        | panicked c => exact hQ _ _ _ he
        | outgrown => exact he
      case row row args => exact Rows.mono h fun u w'' he => by rw [← Act.put_comm a v u h2']; exact he
    | halt x w' =>
      cases x <;> simp only [Oper.upon] at h ⊢
      case panic u => exact hQ _ _ _ h
  · rename_i hw
    simp only [hw] at h
    rw [← Act.put_comm a v undef h2']
    exact h
end

end Go.Lv

namespace Go.Lv

noncomputable def minus (ts : List Nat) (s : DS) : DS := { s with env := delAll ts s.env }
theorem LeS.minus {s s1 : DS} (h : LeS s s1) (ts : List Nat) : LeS (Lv.minus ts s) (Lv.minus ts s1) := by
  refine { h with env := fun t d ht => ?_ }
  have ht' : lk t (delAll ts s1.env) = some d := ht
  rw [lk_delAll, Option.ite_none_left_eq_some] at ht'
  show lk t (delAll ts s.env) = some d
  rw [lk_delAll, if_neg ht'.1]
  exact h.env t d ht'.2
noncomputable def slots (ops : Array Oper) (Pn : List Nat) : List Nat := Pn.filterMap (dstOf ops)
noncomputable def puts (a : Act) : List (Nat × Value) → Act
  | [] => a
  | x :: r => (puts a r).put (some x.1) x.2

noncomputable def wfK (ops : Array Oper) : Bool := ((List.range ops.size).all fun k => (List.range ops.size).all fun i => !waits ops k i || decide (i < k)) && Region.noSelect ops && (ops.toList.all fun o => o.after.all fun e => !Region.binds .any e || decide (e.on < ops.size))

section
variable {P : Program} {T : St} {X : Ctx} {G G' : Gh} {s s' s1 : DS} {a a' : Act} {w w' : World} {K K' : DS → Prop} {o : Oper} {ops : Array Oper} {Qc : Exit → Act → World → Prop}

theorem keep_ins (t : Nat) (d : D) (l : List (Nat × D)) : ∀ ts : List Nat, t ∉ ts → keep ts (ins t d l) = keep ts l
  | [], _ => rfl
  | u :: r, h => by
    simp only [List.mem_cons, not_or] at h
    simp only [keep, lk_ins]
    rw [if_neg (fun e => h.1 e.symm), keep_ins t d l r h.2]

theorem roV_looks {i t : Nat} {d : D} (h : roV T ops s i = some d) (ht : dstOf ops i = some t) : t ∉ looks ops i ∧ i < ops.size := by
  unfold roV at h
  unfold looks
  unfold dstOf at ht
  cases ho : ops[i]? with
  | none => rw [ho] at h; cases h
  | some o =>
    rw [ho] at h ht
    simp only [Option.bind_some] at ht
    simp only [ht] at h
    rw [Option.ite_none_right_eq_some] at h
    obtain ⟨hc, _⟩ := h
    simp only [Bool.and_eq_true, Bool.not_eq_true'] at hc
    refine ⟨fun hm => ?_, (Array.getElem?_eq_some_iff.1 ho).1⟩
    have := hc.2
    simp at this
    exact this hm

theorem roV_putS {i t : Nat} {d : D} (ht : t ∉ looks ops i) (ho : ownAt t s.env = false) (hd : hasOwn d = false) : roV T ops (putS t d s) i = roV T ops s i := by
  unfold roV looks at *
  cases hoi : ops[i]? with
  | none => rfl
  | some o =>
    rw [hoi] at ht
    simp only at ht
    have e : ({ putS t d s with env := keep (o.looksAt ops) (putS t d s).env } : DS) = { s with env := keep (o.looksAt ops) s.env } := by
      simp only [putS, ho, hd, Bool.or_self, Bool.false_eq_true, if_false]
      rw [keep_ins t d s.env _ ht]
    simp only [e]

theorem putS_m {t : Nat} {d : D} (ho : ownAt t s.env = false) (hd : hasOwn d = false) : putS t d s = { s with env := ins t d s.env } := by
  simp only [putS, ho, hd, Bool.or_self, Bool.false_eq_true, if_false]


theorem puts_getD (a : Act) : ∀ (tvs : List (Nat × Value)) (u : Nat), u ∉ tvs.map (·.1) → (puts a tvs).tmps.getD u undef = a.tmps.getD u undef
  | [], u, _ => rfl
  | x :: r, u, h => by
    simp only [List.map_cons, List.mem_cons, not_or] at h
    have e : (puts a (x :: r)).tmps.getD u undef = (puts a r).tmps.getD u undef := by
      simp only [puts, Act.put, Array.getD_eq_getD_getElem?]
      rw [Array.getElem?_setIfInBounds_ne (fun e => h.1 e.symm)]
    rw [e, puts_getD a r u h.2]
theorem puts_size (a : Act) : ∀ (tvs : List (Nat × Value)), (puts a tvs).tmps.size = a.tmps.size ∧ (puts a tvs).defers = a.defers
  | [] => ⟨rfl, rfl⟩
  | x :: r => by
    obtain ⟨h1, h2⟩ := puts_size a r
    exact ⟨by simp [puts, Act.put, h1], by simp [puts, Act.put, h2]⟩

theorem Rel.unputs {tvs : List (Nat × Value)} (h : Rel X G s (puts a tvs) w) : Rel X G (minus (tvs.map (·.1)) s) a w := by
  have h' := h.less (delAll (tvs.map (·.1)) s.env) s.loc (fun t d ht => by
    rw [lk_delAll, Option.ite_none_left_eq_some] at ht
    exact ht.2) (fun _ _ h => h)
  exact { h' with
    size := by rw [← (puts_size a tvs).1]; exact h.size
    defers := by rw [← (puts_size a tvs).2]; exact h.defers
    env := fun t d ht => by
      have ht' : lk t (delAll (tvs.map (·.1)) s.env) = some d := ht
      rw [lk_delAll, Option.ite_none_left_eq_some] at ht'
      have := h.env t d ht'.2
      rw [puts_getD a tvs t ht'.1] at this
      exact this }

theorem wpOp_puts {j : Nat} {oj : Oper} (hj : ops[j]? = some oj) (hsj : ∀ cs b, oj.op ≠ .select cs b) (hQ : ∀ c a w, ¬ Qc (.panic c) a w) : ∀ (tvs : List (Nat × Value)) {Kc : Act → World → Prop} {a : Act}, (∀ t, t ∈ tvs.map (·.1) → t ∉ oj.looksAt ops ∧ oj.dst ≠ some t) → wpOp P ops Qc j Kc (puts a tvs) w →
    wpOp P ops Qc j (fun a' w' => Kc (puts a' tvs) w') a w
  | [], Kc, a, _, h => h
  | x :: r, Kc, a, hd, h => by
    have h1 := wpOp_put1 (t := x.1) (v := x.2) hj (hd x.1 (by simp)).1 (hd x.1 (by simp)).2 hsj (fun c a w hq => absurd hq (hQ _ _ _)) (a := puts a r) h
    exact wpOp_puts hj hsj hQ r (Kc := fun a' w' => Kc (a'.put (some x.1) x.2) w') (fun t ht => hd t (by simp only [List.map_cons, List.mem_cons]; exact .inr ht)) h1

structure Pend (T : St) (ops : Array Oper) (L Pn : List Nat) (s : DS) : Prop where
  ok : ∀ i, i ∈ Pn → i ∈ L ∧ rdy ops L i = true ∧ aloneK ops i = true ∧ ∃ t d, dstOf ops i = some t ∧ roV T ops s i = some d ∧ lk t s.env = some d
  pw : Pn.Pairwise fun k i => k ≠ i ∧ waits ops i k = false ∧ ∀ t, dstOf ops k = some t → t ∉ looks ops i

theorem slots_cons {i t : Nat} {Pn : List Nat} (h : dstOf ops i = some t) : slots ops (i :: Pn) = t :: slots ops Pn := by simp [slots, h]
theorem mem_slots {t : Nat} {Pn : List Nat} : t ∈ slots ops Pn ↔ ∃ i, i ∈ Pn ∧ dstOf ops i = some t := by simp [slots, List.mem_filterMap]

theorem Rel.read (H : LyOK P T.L) (hX : Fits T X) {ts : List Nat} {i t : Nat} {d : D} (hR : Rel X G (minus ts s) a w) (ht : dstOf ops i = some t) (hv : roV T ops s i = some d) (hl : lk t s.env = some d) (hlk : ∀ u, u ∈ ts → u ∉ looks ops i) (htt : t ∈ ts) :
    ∃ v, (∀ K', K' (a.put (some t) v) w → wpOp P ops Qc i K' a w) ∧ ∀ ts' : List Nat, (∀ u, u ∈ ts → u = t ∨ u ∈ ts') → Rel X G (minus ts' s) (a.put (some t) v) w := by
  have hdo : ∃ o, ops[i]? = some o ∧ ∀ u, u ∈ o.looksAt ops → ∀ e, lk u s.env = some e → lk u (minus ts s).env = some e := by
    unfold dstOf at ht
    cases ho : ops[i]? with
    | none => rw [ho] at ht; cases ht
    | some o =>
      refine ⟨o, rfl, fun u hu e he => ?_⟩
      show lk u (delAll ts s.env) = some e
      rw [lk_delAll, if_neg ?_]
      · exact he
      · intro hm
        have := hlk u hm
        unfold looks at this
        rw [ho] at this
        exact this hu
  obtain ⟨hown, htn, v, hvt, hrun⟩ := roV_run (Qc := Qc) H hX ht hv hdo ⟨rfl, rfl, rfl⟩ hR
  refine ⟨v, hrun, fun ts' hts => ?_⟩
  have hno : ownAt t (minus ts s).env = false := by
    unfold ownAt
    show (match lk t (delAll ts s.env) with | some d => hasOwn d | none => false) = false
    rw [lk_delAll, if_pos htt]
  have hp := hR.put (t := t) (d := d) (v := v) (by rw [← hX.n]; exact htn) (by
    rw [putS_m hno hown]
    exact hvt s.m rfl (fun _ => Nat.le_refl _) (fun _ => Nat.le_refl _) (Nat.le_refl _))
  rw [putS_m hno hown] at hp
  exact hp.less (delAll ts' s.env) s.loc (fun u e hu => by
    rw [lk_delAll, Option.ite_none_left_eq_some] at hu
    show lk u (ins t d (delAll ts s.env)) = some e
    rw [lk_ins]
    by_cases hut : u = t
    · subst hut
      rw [if_pos rfl, ← hl, hu.2]
    · rw [if_neg hut, lk_delAll, if_neg]
      · exact hu.2
      · intro hm
        rcases hts u hm with q | q
        · exact hut q
        · exact hu.1 q) (fun _ _ h => h)

theorem preex (H : LyOK P T.L) (hX : Fits T X) : ∀ (Pn R : List Nat), (∀ i, i ∈ Pn → ∃ t d, dstOf ops i = some t ∧ roV T ops s i = some d ∧ lk t s.env = some d) → Pn.Pairwise (fun k i => ∀ t, dstOf ops k = some t → t ∉ looks ops i) → (∀ i, i ∈ Pn → ∀ u, u ∈ R → u ∉ looks ops i) → Rel X G (minus (slots ops Pn ++ R) s) a w →
    ∃ tvs : List (Nat × Value), tvs.map (·.1) = slots ops Pn ∧ Rel X G (minus R s) (puts a tvs) w
  | [], R, _, _, _, hR => ⟨[], rfl, hR⟩
  | i :: B, R, hok, hpw, hRl, hR => by
    obtain ⟨t, d, h1, h2, h3⟩ := hok i (by simp)
    rw [List.pairwise_cons] at hpw
    have hnl := (roV_looks h2 h1).1
    obtain ⟨tvs, e1, r1⟩ := preex H hX B (t :: R) (fun k hk => hok k (by simp [hk])) hpw.2 (fun k hk u hu => by
      rcases List.mem_cons.1 hu with rfl | hu
      · exact hpw.1 k hk u h1
      · exact hRl k (by simp [hk]) u hu) (by
      refine hR.less _ _ (fun u e hu => ?_) (fun _ _ h => h)
      have hu' : lk u (delAll (slots ops B ++ (t :: R)) s.env) = some e := hu
      rw [lk_delAll, Option.ite_none_left_eq_some] at hu'
      show lk u (delAll (slots ops (i :: B) ++ R) s.env) = some e
      rw [lk_delAll, if_neg, hu'.2]
      rw [slots_cons h1]
      intro hm
      apply hu'.1
      simp only [List.cons_append, List.mem_cons, List.mem_append] at hm ⊢
      rcases hm with q | q | q
      · exact .inr (.inl q)
      · exact .inl q
      · exact .inr (.inr q))
    obtain ⟨v, _, q2⟩ := Rel.read (ops := ops) (Qc := fun _ _ _ => True) H hX r1 h1 h2 h3 (fun u hu => by
      rcases List.mem_cons.1 hu with rfl | hu
      · exact hnl
      · exact hRl i (by simp) u hu) (by simp)
    refine ⟨(t, v) :: tvs, by rw [slots_cons h1, List.map_cons, e1], q2 R fun u hu => ?_⟩
    rcases List.mem_cons.1 hu with q | q
    · exact .inl q
    · exact .inr q
end

end Go.Lv

namespace Go.Lv

section
variable {P : Program} {T : St} {X : Ctx} {G G' : Gh} {s s' s1 : DS} {a a' : Act} {w w' : World} {K K' : DS → Prop} {o : Oper} {ops : Array Oper} {Qc : Exit → Act → World → Prop}

theorem any_iff {α : Type} {p : α → Bool} {xs : Array α} : xs.any p = true ↔ ∃ x, x ∈ xs ∧ p x = true := by
  rw [← Array.any_toList, List.any_eq_true]
  constructor
  · rintro ⟨x, h1, h2⟩; exact ⟨x, Array.mem_toList_iff.1 h1, h2⟩
  · rintro ⟨x, h1, h2⟩; exact ⟨x, Array.mem_toList_iff.2 h1, h2⟩

theorem roV_noOwn {i : Nat} {d : D} (h : roV T ops s i = some d) : hasOwn d = false := by
  unfold roV at h
  split at h
  · cases h
  · split at h
    · cases h
    · simp only at h
      rw [Option.ite_none_right_eq_some] at h
      obtain ⟨_, h⟩ := h
      split at h
      · rw [Option.ite_none_right_eq_some] at h
        obtain ⟨_, h⟩ := h
        split at h
        · split at h
          · rw [Option.ite_none_left_eq_some] at h
            obtain ⟨h1, h2⟩ := h
            cases h2
            simpa using h1
          · cases h
        · cases h
      · cases h; rfl
      · cases h

theorem rdy_iff {L : List Nat} {k : Nat} (hk : k < ops.size) : rdy ops L k = true ↔ ∀ i, waits ops k i = true → i ∈ L := by
  unfold rdy waits
  rw [Array.getElem?_eq_getElem hk]
  simp only
  constructor
  · intro h i hi
    rw [any_iff] at hi
    obtain ⟨e, he, hq⟩ := hi
    simp only [Bool.and_eq_true, beq_iff_eq] at hq
    have := Array.all_eq_true_iff_forall_mem.1 h e he
    rw [hq.1] at this
    simp only [Bool.not_true, Bool.false_or, List.contains_iff_mem] at this
    rw [← hq.2]
    exact this
  · intro h
    refine Array.all_eq_true_iff_forall_mem.2 fun e he => ?_
    cases hb : Region.binds .any e with
    | false => rfl
    | true =>
      simp only [Bool.not_true, Bool.false_or, List.contains_iff_mem]
      refine h e.on (any_iff.2 ⟨e, he, ?_⟩)
      simp [hb]

theorem ready_iff {listed : Array Bool} (hs : listed.size = ops.size) {k : Nat} : k ∈ Region.ready .any ops listed ↔ k < ops.size ∧ listed.getD k true = false ∧ ∀ i, waits ops k i = true → listed.getD i false = true := by
  rw [mem_ready]
  constructor
  · rintro ⟨h1, o, ho, h2⟩
    have hk := (Array.getElem?_eq_some_iff.1 ho).1
    refine ⟨hk, h1, fun i hi => ?_⟩
    unfold waits at hi
    rw [ho] at hi
    simp only at hi
    rw [any_iff] at hi
    obtain ⟨e, he, hq⟩ := hi
    simp only [Bool.and_eq_true, beq_iff_eq] at hq
    rw [← hq.2]
    exact h2 e he hq.1
  · rintro ⟨hk, h1, h2⟩
    refine ⟨h1, ops[k], Array.getElem?_eq_getElem hk, fun e he hb => h2 e.on ?_⟩
    unfold waits
    rw [Array.getElem?_eq_getElem hk]
    refine any_iff.2 ⟨e, he, ?_⟩
    simp [hb]

structure Lst (ops : Array Oper) (L Pn : List Nat) (listed : Array Bool) : Prop where
  size : listed.size = ops.size
  iff : ∀ k, k < ops.size → (listed.getD k false = true ↔ k ∈ L ∧ k ∉ Pn)
  cl : ∀ k i, k < ops.size → listed.getD k false = true → waits ops k i = true → listed.getD i false = true

theorem getD_lt {listed : Array Bool} {k : Nat} (h : k < listed.size) (x y : Bool) : listed.getD k x = listed.getD k y := by simp [h]

noncomputable def cnt (listed : Array Bool) : Nat := (listed.toList.filter fun b => !b).length
theorem cnt_set {listed : Array Bool} {k : Nat} (h : k < listed.size) (hf : listed.getD k true = false) : cnt (listed.setIfInBounds k true) + 1 = cnt listed := by
  unfold cnt
  have key : ∀ (l : List Bool) (k : Nat), l[k]? = some false → ((l.set k true).filter fun b => !b).length + 1 = (l.filter fun b => !b).length := by
    intro l
    induction l with
    | nil => intro k h; simp at h
    | cons x r ih =>
      intro k h
      cases k with
      | zero => simp at h; subst h; simp
      | succ k =>
        simp at h
        have := ih k h
        cases x <;> simp [List.set] <;> omega
  have hx : listed.toList[k]? = some false := by
    simp [h] at hf
    simp [h, hf]
  have := key listed.toList k hx
  simpa using this

theorem wf_lt (h : wfK ops = true) {k i : Nat} (hk : k < ops.size) (hw : waits ops k i = true) : i < k := by
  simp only [wfK, Bool.and_eq_true] at h
  have hi : i < ops.size := by
    unfold waits at hw
    rw [Array.getElem?_eq_getElem hk] at hw
    simp only at hw
    rw [any_iff] at hw
    obtain ⟨e, he, hq⟩ := hw
    simp only [Bool.and_eq_true, beq_iff_eq] at hq
    have h3 := Array.all_eq_true_iff_forall_mem.1 (List.all_eq_true.1 h.2 ops[k] (by simp)) e he
    rw [hq.1] at h3
    simp at h3
    omega
  have := List.all_eq_true.1 (List.all_eq_true.1 h.1.1 k (List.mem_range.2 hk)) i (List.mem_range.2 hi)
  rw [hw] at this
  simpa using this

theorem none_left (hwf : wfK ops = true) {L Pn : List Nat} {listed : Array Bool} (hl : Lst ops L Pn listed) (hr : Region.ready .any ops listed = []) : ∀ k, k < ops.size → k ∈ L ∧ k ∉ Pn := by
  intro k
  induction k using Nat.strongRecOn with
  | _ k ih =>
    intro hk
    refine Classical.byContradiction fun hn => ?_
    have hm : k ∈ Region.ready .any ops listed := (ready_iff hl.size).2 ⟨hk, ?_, fun i hi => ?_⟩
    · rw [hr] at hm; cases hm
    · rw [getD_lt (by rw [hl.size]; exact hk) true false]
      cases hg : listed.getD k false with
      | false => rfl
      | true => exact absurd ((hl.iff k hk).1 hg) hn
    · have hik := wf_lt hwf hk hi
      exact (hl.iff i (by omega)).2 (ih i hik (by omega))

theorem Lst.step {L Pn : List Nat} {listed : Array Bool} (hl : Lst ops L Pn listed) {i : Nat} (hi : i < ops.size) {L' Pn' : List Nat} (h1 : ∀ k, k ∈ L' ↔ k ∈ L ∨ k = i) (h2 : ∀ k, k ∈ Pn' ↔ k ∈ Pn ∧ k ≠ i) (hw : ∀ i', waits ops i i' = true → listed.getD i' false = true) : Lst ops L' Pn' (listed.setIfInBounds i true) where
  size := by simp [hl.size]
  cl := fun k i' hk hg hwk => by
    have up : ∀ x, listed.getD x false = true → (listed.setIfInBounds i true).getD x false = true := fun x hx => by
      by_cases e : x = i
      · subst e
        simp [hl.size, hi]
      · have : (listed.setIfInBounds i true).getD x false = listed.getD x false := by
          simp [Array.getElem?_setIfInBounds_ne (fun q => e q.symm)]
        rw [this]; exact hx
    by_cases e : k = i
    · subst e
      exact up _ (hw i' hwk)
    · have : (listed.setIfInBounds i true).getD k false = listed.getD k false := by
        simp [Array.getElem?_setIfInBounds_ne (fun q => e q.symm)]
      rw [this] at hg
      exact up _ (hl.cl k i' hk hg hwk)
  iff := fun k hk => by
    by_cases e : k = i
    · subst e
      have : (listed.setIfInBounds k true).getD k false = true := by simp [hl.size, hk]
      rw [this]
      simp [h1, h2]
    · have : (listed.setIfInBounds i true).getD k false = listed.getD k false := by
        simp [Array.getElem?_setIfInBounds_ne (fun q => e q.symm)]
      rw [this, hl.iff k hk, h1, h2]
      simp [e]

theorem alone_spec {i t : Nat} (h : aloneK ops i = true) (ht : dstOf ops i = some t) {k : Nat} (hk : k < ops.size) (hne : k ≠ i) : dstOf ops k ≠ some t ∧ (t ∈ looks ops k → waits ops k i = true) := by
  unfold aloneK at h
  rw [ht] at h
  have := List.all_eq_true.1 h k (List.mem_range.2 hk)
  simp only [Bool.or_eq_true, beq_iff_eq, hne, false_or, Bool.and_eq_true, bne_iff_ne, ne_eq, Bool.not_eq_true'] at this
  refine ⟨this.1, fun hm => ?_⟩
  rcases this.2 with q | q
  · have : (looks ops k).contains t = true := List.contains_iff_mem.2 hm
    rw [q] at this
    cases this
  · exact q

theorem pick_pend (H : LyOK P T.L) (hX : Fits T X) (hwf : wfK ops = true) {L Pn : List Nat} {listed : Array Bool} (hl : Lst ops L Pn listed) (hp : Pend T ops L Pn s) {i : Nat} (hi : i ∈ Pn) (hri : i ∈ Region.ready .any ops listed) (hR : Rel X G (minus (slots ops Pn) s) a w) :
    ∃ a', (∀ K', K' a' w → wpOp P ops Qc i K' a w) ∧ Rel X G (minus (slots ops (Pn.filter (· != i))) s) a' w ∧ Lst ops L (Pn.filter (· != i)) (listed.setIfInBounds i true) ∧ Pend T ops L (Pn.filter (· != i)) s := by
  obtain ⟨hL, hrd, hal, t, d, h1, h2, h3⟩ := hp.ok i hi
  obtain ⟨hnl, hisz⟩ := roV_looks h2 h1
  obtain ⟨_, _, hw⟩ := (ready_iff hl.size).1 hri
  obtain ⟨v, hrun, hput⟩ := Rel.read (ops := ops) (Qc := Qc) H hX hR h1 h2 h3 (fun u hu => by
    obtain ⟨k, hk, hkd⟩ := mem_slots.1 hu
    by_cases e : k = i
    · subst e
      rw [h1] at hkd
      cases hkd
      exact hnl
    · intro hm
      have hkp := hp.ok k hk
      obtain ⟨_, _, halk, _⟩ := hkp
      have := (alone_spec halk hkd hisz (fun q => e q.symm)).2 hm
      have hk2 := hw k this
      have hksz : k < ops.size := by have := wf_lt hwf hisz this; omega
      exact ((hl.iff k hksz).1 hk2).2 hk) (mem_slots.2 ⟨i, hi, h1⟩)
  refine ⟨_, hrun, hput _ (fun u hu => ?_), hl.step hisz (fun k => ?_) (fun k => ?_) hw, ⟨fun k hk => hp.ok k ((List.mem_filter.1 hk).1), hp.pw.sublist List.filter_sublist⟩⟩
  · obtain ⟨k, hk, hkd⟩ := mem_slots.1 hu
    by_cases e : k = i
    · subst e
      rw [h1] at hkd
      cases hkd
      exact .inl rfl
    · exact .inr (mem_slots.2 ⟨k, List.mem_filter.2 ⟨hk, by simpa using e⟩, hkd⟩)
  · constructor
    · exact fun h => .inl h
    · rintro (h | rfl)
      · exact h
      · exact hL
  · simp [List.mem_filter]

theorem Sch.sound (H : LyOK P T.L) (hX : Fits T X) (hwf : wfK ops = true) (hQ : ∀ c a w, ¬ Qc (.panic c) a w) (hK : ∀ s' G' a' w', K s' → Rel X G' s' a' w' → Qc .normal a' w') :
    ∀ (f : Nat) (L V Pn : List Nat) (s : DS) (listed : Array Bool) (n : Nat) (G : Gh) (a : Act) (w : World), Sch P T ops f L V s K → Lst ops L Pn listed → Pend T ops L Pn s → (∀ i, i ∈ Pn → i ∈ V) → cnt listed ≤ n → Rel X G (minus (slots ops Pn) s) a w → wpAny P .any ops Qc n listed a w := by
  -- all is done, or read ahead
  have fin : ∀ (n : Nat) (L Pn : List Nat) (s : DS) (listed : Array Bool) (G : Gh) (a : Act) (w : World), (∀ k, k < ops.size → k ∈ L) → K s → Lst ops L Pn listed → Pend T ops L Pn s → cnt listed ≤ n → Rel X G (minus (slots ops Pn) s) a w → wpAny P .any ops Qc n listed a w := by
    intro n
    induction n with
    | zero =>
      intro L Pn s listed G a w hall hKs hl hp hc hR
      have hno : Region.ready .any ops listed = [] := by
        cases hr : Region.ready .any ops listed with
        | nil => rfl
        | cons i r =>
          obtain ⟨h1, h2, _⟩ := (ready_iff hl.size).1 (show i ∈ Region.ready .any ops listed by rw [hr]; simp)
          have := cnt_set (by rw [hl.size]; exact h1) h2
          omega
      have hleft := none_left hwf hl hno
      have hPn : Pn = [] := by
        cases Pn with
        | nil => rfl
        | cons i r =>
          obtain ⟨_, _, _, t, d, h1, h2, _⟩ := hp.ok i (by simp)
          exact absurd (by simp) (hleft i (roV_looks h2 h1).2).2
      subst hPn
      exact ⟨hno, hK s G a w hKs hR⟩
    | succ n ih =>
      intro L Pn s listed G a w hall hKs hl hp hc hR
      refine ⟨fun hno => ?_, fun i hi => ?_⟩
      · have hleft := none_left hwf hl hno
        have hPn : Pn = [] := by
          cases Pn with
          | nil => rfl
          | cons i r =>
            obtain ⟨_, _, _, t, d, h1, h2, _⟩ := hp.ok i (by simp)
            exact absurd (by simp) (hleft i (roV_looks h2 h1).2).2
        subst hPn
        exact hK s G a w hKs hR
      · obtain ⟨h1, h2, _⟩ := (ready_iff hl.size).1 hi
        have hcs := cnt_set (by rw [hl.size]; exact h1) h2
        have hiP : i ∈ Pn := by
          refine Classical.byContradiction fun hn => ?_
          have := (hl.iff i h1).2 ⟨hall i h1, hn⟩
          rw [getD_lt (by rw [hl.size]; exact h1) true false, this] at h2
          cases h2
        obtain ⟨a', q1, q2, q3, q4⟩ := pick_pend (Qc := Qc) H hX hwf hl hp hiP hi hR
        exact q1 _ (ih L _ s _ G a' w hall hKs q3 q4 (by omega) q2)
  intro f
  induction f with
  | zero =>
    intro L V Pn s listed n G a w h hl hp hV hc hR
    obtain ⟨hall, hKs⟩ := h
    exact fin n L Pn s listed G a w hall hKs hl hp hc hR
  | succ f ih =>
    intro L V Pn s listed n
    have weak : ∀ (Pn : List Nat) (s : DS) (listed : Array Bool) (n : Nat) (G : Gh) (a : Act) (w : World), (∃ L' V' s1, (∀ k, k ∈ L' ↔ k ∈ L) ∧ (∀ k, k ∈ V → k ∈ V') ∧ LeS s s1 ∧ stillV T ops V s s1 ∧ Sch P T ops f L' V' s1 K) → Lst ops L Pn listed → Pend T ops L Pn s → (∀ i, i ∈ Pn → i ∈ V) → cnt listed ≤ n → Rel X G (minus (slots ops Pn) s) a w → wpAny P .any ops Qc n listed a w := by
      intro Pn s listed n G a w ⟨L', V', s1, hL, hV', hle, hst, hsch⟩ hl hp hV hc hR
      refine ih L' V' Pn s1 listed n G a w hsch ⟨hl.size, fun k hk => by rw [hl.iff k hk, hL], hl.cl⟩ ⟨fun i hi => ?_, hp.pw⟩ (fun i hi => hV' i (hV i hi)) hc (hR.le (hle.minus _))
      obtain ⟨k1, k2, k3, t', d', k4, k5, k6⟩ := hp.ok i hi
      obtain ⟨_, hksz⟩ := roV_looks k5 k4
      obtain ⟨s5, s6⟩ := hst i (hV i hi) t' d' k4 k5 k6
      exact ⟨(hL i).2 k1, (rdy_iff hksz).2 fun i hi => (hL i).2 ((rdy_iff hksz).1 k2 i hi), k3, t', d', k4, s5, s6⟩
    induction n generalizing Pn s listed with
    | zero =>
      intro G a w h hl hp hV hc hR
      have hno : Region.ready .any ops listed = [] := by
        cases hr : Region.ready .any ops listed with
        | nil => rfl
        | cons i r =>
          obtain ⟨h1, h2, _⟩ := (ready_iff hl.size).1 (show i ∈ Region.ready .any ops listed by rw [hr]; simp)
          have := cnt_set (by rw [hl.size]; exact h1) h2
          omega
      have hleft := none_left hwf hl hno
      rcases h with ⟨hall, hKs⟩ | ⟨i, t, d, hiL, ht, _, _, _, hv, _⟩ | ⟨⟨j, hj, hjL⟩, _⟩ | hw
      · exact fin 0 L Pn s listed G a w hall hKs hl hp hc hR
      · exact absurd (hleft i (roV_looks hv ht).2).1 hiL
      · exact absurd (hleft j hj).1 hjL
      · exact weak Pn s listed 0 G a w hw hl hp hV hc hR
    | succ n ihn =>
      intro G a w h hl hp hV hc hR
      rcases h with ⟨hall, hKs⟩ | ⟨i, t, d, hiL, ht, hrd, hal, hno, hv, hrest⟩ | ⟨⟨j0, hj0, hj0L⟩, hall⟩ | hw
      · exact fin (n + 1) L Pn s listed G a w hall hKs hl hp hc hR
      · -- read ahead
        obtain ⟨hnl, hisz⟩ := roV_looks hv ht
        have hown : hasOwn d = false := roV_noOwn hv
        have hps := putS_m (d := d) hno hown
        have hiPn : i ∉ Pn := fun q => hiL (hp.ok i q).1
        refine ih (i :: L) (i :: V) (i :: Pn) (putS t d s) listed (n + 1) G a w hrest ⟨hl.size, fun k hk => ?_, hl.cl⟩ ⟨fun k hk => ?_, ?_⟩ (fun k hk => ?_) hc ?_
        · rw [hl.iff k hk]
          simp only [List.mem_cons, not_or]
          constructor
          · rintro ⟨q1, q2⟩
            exact ⟨.inr q1, fun e => hiL (e ▸ q1), q2⟩
          · rintro ⟨q1, q2, q3⟩
            exact ⟨q1.resolve_left q2, q3⟩
        · rcases List.mem_cons.1 hk with rfl | hk
          · refine ⟨by simp, (rdy_iff hisz).2 fun i hi => List.mem_cons_of_mem _ ((rdy_iff hisz).1 hrd i hi), hal, t, d, ht, ?_, ?_⟩
            · rw [roV_putS hnl hno hown]; exact hv
            · rw [hps]; show lk t (ins t d s.env) = _; rw [lk_ins, if_pos rfl]
          · obtain ⟨k1, k2, k3, t', d', k4, k5, k6⟩ := hp.ok k hk
            obtain ⟨_, hksz⟩ := roV_looks k5 k4
            have hki : k ≠ i := fun e => hiPn (e ▸ hk)
            obtain ⟨b1, b2⟩ := alone_spec hal ht hksz hki
            have htk : t ∉ looks ops k := fun hm => hiL ((rdy_iff hksz).1 k2 i (b2 hm))
            refine ⟨by simp [k1], (rdy_iff hksz).2 fun i hi => List.mem_cons_of_mem _ ((rdy_iff hksz).1 k2 i hi), k3, t', d', k4, ?_, ?_⟩
            · rw [roV_putS htk hno hown]; exact k5
            · rw [hps]
              show lk t' (ins t d s.env) = _
              rw [lk_ins, if_neg]
              · exact k6
              · rintro rfl
                exact b1 k4
        · rw [List.pairwise_cons]
          refine ⟨fun k hk => ?_, hp.pw⟩
          obtain ⟨k1, k2, k3, t', d', k4, k5, k6⟩ := hp.ok k hk
          obtain ⟨_, hksz⟩ := roV_looks k5 k4
          have hki : k ≠ i := fun e => hiPn (e ▸ hk)
          have hwk : waits ops k i = false := by
            cases hwk : waits ops k i with
            | false => rfl
            | true => exact absurd ((rdy_iff hksz).1 k2 i hwk) hiL
          refine ⟨fun e => hki e.symm, hwk, fun t' ht' hm => ?_⟩
          rw [ht] at ht'
          cases ht'
          rw [(alone_spec hal ht hksz hki).2 hm] at hwk
          cases hwk
        · rcases List.mem_cons.1 hk with rfl | hk
          · simp
          · exact List.mem_cons_of_mem _ (hV k hk)
        · rw [hps, slots_cons ht]
          refine hR.less _ _ (fun u e hu => ?_) (fun _ _ h => h)
          have hu' : lk u (delAll (t :: slots ops Pn) (ins t d s.env)) = some e := hu
          rw [lk_delAll, Option.ite_none_left_eq_some] at hu'
          obtain ⟨h1, h2⟩ := hu'
          simp only [List.mem_cons, not_or] at h1
          rw [lk_ins, if_neg h1.1] at h2
          show lk u (delAll (slots ops Pn) s.env) = some e
          rw [lk_delAll, if_neg h1.2]
          exact h2
      · -- one of those that are ready
        refine ⟨fun hno => absurd (none_left hwf hl hno j0 hj0).1 hj0L, fun j hj => ?_⟩
        obtain ⟨h1, h2, hw⟩ := (ready_iff hl.size).1 hj
        have hcs := cnt_set (by rw [hl.size]; exact h1) h2
        by_cases hjP : j ∈ Pn
        · obtain ⟨a', q1, q2, q3, q4⟩ := pick_pend (Qc := Qc) H hX hwf hl hp hjP hj hR
          exact q1 _ (ihn _ s _ G a' w (.inr (.inr (.inl ⟨⟨j0, hj0, hj0L⟩, hall⟩))) q3 q4 (fun i hi => hV i ((List.mem_filter.1 hi).1)) (by omega) q2)
        · have hjL : j ∉ L := fun hm => by
            have := (hl.iff j h1).2 ⟨hm, hjP⟩
            rw [getD_lt (by rw [hl.size]; exact h1) true false, this] at h2
            cases h2
          have hwl : ∀ i, waits ops j i = true → i ∈ L ∧ i ∉ Pn := fun i hi => (hl.iff i (by have := wf_lt hwf h1 hi; omega)).1 (hw i hi)
          have hrd : rdy ops L j = true := (rdy_iff h1).2 fun i hi => (hwl i hi).1
          have hst := hall j h1 hjL hrd
          obtain ⟨tvs, e1, r1⟩ := preex (ops := ops) H hX Pn [] (fun i hi => (hp.ok i hi).2.2.2) (hp.pw.imp fun h => h.2.2) (fun i hi u hu => by cases hu) (by rw [List.append_nil]; exact hR)
          have r1' : Rel X G s (puts a tvs) w := r1
          have hoj : ops[j]? = some ops[j] := Array.getElem?_eq_getElem h1
          have hns : ∀ cs b, ops[j].op ≠ .select cs b := by
            intro cs b
            simp only [wfK, Bool.and_eq_true] at hwf
            exact Region.noSelect_spec hwf.1.2 j ops[j] cs b hoj
          have hrun := stepOk.run (Qc := Qc) hst hX r1' (Kc := fun a' w' => ∃ s1 G1, (stillV T ops (dropB ops j V) s s1 ∧ Sch P T ops f (j :: L) (dropB ops j V) s1 K) ∧ Rel X G1 s1 a' w') (fun s' G' a' w' q1 q2 => ⟨s', G', q1, q2⟩)
          have hrun2 := wpOp_puts hoj hns hQ tvs (fun t ht => by
            rw [e1] at ht
            obtain ⟨i, hi, hid⟩ := mem_slots.1 ht
            have hij : j ≠ i := fun e => hjP (e ▸ hi)
            obtain ⟨_, _, hal, _⟩ := hp.ok i hi
            obtain ⟨b1, b2⟩ := alone_spec hal hid h1 hij
            refine ⟨fun hm => ?_, fun hd => ?_⟩
            · have : t ∈ looks ops j := by unfold looks; rw [hoj]; exact hm
              exact (hwl i (b2 this)).2 hi
            · apply b1
              unfold dstOf
              rw [hoj]
              exact hd) hrun
          refine wpOp_mono (fun a' w' hq => ?_) hrun2
          obtain ⟨s1, G1, ⟨hstill, hsch⟩, hR1⟩ := hq
          have hR2 := hR1.unputs
          rw [e1] at hR2
          have hbef : ∀ (ks S : List Nat), (∀ m, m ∈ S → m = j ∨ (m < ops.size ∧ listed.getD m false = true)) → ∀ m, m ∈ befF ops ks S → m = j ∨ (m < ops.size ∧ listed.getD m false = true) := by
            intro ks
            induction ks with
            | nil => intro S hS m hm; exact hS m hm
            | cons k r ihk =>
              intro S hS m hm
              refine ihk _ (fun m hm => ?_) m hm
              split at hm
              · rename_i hany
                rcases List.mem_cons.1 hm with e | hm
                · subst e
                  obtain ⟨x, hx, hxk⟩ := List.any_eq_true.1 hany
                  rcases hS x hx with e | ⟨hx1, hx2⟩
                  · subst e
                    exact .inr ⟨by have := wf_lt hwf h1 hxk; omega, hw _ hxk⟩
                  · exact .inr ⟨by have := wf_lt hwf hx1 hxk; omega, hl.cl x _ hx1 hx2 hxk⟩
                · exact hS m hm
              · exact hS m hm
          have hVf : ∀ i, i ∈ Pn → i ∈ dropB ops j V := fun i hi => by
            refine List.mem_filter.2 ⟨hV i hi, ?_⟩
            cases hwi : (befF ops (List.range j).reverse [j]).contains i with
            | false => rfl
            | true =>
              rcases hbef _ [j] (fun m hm => .inl (by simpa using hm)) i (List.contains_iff_mem.1 hwi) with e | ⟨q1, q2⟩
              · exact absurd hi (e ▸ hjP)
              · exact absurd hi ((hl.iff i q1).1 q2).2
          refine ih (j :: L) _ Pn s1 _ n G1 a' w' hsch (hl.step h1 (fun k => by simp [or_comm]) (fun k => ?_) hw) ⟨fun i hi => ?_, hp.pw⟩ hVf (by omega) hR2
          · constructor
            · exact fun hk => ⟨hk, fun e => hjP (e ▸ hk)⟩
            · exact fun hk => hk.1
          · obtain ⟨k1, k2, k3, t', d', k4, k5, k6⟩ := hp.ok i hi
            obtain ⟨_, hksz⟩ := roV_looks k5 k4
            obtain ⟨s5, s6⟩ := hstill i (hVf i hi) t' d' k4 k5 k6
            exact ⟨by simp [k1], (rdy_iff hksz).2 fun i hi => List.mem_cons_of_mem _ ((rdy_iff hksz).1 k2 i hi), k3, t', d', k4, s5, s6⟩
      · exact weak Pn s listed (n + 1) G a w hw hl hp hV hc hR

theorem Rel.drew (h : Rel X G s a w) {n : Nat} : Rel X G s a { w with drawn := n } where
  size := h.size
  defers := h.defers
  env := fun t d ht => (Keeps.vt (w := w) (G := G) (m := s.m) (w' := { w with drawn := n }) (G' := G) (m' := s.m) (kp := fun _ => True) { be := fun _ _ h => h, st := fun _ _ h => h, cell := fun _ _ _ _ _ => rfl, ep := Nat.le_refl _, rv := fun _ => Nat.le_refl _, al := fun _ => Nat.le_refl _, era := Nat.le_refl _, rd := fun _ _ _ h => ⟨h, fun _ _ => rfl⟩, pl := fun _ _ _ => rfl, la := fun _ _ => rfl, own := fun _ _ _ h => ⟨h, rfl, fun _ => ⟨rfl, rfl⟩⟩, opl := fun _ _ => rfl, mp := fun _ k b es clock _ hh => ⟨es, clock, hh, fun i x hx => ⟨x, hx, rfl⟩⟩ } (fun _ _ _ _ _ _ _ => trivial) (h.env t d ht))
  loc := fun t cs ht => by
    obtain ⟨h1, h2⟩ := h.loc t cs ht
    refine ⟨h1, Keeps.box (w := w) (G := G) (m := s.m) (w' := { w with drawn := n }) (G' := G) (m' := s.m) (kp := fun _ => True) { be := fun _ _ h => h, st := fun _ _ h => h, cell := fun _ _ _ _ _ => rfl, ep := Nat.le_refl _, rv := fun _ => Nat.le_refl _, al := fun _ => Nat.le_refl _, era := Nat.le_refl _, rd := fun _ _ _ h => ⟨h, fun _ _ => rfl⟩, pl := fun _ _ _ => rfl, la := fun _ _ => rfl, own := fun _ _ _ h => ⟨h, rfl, fun _ => ⟨rfl, rfl⟩⟩, opl := fun _ _ => rfl, mp := fun _ k b es clock _ hh => ⟨es, clock, hh, fun i x hx => ⟨x, hx, rfl⟩⟩ } (fun _ _ _ _ => trivial) (fun _ => ⟨rfl, rfl⟩) h2⟩
  sto := fun k o hk => by
    obtain ⟨b, h1, h2, h3, h4⟩ := h.sto k o hk
    have K : Keeps w G s.m { w with drawn := n } G s.m (fun _ => True) := { be := fun _ _ h => h, st := fun _ _ h => h, cell := fun _ _ _ _ _ => rfl, ep := Nat.le_refl _, rv := fun _ => Nat.le_refl _, al := fun _ => Nat.le_refl _, era := Nat.le_refl _, rd := fun _ _ _ h => ⟨h, fun _ _ => rfl⟩, pl := fun _ _ _ => rfl, la := fun _ _ => rfl, own := fun _ _ _ h => ⟨h, rfl, fun _ => ⟨rfl, rfl⟩⟩, opl := fun _ _ => rfl, mp := fun _ k b es clock _ hh => ⟨es, clock, hh, fun i x hx => ⟨x, hx, rfl⟩⟩ }
    refine ⟨b, h1, h2, h3, ?_⟩
    cases o with
    | map es => exact h4
    | box cs =>
      simp only [ObV] at h4 ⊢
      split <;> rename_i hr
      · rw [if_pos hr] at h4
        intro j d hd
        obtain ⟨u, h5, h6⟩ := h4 j d hd
        exact ⟨u, h5, K.imm h6⟩
      · rw [if_neg hr] at h4
        exact K.box (fun _ _ _ _ => trivial) (fun _ => ⟨rfl, rfl⟩) h4
  be := h.be
  new := h.new
  stow := h.stow
  std := h.std
  old := h.old
  os := h.os
  tape := h.tape
  output := h.output
  grow := h.grow
  ro := h.ro
  rom := h.rom
  be0 := h.be0
  n0 := h.n0
  la0 := h.la0

theorem Ok.draw {fu : Nat} (H : LyOK P T.L) (hm : P.follows .mixedOrders = true) {id : Nat} {Q : Ex → DS → Prop} (hwf : wfK ops = true) (h : Sch P T ops fu [] [] s (fun s' => Q .nx s')) : Ok P T (.region id ops true) s Q := by
  intro X G a w hX hR
  refine wp_region_any hm ?_
  refine Sch.sound (Qc := fun e a' w' => ∃ x s' G', e = Ex.to x ∧ Q x s' ∧ Rel X G' s' a' w') H hX hwf (fun c a w => ?_) (fun s' G' a' w' h1 h2 => ⟨.nx, s', G', rfl, h1, h2⟩) fu [] [] [] s _ ops.size G a _ h ⟨by simp, fun k hk => ?_, fun k i hk hg => ?_⟩ ⟨fun i hi => (nomatch hi), List.Pairwise.nil⟩ (fun i hi => (nomatch hi)) ?_ hR.drew
  · rintro ⟨x, s', G', h1, _⟩
    cases x <;> cases h1
  · simp [hk]
  · simp [hk] at hg
  · unfold cnt
    refine Nat.le_trans (List.length_filter_le _ _) ?_
    simp

variable {f : Nat} {L V : List Nat}
theorem Sch.done (h1 : ∀ k, k < ops.size → k ∈ L) (h2 : K s) : Sch P T ops f L V s K := by
  cases f with
  | zero => exact ⟨h1, h2⟩
  | succ f => exact .inl ⟨h1, h2⟩
noncomputable def aheadD (T : St) (ops : Array Oper) : List Nat → List Nat → List Nat → DS → Option (List Nat × List Nat × DS)
  | [], L, V, s => some (L, V, s)
  | i :: r, L, V, s => match dstOf ops i with
    | none => none
    | some t => if !L.contains i && rdy ops L i && aloneK ops i && !ownAt t s.env then
        match roV T ops s i with
        | some d => aheadD T ops r (i :: L) (i :: V) (putS t d s)
        | none => none
      else none
theorem Sch.ahead : ∀ {is : List Nat} {L V : List Nat} {s : DS} {f : Nat} {L' V' : List Nat} {s' : DS}, aheadD T ops is L V s = some (L', V', s') → Sch P T ops f L' V' s' K → Sch P T ops (f + is.length) L V s K
  | [], L, V, s, f, L', V', s', h, h2 => by
    simp [aheadD] at h
    obtain ⟨rfl, rfl, rfl⟩ := h
    exact h2
  | i :: r, L, V, s, f, L', V', s', h, h2 => by
    simp only [aheadD] at h
    split at h
    · cases h
    · rename_i t ht
      rw [Option.ite_none_right_eq_some] at h
      obtain ⟨hc, h⟩ := h
      simp only [Bool.and_eq_true, Bool.not_eq_true'] at hc
      split at h
      · rename_i d hd
        have := Sch.ahead h h2
        rw [List.length_cons, show f + (r.length + 1) = (f + r.length) + 1 by omega]
        refine .inr (.inl ⟨i, t, d, fun hm => ?_, ht, hc.1.1.2, hc.1.2, hc.2, hd, this⟩)
        have h5 := hc.1.1.1
        rw [List.contains_iff_mem.2 hm] at h5
        cases h5
      · cases h
end

end Go.Lv

namespace Go.Lv

noncomputable def zE : D → D → Bool
  | .int k n, .int k' n' => k == k' && n == n'
  | .bool a, .bool b => a == b
  | .str a, .str b => a.data.toList.isEmpty && b.data.toList.isEmpty
  | .nil, .nil => true
  | .nilmap, .nilmap => true
  | .nilfn, .nilfn => true
  | .list (.own 0) [], .list (.own 0) [] => true
  | _, _ => false
noncomputable def zEL : List D → List D → Bool
  | [], [] => true
  | a :: x, b :: y => zE a b && zEL x y
  | _, _ => false
theorem zE_eq {a b : D} (h : zE a b = true) : a = b := by
  unfold zE at h
  split at h <;> first | rfl | (simp at h; done) | skip
  · simp at h; obtain ⟨rfl, rfl⟩ := h; rfl
  · simp at h; subst h; rfl
  · rename_i a b
    simp only [Bool.and_eq_true, List.isEmpty_iff] at h
    obtain ⟨⟨x⟩⟩ := a
    obtain ⟨⟨y⟩⟩ := b
    obtain ⟨rfl, rfl⟩ := h
    rfl
theorem zEL_eq : ∀ {x y : List D}, zEL x y = true → x = y
  | [], [], _ => rfl
  | [], _ :: _, h => by simp [zEL] at h
  | _ :: _, [], h => by simp [zEL] at h
  | a :: x, b :: y, h => by
    simp only [zEL, Bool.and_eq_true] at h
    rw [zE_eq h.1, zEL_eq h.2]

noncomputable def aggU : TypeDesc → Bool
  | .array _ _ | .struct _ => true
  | _ => false
noncomputable def aggV : Value → Bool
  | .agg _ => true
  | _ => false
noncomputable def tdChk (P : Program) (t : Nat) (d : Td) : Bool :=
  match P.info? t, P.underlying t with
  | some i, some u => tkOK d.k u && (d.k.isAgg == aggU u) && i.size == d.size && i.bytes == d.bytes &&
    (d.zero.length != d.size || match i.zero with
      | some z => (match dOfL z.cells.toList with | some l => zEL l d.zero | none => false) && (d.k.isAgg == aggV z)
      | none => false)
  | _, _ => false
noncomputable def lyChk (P : Program) : Nat → Ly → Bool
  | _, [] => true
  | t, d :: r => tdChk P t d && lyChk P (t + 1) r

theorem lyChk_get {P : Program} : ∀ {L : Ly} {k : Nat}, lyChk P k L = true → ∀ (t : Nat) (d : Td), L[t]? = some d → tdChk P (k + t) d = true
  | [], k, _, t, d, h => by simp at h
  | x :: r, k, hc, 0, d, h => by
    simp only [lyChk, Bool.and_eq_true] at hc
    simp at h
    subst h
    exact hc.1
  | x :: r, k, hc, t + 1, d, h => by
    simp only [lyChk, Bool.and_eq_true] at hc
    have := lyChk_get hc.2 t d (by simpa using h)
    rwa [show k + 1 + t = k + (t + 1) by omega] at this

theorem LyOK.of_chk {P : Program} {L : Ly} (hc : lyChk P 0 L = true) (he : ∀ t d, L[t]? = some d → d.eq = true → EqT P t d.ks) : LyOK P L := by
  intro t d h
  have := lyChk_get hc t d h
  rw [Nat.zero_add] at this
  unfold tdChk at this
  split at this
  · rename_i i u hi hu
    simp only [Bool.and_eq_true, beq_iff_eq, Bool.or_eq_true, bne_iff_ne, ne_eq] at this
    obtain ⟨⟨⟨⟨h1, h2⟩, h3⟩, h4⟩, h5⟩ := this
    refine ⟨i, u, hi, hu, h1, fun ha n e => ?_, h3, h4, fun hl => ?_, he t d h⟩
    · rw [ha] at h2
      refine ⟨fun e => by rw [e] at h2; simp [aggU] at h2, fun fs e => by rw [e] at h2; simp [aggU] at h2⟩
    · rcases h5 with h5 | h5
      · exact absurd hl h5
      · split at h5
        · rename_i z hz
          simp only [Bool.and_eq_true, beq_iff_eq] at h5
          obtain ⟨h6, h7⟩ := h5
          split at h6
          · rename_i l hd
            refine ⟨z, hz, by rw [hd, zEL_eq h6], ?_⟩
            rw [h7]
            cases z <;> simp [aggV]
          · cases h6
        · cases h5
  · cases this

end Go.Lv

namespace Go.Lv

section
variable {P : Program} {T : St} {L : Ly} {X : Ctx} {G G' : Gh} {s s' s1 : DS} {a a' : Act} {w w' : World} {Q Q' : Ex → DS → Prop} {K K' : DS → Prop} {o : Oper} {ops : Array Oper} {y : Code}

inductive NR (k : Nat) : D → Prop where
  | int (i : IntKind) (n : Int) : NR k (.int i n)
  | bool (b : Bool) : NR k (.bool b)
  | str (s : ByteArray) : NR k (.str s)
  | nil : NR k .nil
  | nilmap : NR k .nilmap
  | nilfn : NR k .nilfn
  | gptr (j off : Nat) : j < k → NR k (.gptr j off)
  | map (j : Nat) : j < k → NR k (.map j)
  | fn (f : Nat) (ds : List D) : (∀ d, d ∈ ds → NR k d) → NR k (.fn f ds)
  | list (q : Kind) (xs : List (List D)) : (∀ r, r ∈ xs → ∀ d, d ∈ r → NR k d) → NR k (.list q xs)
  | agg (cs : List D) : (∀ d, d ∈ cs → NR k d) → NR k (.agg cs)
  | tup (cs : List D) : (∀ d, d ∈ cs → NR k d) → NR k (.tup cs)
  | dead : NR k .dead

noncomputable def NRo (k : Nat) : Ob → Prop
  | .box cs => ∀ d, d ∈ cs → NR k d
  | .map _ => True

theorem NR.fz {k : Nat} {d : D} (h : NR k d) : NR k (fz d) := by
  cases h with
  | list q xs h => cases q <;> exact .list _ _ h
  | int => exact .int _ _
  | bool => exact .bool _
  | str => exact .str _
  | nil => exact .nil
  | nilmap => exact .nilmap
  | nilfn => exact .nilfn
  | gptr j off h => exact .gptr _ _ h
  | map j h => exact .map _ h
  | fn f ds h => exact .fn _ _ h
  | agg cs h => exact .agg _ h
  | tup cs h => exact .tup _ h
  | dead => exact .dead

noncomputable def cut (k : Nat) (be : Nat → Option Nat) : Nat → Option Nat := fun j => if j < k then be j else none
noncomputable def Gh.cut (G : Gh) (k : Nat) : Gh := { G with be := Lv.cut k G.be }

theorem Imm.cut {k : Nat} {be : Nat → Option Nat} {st : Nat → Nat → Prop} {d : D} {v : Value} (h : Imm w be st d v) (hn : NR k d) : Imm w (Lv.cut k be) st d v := by
  induction h with
  | int => exact .int _ _
  | bool => exact .bool _
  | str => exact .str _
  | nil => exact .nil
  | gptr j off b hb =>
    cases hn with | gptr _ _ hj => exact .gptr _ _ _ (by unfold Lv.cut; rw [if_pos hj]; exact hb)
  | nilmap => exact .nilmap
  | map j b hb =>
    cases hn with | map _ hj => exact .map _ _ (by unfold Lv.cut; rw [if_pos hj]; exact hb)
  | nilfn => exact .nilfn
  | fn f ds vs hl _ ih =>
    cases hn with | fn _ _ hd => exact .fn _ _ _ hl fun i d v h1 h2 => ih i d v h1 h2 (hd d (List.mem_of_getElem? h1))
  | nils => exact .nils _ _
  | list xs b off cap sz vals h1 h2 h3 h4 h5 h6 _ ih =>
    cases hn with | list _ _ hd => exact .list xs b off cap sz vals h1 h2 h3 h4 h5 h6 fun j c r d hr hd' => ih j c r d hr hd' (hd r (List.mem_of_getElem? hr) d (List.mem_of_getElem? hd'))

theorem RowsAt.cut {k : Nat} {be : Nat → Option Nat} {st : Nat → Nat → Prop} {b off sz : Nat} {xs : List (List D)} (h : RowsAt w be st b off sz xs) (hn : ∀ r, r ∈ xs → ∀ d, d ∈ r → NR k d) : RowsAt w (Lv.cut k be) st b off sz xs := by
  refine ⟨h.1, fun j c r d hr hd => ?_⟩
  obtain ⟨v, hv, hi⟩ := h.2 j c r d hr hd
  exact ⟨v, hv, hi.cut (hn r (List.mem_of_getElem? hr) d (List.mem_of_getElem? hd))⟩

theorem VC.cut {k : Nat} {m : Mt} {p : Place} {d : D} {v : Value} (h : VC w G m p d v) (hn : NR k d) : VC w (G.cut k) m p d v := by
  cases hn with
  | list q xs hd =>
    cases q with
    | own sz =>
      rcases h with h | ⟨hz, b, off, cap, rfl, hc, ho, hf, hpl, hcell, hrows⟩
      · exact .inl h
      · exact .inr ⟨hz, b, off, cap, rfl, hc, ho, hf, hpl, hcell, hrows.cut hd⟩
    | cp e q =>
      obtain ⟨A, cap, rfl, he, h1, h2⟩ := h
      refine ⟨A, cap, rfl, he, fun hee => ?_, h2⟩
      rcases h1 hee with h1 | ⟨b, off, sz, h3, h4, h5, h6, h7⟩
      · exact .inl h1
      · exact .inr ⟨b, off, sz, h3, h4, h5, h6, h7.cut hd⟩
    | imm => exact Imm.cut (d := .list .imm xs) h (.list _ _ hd)
  | agg => exact h.elim
  | tup => exact h.elim
  | dead => exact h
  | int => exact Imm.cut h (.int _ _)
  | bool => exact Imm.cut h (.bool _)
  | str => exact Imm.cut h (.str _)
  | nil => exact Imm.cut h .nil
  | nilmap => exact Imm.cut h .nilmap
  | nilfn => exact Imm.cut h .nilfn
  | gptr j off hj => exact Imm.cut h (.gptr _ _ hj)
  | map j hj => exact Imm.cut h (.map _ hj)
  | fn f ds hd => exact Imm.cut h (.fn _ _ hd)

theorem VP.cut {k : Nat} {m : Mt} {r : Root} {i : Nat} {d : D} {v : Value} (h : VP w G m r i d v) (hn : NR k d) : VP w (G.cut k) m r i d v := by
  cases d with
  | agg cs =>
    obtain ⟨vs, rfl, hl, h1⟩ := h
    cases hn with | agg _ hd => exact ⟨vs, rfl, hl, fun j d u h2 h3 => (h1 j d u h2 h3).cut (hd d (List.mem_of_getElem? h2))⟩
  | tup ds => exact h.elim
  | _ =>
    rw [VP_cell (by intro cs e; cases e)] at h ⊢
    exact h.cut hn
theorem VT.cut {k : Nat} {m : Mt} {r : Root} {d : D} {v : Value} (h : VT w G m r d v) (hn : NR k d) : VT w (G.cut k) m r d v := by
  cases d with
  | tup cs =>
    obtain ⟨vs, rfl, hl, h1⟩ := h
    cases hn with | tup _ hd => exact ⟨vs, rfl, hl, fun j d u h2 h3 => (h1 j d u h2 h3).cut (hd d (List.mem_of_getElem? h2))⟩
  | _ =>
    rw [VT_part (by intro cs e; cases e)] at h ⊢
    exact h.cut hn

theorem Rel.cut (h : Rel X G s a w) {k : Nat} (h0 : X.n0 ≤ k) (hr : X.ro ≤ k) (hk : k ≤ s.sto.length) (hn : ∀ o, o ∈ s.sto.take k → NRo k o) : Rel X (G.cut k) { s with env := [], loc := [], sto := s.sto.take k } a w where
  size := h.size
  defers := h.defers
  env := fun t d ht => by simp [lk_nil] at ht
  loc := fun t d ht => by simp [lk_nil] at ht
  sto := fun j o hj => by
    have hj' : (s.sto.take k)[j]? = some o := hj
    have hmem := List.mem_of_getElem? hj'
    rw [List.getElem?_take, Option.ite_none_right_eq_some] at hj'
    obtain ⟨hjk, hj'⟩ := hj'
    obtain ⟨b, h1, h2, h3, h4⟩ := h.sto j o hj'
    refine ⟨b, by show Lv.cut k G.be j = _; unfold Lv.cut; rw [if_pos hjk]; exact h1, h2, h3, ?_⟩
    have hno := hn o hmem
    cases o with
    | map es => exact h4
    | box cs =>
      simp only [ObV] at h4 ⊢
      split <;> rename_i hq
      · rw [if_pos hq] at h4
        intro i d hd
        obtain ⟨u, h5, h6⟩ := h4 i d hd
        exact ⟨u, h5, h6.cut (hno d (List.mem_of_getElem? hd)).fz⟩
      · rw [if_neg hq] at h4
        intro i d hd
        obtain ⟨u, h5, h6, h7⟩ := h4 i d hd
        exact ⟨u, h5, h6, h7.cut (hno d (List.mem_of_getElem? hd))⟩
  be := fun j hj => by
    have hj' : (s.sto.take k).length ≤ j := hj
    rw [List.length_take, Nat.min_eq_left hk] at hj'
    show Lv.cut k G.be j = none
    unfold Lv.cut
    rw [if_neg (by omega)]
  new := h.new
  stow := h.stow
  std := h.std
  old := h.old
  os := h.os
  tape := h.tape
  output := h.output
  grow := h.grow
  ro := by show X.ro ≤ (s.sto.take k).length; rw [List.length_take]; omega
  rom := h.rom
  be0 := fun j hj => by
    show Lv.cut k G.be j = _
    unfold Lv.cut
    rw [if_pos (by omega)]
    exact h.be0 j hj
  n0 := by show X.n0 ≤ (s.sto.take k).length; rw [List.length_take]; omega
  la0 := h.la0

theorem Tri.forget {f ro : Nat} {args : List D} {sto : List Ob} {R R' : D → List Ob → Prop} (h : Tri P f ro args sto R')
    (hk : ∀ d l, R' d l → sto.length ≤ l.length → ∃ k, sto.length ≤ k ∧ k ≤ l.length ∧ NR k d ∧ (∀ o, o ∈ l.take k → NRo k o) ∧ R d (l.take k)) : Tri P f ro args sto R := by
  obtain ⟨fn, h1, h2, h3, h4, h5⟩ := h
  refine ⟨fn, h1, h2, h3, h4, fun G0 w vs hl hR => (h5 G0 w vs hl hR).mono fun e w' he => ?_⟩
  cases e with
  | returned v =>
    obtain ⟨d, s', G', a', q1, q2, q3⟩ := he
    obtain ⟨k, k1, k2, k3, k4, k5⟩ := hk d s'.sto q1 q2.n0
    refine ⟨d, _, _, a', k5, q2.cut (k := k) k1 (Nat.le_trans h4 k1) k2 k4, ?_⟩
    exact q3.cut k3
  | panicked c => exact he.elim
  | outgrown => exact he.elim
end

end Go.Lv

namespace Go.Lv

noncomputable def Pre (ro : Nat) (l l' : List Ob) : Prop := l.length ≤ l'.length ∧ ∀ k, k < ro → l'[k]? = l[k]?
theorem Pre.refl (ro : Nat) (l : List Ob) : Pre ro l l := ⟨Nat.le_refl _, fun _ _ => rfl⟩
theorem Pre.trans {ro : Nat} {l l1 l2 : List Ob} (h : Pre ro l l1) (h2 : Pre ro l1 l2) : Pre ro l l2 :=
  ⟨Nat.le_trans h.1 h2.1, fun k hk => (h2.2 k hk).trans (h.2 k hk)⟩
theorem Pre.of_eq {ro : Nat} {l l' : List Ob} (h : l' = l) : Pre ro l l' := h ▸ Pre.refl _ _
theorem Pre.set {ro k : Nat} (l : List Ob) (o : Ob) (h : ro ≤ k) : Pre ro l (l.set k o) :=
  ⟨by simp, fun j hj => by rw [List.getElem?_set_ne (by omega)]⟩
theorem Pre.snoc {ro : Nat} {l : List Ob} (o : Ob) (h : ro ≤ l.length) : Pre ro l (l ++ [o]) :=
  ⟨by simp, fun j hj => by rw [List.getElem?_append_left (by omega)]⟩
theorem Pre.mono {r ro : Nat} {l l' : List Ob} (h : Pre r l l') (hr : ro ≤ r) : Pre ro l l' := ⟨h.1, fun k hk => h.2 k (by omega)⟩

section
variable {L : Ly} {c : FC} {ro : Nat} {s s' s1 : DS} {dst : Option Nat} {d : D}
theorem put_sto (h : put c dst d s = some s') : s'.sto = s.sto := by
  unfold put at h
  split at h
  · split at h
    · cases h; rfl
    · cases h
  · cases h; rfl
theorem voidS_sto (h : voidS c dst s = some s') : s'.sto = s.sto := by
  unfold voidS at h
  split at h
  · split at h
    · cases h; rfl
    · cases h
  · cases h; rfl
theorem takeO_sto {x : Operand} (h : takeO s x = some (d, s')) : s'.sto = s.sto := by
  unfold takeO at h
  split at h
  · split at h
    · split at h <;> cases h <;> rfl
    · cases h
  · split at h
    · cases h; rfl
    · cases h
theorem takeL_sto : ∀ {xs : List Operand} {ds : List D} {s s' : DS}, takeL s xs = some (ds, s') → s'.sto = s.sto
  | [], ds, s, s', h => by simp [takeL] at h; rw [h.2]
  | x :: xs, ds, s, s', h => by
    simp only [takeL] at h
    split at h
    · rename_i d s1 h1
      split at h
      · cases h
      · split at h
        · rename_i ds' s2 h2
          cases h
          rw [takeL_sto h2, takeO_sto h1]
        · cases h
    · cases h
theorem setPl_pre {p : Place} {x : D} (h : okR ro p.r = true) : Pre ro s.sto (setPl s p x).sto := by
  unfold setPl
  split
  · split
    · split <;> exact Pre.refl _ _
    · exact Pre.refl _ _
  · split <;> exact Pre.refl _ _
  · rename_i k hk
    rw [hk] at h
    split
    · exact Pre.set _ _ (by simpa [okR] using h)
    · exact Pre.refl _ _
  · exact Pre.refl _ _
theorem boxD_pre {cs : List D} (h : boxD c s dst cs = some s') (hl : ro ≤ s.sto.length) : Pre ro s.sto s'.sto := by
  unfold boxD at h
  split at h
  · cases h
  · rename_i t
    revert h
    simp only
    generalize (if c.kb.contains t then cs else cs.map fz) = ys
    intro h
    split at h
    · split at h
      · rw [put_sto h]; exact Pre.snoc _ hl
      · cases h
    · split at h
      · rw [put_sto h]; exact Pre.refl _ _
      · cases h
theorem loadD_pre {t : Nat} {a : D} (h : loadD L c ro s dst t a = some s') : Pre ro s.sto s'.sto := by
  unfold loadD at h
  split at h
  · cases h
  · rename_i cs hcs
    split at h
    · rename_i hany
      split at h
      · rename_i r off x hr
        split at h
        · split at h
          · split at h
            · split at h
              · split at h
                · rw [put_sto h]; exact Pre.refl _ _
                · cases h
              · split at h
                · rw [put_sto h]; exact Pre.refl _ _
                · cases h
            · cases h
          · rename_i k
            split at h
            · rename_i bs hbs
              have hrok : ro ≤ k := by
                cases a with
                | gptr k' off' =>
                  simp [rootOf] at hr
                  obtain ⟨rfl, rfl⟩ := hr
                  unfold readD at hcs
                  simp only [hbs] at hcs
                  split at hcs
                  · cases hcs
                    apply Nat.le_of_not_lt
                    intro hlt
                    rw [List.any_map] at hany
                    obtain ⟨c', _, hc'⟩ := List.any_eq_true.1 hany
                    simp only [Function.comp, seeC, if_pos hlt] at hc'
                    cases c' with
                    | list q xs => cases q <;> simp [fz, isOwn] at hc'
                    | _ => simp [fz, isOwn] at hc'
                  · cases hcs
                | _ => simp [rootOf] at hr
              split at h
              · split at h
                · rw [put_sto h]; exact Pre.set _ _ hrok
                · cases h
              · split at h
                · rw [put_sto h]; exact Pre.set _ _ hrok
                · cases h
            · cases h
          · cases h
        · split at h
          · rw [put_sto h]; exact Pre.refl _ _
          · cases h
      · cases h
    · split at h
      · rw [put_sto h]; exact Pre.refl _ _
      · cases h
theorem storeD_pre {t : Nat} {a v : D} (h : storeD L c ro s t a v = some s') : Pre ro s.sto s'.sto := by
  unfold storeD at h
  simp only at h
  split at h
  · split at h
    · split at h
      · split at h
        · split at h
          · revert h
            generalize (if c.kb.contains _ then cellsD v else (cellsD v).map fz) = ys
            intro h
            split at h
            · cases h; exact Pre.refl _ _
            · cases h
          · cases h
        · cases h
      · cases h
    · split at h
      · rename_i hk
        split at h
        · split at h
          · cases h; exact Pre.set _ _ hk
          · cases h
        · cases h
      · cases h
    · split at h
      · rename_i hp
        split at h
        · split at h
          · split at h
            · cases h; exact setPl_pre hp.2
            · cases h
          · cases h
        · cases h
      · cases h
    · cases h
  · cases h
theorem copyD_pre {e : Nat} {x y : Operand} (h : copyD L ro c s dst e x y = some s') : Pre ro s.sto s'.sto := by
  unfold copyD at h
  split at h
  · split at h
    · rename_i hp
      split at h
      · split at h
        · split at h
          · rw [put_sto h]; exact Pre.refl _ _
          · simp only at h
            rw [put_sto h]
            exact setPl_pre hp.1.2
        · cases h
      · cases h
    · cases h
  · cases h
theorem appendD_sto {e : Nat} {x y : Operand} (h : appendD L c s dst e x y = some s') : s'.sto = s.sto := by
  unfold appendD at h
  split at h
  · cases h
  · split at h
    · rename_i ht
      split at h
      · rw [put_sto h, takeO_sto ht]
      · cases h
    · cases h
theorem sliceLsD_sto {e : Nat} {x : Operand} {lo hi : Option Operand} (h : sliceLsD L c s dst e x lo hi = some s') : s'.sto = s.sto := by
  unfold sliceLsD at h
  split at h
  · split at h
    · cases h
    · split at h
      · split at h
        · split at h
          · split at h
            · exact put_sto h
            · exact put_sto h
            · split at h
              · rename_i ht
                split at h <;> rw [put_sto h, takeO_sto ht]
              · cases h
          · cases h
        · cases h
      · cases h
  · cases h
theorem sliceStrD_sto {x : Operand} {lo hi : Option Operand} (h : sliceStrD c s dst x lo hi = some s') : s'.sto = s.sto := by
  unfold sliceStrD at h
  split at h
  · split at h
    · split at h
      · exact put_sto h
      · cases h
    · cases h
  · cases h
theorem fieldD_sto {t f : Nat} {x : Operand} (h : fieldD L c s dst t x f = some s') : s'.sto = s.sto := by
  unfold fieldD at h
  split at h
  · split at h
    · split at h
      · split at h
        · split at h
          · rw [put_sto h]
          · cases h
        · exact put_sto h
      · cases h
    · cases h
  · cases h
theorem extractD_sto {i : Nat} {x : Operand} (h : extractD c s dst x i = some s') : s'.sto = s.sto := by
  unfold extractD at h
  split at h
  · split at h
    · split at h <;> rw [put_sto h]
    · cases h
  · cases h
theorem convertD_sto {a b : Nat} {x : Operand} (h : convertD L c s dst a b x = some s') : s'.sto = s.sto := by
  unfold convertD at h
  split at h
  · exact put_sto h
  · exact put_sto h
  · split at h
    · split at h
      · exact put_sto h
      · cases h
    · cases h
  · split at h
    · exact put_sto h
    · cases h
  · cases h
theorem lookupD_sto {t : Nat} {m k : D} {ok : Bool} (h : lookupD L c s dst t m k ok = some s') : s'.sto = s.sto := by
  unfold lookupD at h
  split at h
  · split at h
    · split at h
      · exact put_sto h
      · cases h
    · cases h
  · cases h
theorem mapUpdateD_pre {t : Nat} {m k v : D} (h : mapUpdateD L ro s t m k v = some s') : Pre ro s.sto s'.sto := by
  unfold mapUpdateD at h
  split at h
  · split at h
    · rename_i hk
      simp only [Bool.and_eq_true, decide_eq_true_eq] at hk
      split at h
      · split at h
        · cases h; exact Pre.set _ _ hk.1.1
        · cases h
      · cases h
    · cases h
  · cases h
theorem mapEntryD_pre {t : Nat} {m k : D} (h : mapEntryD L ro c s dst t m k = some s') : Pre ro s.sto s'.sto := by
  unfold mapEntryD at h
  split at h
  · split at h
    · rename_i hk
      simp only [Bool.and_eq_true, decide_eq_true_eq] at hk
      split at h
      · split at h
        · rw [put_sto h]; exact Pre.refl _ _
        · split at h
          · rw [put_sto h]; exact Pre.set _ _ hk.1
          · cases h
        · cases h
      · cases h
    · cases h
  · cases h
theorem entryStoreD_pre {m st v : D} (h : entryStoreD ro s m st v = some s') : Pre ro s.sto s'.sto := by
  unfold entryStoreD at h
  split at h
  · split at h
    · rename_i hk
      simp only [Bool.and_eq_true, decide_eq_true_eq] at hk
      split at h
      · split at h
        · cases h; exact Pre.set _ _ hk.1.1.1
        · cases h
      · cases h
    · cases h
  · cases h
theorem builtinD_pre {b : Builtin} {args : List Operand} {tys : List Nat} (h : builtinD L ro c s dst b args tys = some s') : Pre ro s.sto s'.sto := by
  unfold builtinD at h
  split at h
  · unfold lenOp at h
    split at h
    · split at h
      · split at h
        · exact Pre.of_eq (put_sto h)
        · cases h
      · cases h
    · cases h
  · unfold appendOp at h
    split at h
    · split at h
      · exact Pre.of_eq (appendD_sto h)
      · exact Pre.of_eq (appendD_sto h)
      · cases h
    · cases h
  · unfold copyOp at h
    split at h
    · split at h
      · exact copyD_pre h
      · cases h
    · cases h
  · unfold minmaxOp at h
    split at h
    · split at h
      · split at h
        · exact Pre.of_eq (put_sto h)
        · cases h
      · cases h
    · cases h
  · unfold minmaxOp at h
    split at h
    · split at h
      · split at h
        · exact Pre.of_eq (put_sto h)
        · cases h
      · cases h
    · cases h
  · cases h

theorem opD_pre {o : Oper} (h : opD L c ro s o = some s') (hl : ro ≤ s.sto.length) : Pre ro s.sto s'.sto := by
  unfold opD at h
  split at h
  -- move
  · split at h
    · cases h
    · split at h
      · split at h
        · split at h
          · split at h
            · rename_i ht
              exact Pre.of_eq (by rw [put_sto h, takeO_sto ht])
            · cases h
          · exact Pre.of_eq (put_sto h)
        · exact Pre.of_eq (put_sto h)
        · cases h
      · exact Pre.of_eq (put_sto h)
  -- assign
  · split at h
    · rename_i ht _
      split at h <;> exact Pre.of_eq (by rw [put_sto h, takeO_sto ht])
    · cases h
  -- pick
  · split at h
    · split at h
      · split at h
        · cases h
        · exact Pre.of_eq (put_sto h)
      · cases h
    · cases h
  -- alloc
  · split at h
    · exact boxD_pre h hl
    · cases h
  -- box
  · split at h
    · rename_i ht
      split at h
      · have := boxD_pre (ro := ro) h (by rw [takeO_sto ht]; exact hl)
        rwa [takeO_sto ht] at this
      · cases h
    · cases h
  -- build
  · split at h
    · rename_i ht
      split at h
      · exact Pre.of_eq (by rw [put_sto h, takeL_sto ht])
      · cases h
    · cases h
  -- buildSlice
  · split at h
    · split at h
      · rename_i ht
        split at h
        · split at h
          · split at h
            · exact Pre.of_eq (by rw [put_sto h, takeL_sto ht])
            · cases h
          · cases h
        · cases h
      · cases h
    · cases h
  -- load
  · split at h
    · exact loadD_pre h
    · cases h
  -- store
  · split at h
    · rename_i ht
      split at h
      · split at h
        · rename_i hst
          have := storeD_pre hst
          rw [voidS_sto h, ← takeO_sto ht]
          exact this
        · cases h
      · cases h
    · cases h
  -- nilCheck
  · split at h <;> first | cases h; done | exact Pre.of_eq (put_sto h)
  -- binOp
  · split at h
    · split at h
      · exact Pre.of_eq (put_sto h)
      · cases h
    · cases h
  -- unOp
  · split at h
    · split at h
      · exact Pre.of_eq (put_sto h)
      · cases h
    · cases h
  · exact Pre.of_eq (convertD_sto h)
  -- makeFunc
  · split at h
    · split at h
      · split at h
        · exact Pre.of_eq (put_sto h)
        · cases h
      · cases h
    · cases h
  -- makeMap
  · split at h
    · rw [put_sto h]; exact Pre.snoc _ hl
    · cases h
  -- makeSlice
  · split at h
    · split at h
      · split at h
        · exact Pre.of_eq (put_sto h)
        · cases h
      · cases h
    · cases h
  -- slice
  · split at h
    · exact Pre.of_eq (sliceLsD_sto h)
    · exact Pre.of_eq (sliceStrD_sto h)
    · cases h
  -- fieldAddr
  · split at h
    · split at h
      · split at h
        · exact Pre.of_eq (put_sto h)
        · cases h
      · cases h
    · cases h
  · exact Pre.of_eq (fieldD_sto h)
  -- indexAddr
  · split at h
    · split at h
      · exact Pre.of_eq (put_sto h)
      · cases h
    · cases h
  -- index
  · split at h
    · split at h
      · exact Pre.of_eq (put_sto h)
      · cases h
    · cases h
  -- lookup
  · split at h
    · exact Pre.of_eq (lookupD_sto h)
    · cases h
  -- mapUpdate
  · split at h
    · split at h
      · rename_i hu
        rw [voidS_sto h]
        exact mapUpdateD_pre hu
      · cases h
    · cases h
  -- mapEntry
  · split at h
    · exact mapEntryD_pre h
    · cases h
  -- entryStore
  · split at h
    · split at h
      · rename_i hu
        rw [voidS_sto h]
        exact entryStoreD_pre hu
      · cases h
    · cases h
  · exact Pre.of_eq (extractD_sto h)
  · exact builtinD_pre h
  · cases h

theorem resOne_sto {x : ResultVar} (h : resOne L ro s x = some (d, s')) : s'.sto = s.sto := by
  unfold resOne at h
  split at h
  · split at h
    · rename_i ht
      split at h
      · cases h
      · cases h; exact takeO_sto ht
    · cases h
  · split at h
    · split at h
      · split at h
        · split at h
          · split at h
            · split at h
              · cases h
              · cases h; rfl
            · cases h
          · cases h
        · split at h
          · split at h
            · cases h
            · cases h; rfl
          · cases h
      · cases h
    · cases h
theorem resL_sto : ∀ {xs : List ResultVar} {ds : List D} {s s' : DS}, resL L ro s xs = some (ds, s') → s'.sto = s.sto
  | [], ds, s, s', h => by simp [resL] at h; rw [h.2]
  | x :: xs, ds, s, s', h => by
    simp only [resL] at h
    split at h
    · rename_i d s1 h1
      split at h
      · rename_i ds' s2 h2
        cases h
        rw [resL_sto h2, resOne_sto h1]
      · cases h
    · cases h
theorem resD_sto {rs : List ResultVar} (h : resD L ro s rs = some (d, s')) : s'.sto = s.sto := by
  unfold resD at h
  split at h
  · rename_i hl; cases h; exact resL_sto hl
  · rename_i hl; cases h; exact resL_sto hl
  · cases h
end

mutual
noncomputable def dEq : D → D → Bool
  | .int k n, .int k' n' => decide (k = k') && decide (n = n')
  | .bool b, .bool b' => b == b'
  | .str x, .str y => decide (x = y)
  | .list q xs, .list q' ys => decide (q = q') && dEqLL xs ys
  | .nil, .nil => true
  | .lptr t v o, .lptr t' v' o' => t == t' && v == v' && o == o'
  | .gptr k o, .gptr k' o' => k == k' && o == o'
  | .eptr e p i row o, .eptr e' p' i' row' o' => decide (e = e') && decide (p = p') && i == i' && dEqL row row' && o == o'
  | .nilmap, .nilmap => true
  | .map k, .map k' => k == k'
  | .fn f cs, .fn f' cs' => f == f' && dEqL cs cs'
  | .nilfn, .nilfn => true
  | .agg cs, .agg cs' => dEqL cs cs'
  | .tup cs, .tup cs' => dEqL cs cs'
  | .stamp e k i, .stamp e' k' i' => e == e' && k == k' && i == i'
  | .dead, .dead => true
  | _, _ => false
noncomputable def dEqL : List D → List D → Bool
  | [], [] => true
  | x :: xs, y :: ys => dEq x y && dEqL xs ys
  | _, _ => false
noncomputable def dEqLL : List (List D) → List (List D) → Bool
  | [], [] => true
  | x :: xs, y :: ys => dEqL x y && dEqLL xs ys
  | _, _ => false
end
mutual
theorem dEq_eq : ∀ {x y : D}, dEq x y = true → x = y
  | .int k n, y, h => by cases y <;> simp_all [dEq]
  | .bool b, y, h => by cases y <;> simp_all [dEq]
  | .str b, y, h => by cases y <;> simp_all [dEq]
  | .list q xs, y, h => by
    cases y <;> simp [dEq] at h
    rw [h.1, dEqLL_eq h.2]
  | .nil, y, h => by cases y <;> simp_all [dEq]
  | .lptr t v o, y, h => by cases y <;> simp_all [dEq]
  | .gptr k o, y, h => by cases y <;> simp_all [dEq]
  | .eptr e p i row o, y, h => by
    cases y <;> simp [dEq] at h
    rw [h.1.1.1.1, h.1.1.1.2, h.1.1.2, dEqL_eq h.1.2, h.2]
  | .nilmap, y, h => by cases y <;> simp_all [dEq]
  | .map k, y, h => by cases y <;> simp_all [dEq]
  | .fn f cs, y, h => by
    cases y <;> simp [dEq] at h
    rw [h.1, dEqL_eq h.2]
  | .nilfn, y, h => by cases y <;> simp_all [dEq]
  | .agg cs, y, h => by
    cases y <;> simp [dEq] at h
    rw [dEqL_eq h]
  | .tup cs, y, h => by
    cases y <;> simp [dEq] at h
    rw [dEqL_eq h]
  | .stamp e k i, y, h => by cases y <;> simp_all [dEq]
  | .dead, y, h => by cases y <;> simp_all [dEq]
theorem dEqL_eq : ∀ {x y : List D}, dEqL x y = true → x = y
  | [], y, h => by cases y <;> simp_all [dEqL]
  | x :: xs, y, h => by
    cases y <;> simp [dEqL] at h
    rw [dEq_eq h.1, dEqL_eq h.2]
theorem dEqLL_eq : ∀ {x y : List (List D)}, dEqLL x y = true → x = y
  | [], y, h => by cases y <;> simp_all [dEqLL]
  | x :: xs, y, h => by
    cases y <;> simp [dEqLL] at h
    rw [dEqL_eq h.1, dEqLL_eq h.2]
end

end Go.Lv

namespace Go.Lv
noncomputable def eMove (L : Ly) (c : FC) (ro : Nat) (s : DS) (o : Oper) (x : Operand) : Option DS :=
  match lookO s x with
    | none => none
    | some d =>
      if hasOwn d then match x, o.dst with
        | .tmp t, some u => if c.xf.contains u then match takeO s x with | some (d, s1) => put c o.dst d s1 | none => none
          else put c o.dst (lookTop s.m.ep (.slot t) (s.m.vr t) d) s
        | .const _, _ => put c o.dst d s
        | _, _ => none
      else put c o.dst d s
noncomputable def eAssign (L : Ly) (c : FC) (ro : Nat) (s : DS) (o : Oper) (x : Operand) : Option DS :=
  match takeO s x, o.dst with
    | some (d, s1), some t => if c.ko.contains t then put c o.dst d s1 else put c o.dst (fzTop d) s1
    | _, _ => none
noncomputable def ePick (L : Ly) (c : FC) (ro : Nat) (s : DS) (o : Oper) (b x y : Operand) : Option DS :=
  match lookO s b with
    | some (.bool p) => match lookO s (if p then x else y) with
      | some d => if hasOwn d then none else put c o.dst d s
      | none => none
    | _ => none
noncomputable def eAlloc (L : Ly) (c : FC) (ro : Nat) (s : DS) (o : Oper) (t : Nat) : Option DS :=
  match L.zero t with | some cs => boxD c s o.dst cs | none => none
noncomputable def eBox (L : Ly) (c : FC) (ro : Nat) (s : DS) (o : Oper) (t : Nat) (x : Operand) : Option DS :=
  match takeO s x with
    | some (d, s1) => if (cellsD d).length = L.size t then boxD c s1 o.dst (cellsD d) else none
    | none => none
noncomputable def eBuild (L : Ly) (c : FC) (ro : Nat) (s : DS) (o : Oper) (t : Nat) (ps : Array (Nat × Operand)) : Option DS :=
  match placeOf L t, L.zero t, takeL s (ps.toList.map (·.2)) with
    | some pl, some z, some (ds, s1) => match fillD pl z (zipParts ps.toList ds) with
      | some cs => put c o.dst (.agg cs) s1
      | none => none
    | _, _, _ => none
noncomputable def eBuildSlice (L : Ly) (c : FC) (ro : Nat) (s : DS) (o : Oper) (t n : Nat) (ps : Array (Nat × Operand)) : Option DS :=
  match L.tk t with
    | .slice e => match L.zero e, takeL s (ps.toList.map (·.2)) with
      | some z, some (ds, s1) =>
        if 0 < L.size e ∧ n * L.size e ≤ 16777216 then
          match fillD (fun i => some (i * L.size e, L.size e)) ((List.replicate n (z.map fz)).flatten) (zipParts ps.toList (ds.map fzTop)) with
          | some cs => if cs.all rowC then put c o.dst (.list (.own (L.size e)) (rowsOf (L.size e) n cs)) s1 else none
          | none => none
        else none
      | _, _ => none
    | _ => none
noncomputable def eLoad (L : Ly) (c : FC) (ro : Nat) (s : DS) (o : Oper) (t : Nat) (a : Operand) : Option DS :=
  match lookO s a with | some a => loadD L c ro s o.dst t a | none => none
noncomputable def eStore (L : Ly) (c : FC) (ro : Nat) (s : DS) (o : Oper) (t : Nat) (a v : Operand) : Option DS :=
  match takeO s v with
    | some (d, s1) => match lookO s1 a with
      | some a => match storeD L c ro s1 t a (if fsO c v then fzTop d else d) with
        | some s2 => voidS c o.dst s2
        | none => none
      | none => none
    | none => none
noncomputable def eNilCheck (L : Ly) (c : FC) (ro : Nat) (s : DS) (o : Oper) (x : Operand) : Option DS :=
  match lookO s x with
    | some (.lptr t v n) => put c o.dst (.lptr t v n) s
    | some (.gptr k n) => put c o.dst (.gptr k n) s
    | some (.eptr e p i r n) => put c o.dst (.eptr e p i r n) s
    | some (.fn f cs) => put c o.dst (.fn f cs) s
    | _ => none
noncomputable def eBinOp (L : Ly) (c : FC) (ro : Nat) (s : DS) (o : Oper) (op : BinOp) (t : Nat) (x y : Operand) : Option DS :=
  match lookO s x, lookO s y with
    | some a, some b => match binD L t op a b with
      | some d => put c o.dst d s
      | none => none
    | _, _ => none
noncomputable def eUnOp (L : Ly) (c : FC) (ro : Nat) (s : DS) (o : Oper) (op : UnOp) (x : Operand) : Option DS :=
  match lookO s x with
    | some a => match unD op a with | some d => put c o.dst d s | none => none
    | none => none
noncomputable def eConvert (L : Ly) (c : FC) (ro : Nat) (s : DS) (o : Oper) (a b : Nat) (x : Operand) : Option DS :=
  convertD L c s o.dst a b x
noncomputable def eMakeFunc (L : Ly) (c : FC) (ro : Nat) (s : DS) (o : Oper) (f : Nat) (first caps : Array Operand) : Option DS :=
  if first.size = 0 then match lookL s caps.toList with
      | some ds => if ds.all rowC then put c o.dst (.fn f ds) s else none
      | none => none
    else none
noncomputable def eMakeMap (L : Ly) (c : FC) (ro : Nat) (s : DS) (o : Oper) (t : Nat) (r : Option Operand) : Option DS :=
  match (match r with | none => some () | some x => match L.tk t, lookO s x with | .map _ _, some (.int _ _) => some () | _, _ => none) with
    | some _ => put c o.dst (.map s.sto.length) { s with sto := s.sto ++ [.map []] }
    | none => none
noncomputable def eMakeSlice (L : Ly) (c : FC) (ro : Nat) (s : DS) (o : Oper) (t : Nat) (n m : Operand) : Option DS :=
  match L.tk t with
    | .slice e => match lookO s n, lookO s m, L.zero e with
      | some (.int _ a), some (.int _ b), some z =>
        if 0 ≤ a ∧ a ≤ b ∧ b * L.bytes e ≤ 2 * room ∧ b ≤ 9223372036854775807 ∧ 0 < L.size e then
          put c o.dst (.list (.own (L.size e)) (List.replicate a.toNat (z.map fz))) s
        else none
      | _, _, _ => none
    | _ => none
noncomputable def eSlice (L : Ly) (c : FC) (ro : Nat) (s : DS) (o : Oper) (t : Nat) (x : Operand) (lo hi mx : Option Operand) : Option DS :=
  match mx, L.tk t with
    | none, .slice e => sliceLsD L c s o.dst e x lo hi
    | none, .str => sliceStrD c s o.dst x lo hi
    | _, _ => none
noncomputable def eFieldAddr (L : Ly) (c : FC) (ro : Nat) (s : DS) (o : Oper) (t : Nat) (x : Operand) (f : Nat) : Option DS :=
  match fieldOf L t f, lookO s x with
    | some (off, u), some a => if 0 < L.size u then match offD a off with | some d => put c o.dst d s | none => none else none
    | _, _ => none
noncomputable def eField (L : Ly) (c : FC) (ro : Nat) (s : DS) (o : Oper) (t : Nat) (x : Operand) (f : Nat) : Option DS :=
  fieldD L c s o.dst t x f
noncomputable def eIndexAddr (L : Ly) (c : FC) (ro : Nat) (s : DS) (o : Oper) (t : Nat) (x i : Operand) : Option DS :=
  match lookO s x, lookO s i with
    | some a, some b => match indexAddrD L s t x a b with | some d => put c o.dst d s | none => none
    | _, _ => none
noncomputable def eIndex (L : Ly) (c : FC) (ro : Nat) (s : DS) (o : Oper) (t : Nat) (x i : Operand) : Option DS :=
  match lookO s x, lookO s i with
    | some a, some b => match indexD L t a b with | some d => put c o.dst d s | none => none
    | _, _ => none
noncomputable def eLookup (L : Ly) (c : FC) (ro : Nat) (s : DS) (o : Oper) (t : Nat) (m k : Operand) (ok : Bool) : Option DS :=
  match lookO s m, lookO s k with
    | some a, some b => lookupD L c s o.dst t a b ok
    | _, _ => none
noncomputable def eMapUpdate (L : Ly) (c : FC) (ro : Nat) (s : DS) (o : Oper) (t : Nat) (m k x : Operand) : Option DS :=
  match lookO s m, lookO s k, lookO s x with
    | some a, some b, some v => match mapUpdateD L ro s t a b v with | some s1 => voidS c o.dst s1 | none => none
    | _, _, _ => none
noncomputable def eMapEntry (L : Ly) (c : FC) (ro : Nat) (s : DS) (o : Oper) (t : Nat) (m k : Operand) : Option DS :=
  match lookO s m, lookO s k with
    | some a, some b => mapEntryD L ro c s o.dst t a b
    | _, _ => none
noncomputable def eEntryStore (L : Ly) (c : FC) (ro : Nat) (s : DS) (o : Oper) (m st x : Operand) : Option DS :=
  match lookO s m, lookO s st, lookO s x with
    | some a, some b, some v => match entryStoreD ro s a b v with | some s1 => voidS c o.dst s1 | none => none
    | _, _, _ => none
noncomputable def eExtract (L : Ly) (c : FC) (ro : Nat) (s : DS) (o : Oper) (x : Operand) (i : Nat) : Option DS :=
  extractD c s o.dst x i
noncomputable def opE (L : Ly) (c : FC) (ro : Nat) (s : DS) (o : Oper) : Option DS :=
  match o.op with
  | .move x => eMove L c ro s o x
  | .assign x => eAssign L c ro s o x
  | .pick b x y => ePick L c ro s o b x y
  | .alloc t => eAlloc L c ro s o t
  | .box t x => eBox L c ro s o t x
  | .build t ps => eBuild L c ro s o t ps
  | .buildSlice t n ps => eBuildSlice L c ro s o t n ps
  | .load t a => eLoad L c ro s o t a
  | .store t a v => eStore L c ro s o t a v
  | .nilCheck x => eNilCheck L c ro s o x
  | .binOp op t x y _ => eBinOp L c ro s o op t x y
  | .unOp op _ x => eUnOp L c ro s o op x
  | .convert a b x => eConvert L c ro s o a b x
  | .makeFunc (.func f) first caps => eMakeFunc L c ro s o f first caps
  | .makeMap t r => eMakeMap L c ro s o t r
  | .makeSlice t n m => eMakeSlice L c ro s o t n m
  | .slice t x lo hi mx => eSlice L c ro s o t x lo hi mx
  | .fieldAddr t x f => eFieldAddr L c ro s o t x f
  | .field t x f => eField L c ro s o t x f
  | .indexAddr t x i => eIndexAddr L c ro s o t x i
  | .index t x i => eIndex L c ro s o t x i
  | .lookup t m k ok => eLookup L c ro s o t m k ok
  | .mapUpdate t m k x => eMapUpdate L c ro s o t m k x
  | .mapEntry t m k => eMapEntry L c ro s o t m k
  | .entryStore _ m st x => eEntryStore L c ro s o m st x
  | .extract x i => eExtract L c ro s o x i
  | .call { callee := .builtin b, args, argTypes } => builtinD L ro c s o.dst b args.toList argTypes.toList
  | _ => none
theorem opE_eq (L : Ly) (c : FC) (ro : Nat) (s : DS) (o : Oper) : opE L c ro s o = opD L c ro s o := by
  unfold opE opD
  cases o.op <;> rfl

end Go.Lv

namespace Go.Lv

inductive Rz (α : Type) where
  | ok (a : α)
  | no (why : List Nat)
noncomputable def Rz.at {α : Type} (k : List Nat) : Rz α → Rz α
  | .ok a => .ok a
  | .no w => .no (k ++ w)

structure FS where
  gl : List Nat := []
  ko : List Nat := []
  kb : List Nat := []
  xf : List Nat := []
  fs : List Nat := []
  fl : List Nat := []
  oa : List Nat := []
  pu : Bool := true
  ld : Bool := true
  lv : List Nat := []
noncomputable def FS.fc (x : FS) (n : Nat) : FC := { n := n, gl := x.gl, ko := x.ko, kb := x.kb, xf := x.xf, fs := x.fs, kp := [], fl := x.fl }

abbrev Caller := Nat → Nat → List D → List Ob → Rz (D × List Ob)

structure Ev where
  L : Ly
  S : List (Nat × FS) := []
  F : Nat := 1000
  hk : Nat → St → DS → Oper → Option (Rz DS) := fun _ _ _ _ => none
  sp : Nat → Option Caller := fun _ => none

noncomputable def Ev.fs (E : Ev) (f : Nat) : FS := match lk f E.S with | some x => x | none => {}

mutual
noncomputable def nrB (k : Nat) : D → Bool
  | .gptr j _ => decide (j < k)
  | .map j => decide (j < k)
  | .fn _ ds => nrBL k ds
  | .list _ xs => nrBLL k xs
  | .agg cs => nrBL k cs
  | .tup cs => nrBL k cs
  | .int _ _ | .bool _ | .str _ | .nil | .nilmap | .nilfn | .dead => true
  | _ => false
noncomputable def nrBL (k : Nat) : List D → Bool
  | [] => true
  | d :: r => nrB k d && nrBL k r
noncomputable def nrBLL (k : Nat) : List (List D) → Bool
  | [] => true
  | d :: r => nrBL k d && nrBLL k r
end
mutual
theorem nrB_nr {k : Nat} : ∀ {d : D}, nrB k d = true → NR k d
  | .gptr j _, h => .gptr _ _ (by simpa [nrB] using h)
  | .map j, h => .map _ (by simpa [nrB] using h)
  | .fn _ ds, h => .fn _ _ (nrBL_nr (by simpa [nrB] using h))
  | .list _ xs, h => .list _ _ (nrBLL_nr (by simpa [nrB] using h))
  | .agg cs, h => .agg _ (nrBL_nr (by simpa [nrB] using h))
  | .tup cs, h => .tup _ (nrBL_nr (by simpa [nrB] using h))
  | .int _ _, _ => .int _ _
  | .bool _, _ => .bool _
  | .str _, _ => .str _
  | .nil, _ => .nil
  | .nilmap, _ => .nilmap
  | .nilfn, _ => .nilfn
  | .dead, _ => .dead
  | .lptr _ _ _, h => by simp [nrB] at h
  | .eptr _ _ _ _ _, h => by simp [nrB] at h
  | .stamp _ _ _, h => by simp [nrB] at h
theorem nrBL_nr {k : Nat} : ∀ {ds : List D}, nrBL k ds = true → ∀ d, d ∈ ds → NR k d
  | [], _ => fun d hd => nomatch hd
  | x :: r, h => by
    intro d hd
    simp only [nrBL, Bool.and_eq_true] at h
    rcases List.mem_cons.1 hd with e | hd
    · rw [e]; exact nrB_nr h.1
    · exact nrBL_nr h.2 d hd
theorem nrBLL_nr {k : Nat} : ∀ {ds : List (List D)}, nrBLL k ds = true → ∀ r, r ∈ ds → ∀ d, d ∈ r → NR k d
  | [], _ => fun r hr => nomatch hr
  | x :: r, h => by
    intro d hd
    simp only [nrBLL, Bool.and_eq_true] at h
    rcases List.mem_cons.1 hd with e | hd
    · rw [e]; exact nrBL_nr h.1
    · exact nrBLL_nr h.2 d hd
end
noncomputable def nrO (k : Nat) : Ob → Bool
  | .box cs => nrBL k cs
  | .map _ => true
theorem nrO_nr {k : Nat} {o : Ob} (h : nrO k o = true) : NRo k o := by
  cases o with
  | box cs => exact nrBL_nr h
  | map es => exact trivial

noncomputable def evGive (call : Caller) (T : St) (s : DS) (dst : Option Nat) (f r : Nat) (ds caps : List D) (s1 : DS) : Rz DS :=
  match call r f (ds ++ caps) s.sto with
  | .no w => .no w
  | .ok (d, sto') =>
    if partsOK d && (sto'.drop r).all boxOK then
      match put T.c dst d (afterC s1 r ds sto') with
      | some s2 => .ok s2
      | none => .no [2]
    else .no [3]
noncomputable def evLend (call : Caller) (T : St) (s : DS) (dst : Option Nat) (f : Nat) (ds : List D) : Rz DS :=
  match call s.sto.length f ds s.sto with
  | .no w => .no w
  | .ok (d, sto') =>
    if sto'.length == s.sto.length && flatT d then
      match put T.c dst (unlD s.m.ep d) s with
      | some s2 => .ok s2
      | none => .no [4]
    else .no [5]
noncomputable def isNilL {α : Type} : List α → Bool
  | [] => true
  | _ => false
noncomputable def evCall (E : Ev) (call : Caller) (T : St) (s : DS) (dst : Option Nat) (f : Nat) (caps : List D) (args : List Operand) : Rz DS :=
  match takeL s args with
  | none => .no [6]
  | some (ds0, s1) =>
    let ds := frzA (E.fs f).oa 0 ds0
    if (E.fs f).pu && (ds.all cellsOK && stoOK T.ro s.sto.length s.sto) && decide (T.ro ≤ s.sto.length) then evGive call T s dst f s.sto.length ds caps s1
    else if (E.fs f).pu && ((E.fs f).ld && (isNilL caps && (s.sto.drop T.ro).all boxSt)) then
      match lendL s args with
      | some ds => evLend call T s dst f ds
      | none => .no [7]
    else if ds.all cellsOK && stoOK T.ro T.ro s.sto then evGive call T s dst f T.ro ds caps s1
    else .no [8]

noncomputable def evOp (E : Ev) (call : Caller) (T : St) (s : DS) (o : Oper) : Rz DS :=
  match o.op with
  | .call { callee := .value x, args, argTypes } => match lookO s x with
    | some (.fn f caps) => match E.hk f T s o with
      | some r => r
      | none => (evCall E call T s o.dst f caps args.toList).at [f]
    | _ => .no [9]
  | _ => match opE T.L T.c T.ro s o with
    | some s1 => .ok s1
    | none => .no [10]

noncomputable def evStep (E : Ev) (call : Caller) (T : St) (ops : Array Oper) (i : Nat) (s : DS) : Rz DS :=
  match ops[i]? with
  | none => .no [11]
  | some o => match wantD ops s o with
    | some true => (evOp E call T s o).at [i]
    | some false => match put T.c o.dst (.tup []) s with
      | some s1 => .ok s1
      | none => .no [i, 12]
    | none => .no [i, 13]

noncomputable def evOps (E : Ev) (call : Caller) (T : St) (ops : Array Oper) : List Nat → DS → Rz DS
  | [], s => .ok s
  | i :: r, s => match evStep E call T ops i s with
    | .ok s1 => evOps E call T ops r s1
    | .no w => .no w

noncomputable def mskL (l : List Nat) : Nat := List.rec (motive := fun _ => Nat) 0 (fun x _ ih => Nat.lor (Nat.shiftLeft 1 x) ih) l
noncomputable def hasB (l : List Nat) (i : Nat) : Bool := Nat.beq (Nat.mod (Nat.shiftRight (mskL l) i) 2) 1
theorem hasB_bit (l : List Nat) (i : Nat) : hasB l i = (mskL l).testBit i := by
  rw [Nat.testBit_eq_decide_div_mod_eq]
  show Nat.beq ((mskL l >>> i) % 2) 1 = _
  rw [Nat.shiftRight_eq_div_pow]
  cases h : Nat.beq (mskL l / 2 ^ i % 2) 1 with
  | true => rw [decide_eq_true (Nat.eq_of_beq_eq_true h)]
  | false => rw [decide_eq_false (Nat.ne_of_beq_eq_false h)]
theorem mskL_bit : ∀ (l : List Nat) (i : Nat), (mskL l).testBit i = l.contains i
  | [], i => by
    show (0 : Nat).testBit i = _
    simp
  | x :: r, i => by
    show (1 <<< x ||| mskL r).testBit i = _
    rw [Nat.testBit_or, mskL_bit r i, List.contains_cons, Nat.one_shiftLeft, Nat.testBit_two_pow]
    congr 1
    by_cases h : x = i
    · rw [decide_eq_true h]; simp [h]
    · rw [decide_eq_false h]
      have : ¬ i = x := fun e => h e.symm
      simp [this]
theorem hasB_eq (l : List Nat) (i : Nat) : hasB l i = l.contains i := by rw [hasB_bit, mskL_bit]
noncomputable def depO (ops : Array Oper) (k : Nat) : Option Nat := match ops[k]? with
  | some o => some (mskL ((o.after.toList.filter fun e => Region.binds .any e).map (·.on)))
  | none => none
noncomputable def rdyF (ops : Array Oper) (L : List Nat) (k : Nat) : Bool := match depO ops k with
  | some d => Nat.beq (Nat.land d (mskL L)) d
  | none => false
theorem land_mskL (l L : List Nat) : Nat.beq (Nat.land (mskL l) (mskL L)) (mskL l) = l.all L.contains := by
  have key : (mskL l &&& mskL L = mskL l) ↔ ∀ x, x ∈ l → L.contains x = true := by
    constructor
    · intro h x hx
      have h1 : (mskL l).testBit x = true := by rw [mskL_bit]; exact List.contains_iff_mem.2 hx
      rw [← h, Nat.testBit_and, mskL_bit, mskL_bit] at h1
      simp only [Bool.and_eq_true] at h1
      exact h1.2
    · intro h
      refine Nat.eq_of_testBit_eq fun i => ?_
      rw [Nat.testBit_and, mskL_bit, mskL_bit]
      cases hc : l.contains i with
      | false => rfl
      | true => rw [h i (List.contains_iff_mem.1 hc)]; rfl
  cases hb : Nat.beq (Nat.land (mskL l) (mskL L)) (mskL l) with
  | true => exact (List.all_eq_true.2 (key.1 (Nat.eq_of_beq_eq_true hb))).symm
  | false =>
    cases ha : l.all L.contains with
    | false => rfl
    | true => exact absurd (key.2 (List.all_eq_true.1 ha)) (Nat.ne_of_beq_eq_false hb)
theorem rdyF_eq (ops : Array Oper) (L : List Nat) (k : Nat) : rdyF ops L k = rdy ops L k := by
  unfold rdyF rdy depO
  cases ops[k]? with
  | none => rfl
  | some o =>
    show Nat.beq (Nat.land (mskL _) (mskL L)) (mskL _) = _
    rw [land_mskL]
    show _ = o.after.all fun e => !Region.binds .any e || L.contains e.on
    rw [← Array.all_toList]
    generalize o.after.toList = l
    induction l with
    | nil => rfl
    | cons e r ih =>
      rw [List.filter_cons]
      cases hb : Region.binds .any e with
      | true =>
        simp only [if_true, List.map_cons, List.all_cons, ih, hb, Bool.not_true, Bool.false_or]
      | false =>
        simp only [List.all_cons, hb, Bool.not_false, Bool.true_or, Bool.true_and]
        exact ih
noncomputable def dropF (ops : Array Oper) (j : Nat) (V : List Nat) : List Nat := V.filter fun i => !hasB (befF ops (List.range j).reverse [j]) i
theorem dropF_eq (ops : Array Oper) (j : Nat) (V : List Nat) : dropF ops j V = dropB ops j V := by
  unfold dropF dropB
  congr 1
  funext i
  rw [hasB_eq]
noncomputable def readPass (T : St) (ops : Array Oper) : List Nat → List Nat → List Nat → DS → List Nat × List Nat × List Nat × DS
  | [], L, V, s => ([], L, V, s)
  | i :: r, L, V, s => match dstOf ops i with
    | none => readPass T ops r L V s
    | some t => if !hasB L i && rdyF ops L i && aloneK ops i && !ownAt t s.env then
        match roV T ops s i with
        | some d => match readPass T ops r (i :: L) (i :: V) (putS t d s) with
          | (is, x) => (i :: is, x)
        | none => readPass T ops r L V s
      else readPass T ops r L V s
noncomputable def optEq : Option D → D → Bool
  | some x, y => dEq x y
  | none, _ => false
noncomputable def stillB (T : St) (ops : Array Oper) (V : List Nat) (s s1 : DS) : Bool :=
  V.all fun i => match dstOf ops i with
    | none => true
    | some t => match roV T ops s i with
      | some d => optEq (roV T ops s1 i) d && optEq (lk t s1.env) d
      | none => true
noncomputable def allIn (n : Nat) (L : List Nat) : Bool := (List.range n).all (hasB L)

structure PS where
  L : List Nat
  V : List Nat
  s : DS

noncomputable def mEq : List (D × D) → List (D × D) → Bool
  | [], [] => true
  | (a, b) :: x, (c, d) :: y => dEq a c && dEq b d && mEq x y
  | _, _ => false
noncomputable def obEq : Ob → Ob → Bool
  | .box a, .box b => dEqL a b
  | .map a, .map b => mEq a b
  | _, _ => false
noncomputable def obEqs : List Ob → List Ob → Bool
  | [], [] => true
  | x :: xs, y :: ys => obEq x y && obEqs xs ys
  | _, _ => false
noncomputable def joinM (m m' : Mt) : Mt := ⟨Cn.max m.vr m'.vr, Cn.max m.lv m'.lv, Cn.max m.al m'.al, max m.era m'.era, max m.ep m'.ep, m.ro⟩
noncomputable def isListD : D → Bool
  | .list _ _ => true
  | .dead => true
  | _ => false
noncomputable def joinC (a b : D) : Option D := if dEq a b then some a else if isListD a && isListD b then some .dead else none
noncomputable def joinL : List D → List D → Option (List D)
  | [], [] => some []
  | a :: x, b :: y => match joinC a b, joinL x y with
    | some c, some r => some (c :: r)
    | _, _ => none
  | _, _ => none
noncomputable def joinLoc (l l' : List (Nat × List D)) : List (Nat × List D) → List (Nat × List D)
  | [] => []
  | x :: r => match lk x.1 l, lk x.1 l' with
    | some a, some b => match joinL a b with
      | some c => (x.1, c) :: joinLoc l l' r
      | none => joinLoc l l' r
    | _, _ => joinLoc l l' r
noncomputable def joinS (s s' : DS) : DS := ⟨s.env.filter fun x => optEq (lk x.1 s'.env) x.2 && optEq (lk x.1 s.env) x.2, joinLoc s.loc s'.loc s.loc, s.sto, joinM s.m s'.m⟩
noncomputable def sameSet (L L' : List Nat) : Bool := Nat.beq (mskL L) (mskL L')
noncomputable def joinP (T : St) (ops : Array Oper) (p q : PS) : Option PS :=
  let r := joinS p.s q.s
  if obEqs p.s.sto q.s.sto && decide (p.s.m.ro = q.s.m.ro) && stillB T ops p.V p.s r && stillB T ops q.V q.s r then some ⟨p.L, p.V ++ q.V, r⟩ else none
noncomputable def mergeIn (T : St) (ops : Array Oper) (p : PS) : List PS → Option (List PS)
  | [] => some [p]
  | q :: r => if sameSet p.L q.L then match joinP T ops p q with
      | some x => some (x :: r)
      | none => none
    else match mergeIn T ops p r with
      | some r' => some (q :: r')
      | none => none
noncomputable def readP (T : St) (ops : Array Oper) (p : PS) : PS := match readPass T ops (List.range ops.size) p.L p.V p.s with
  | (_, L, V, s) => ⟨L, V, s⟩
noncomputable def stepP (E : Ev) (call : Caller) (T : St) (ops : Array Oper) (p : PS) : List Nat → List PS → Rz (List PS)
  | [], acc => .ok acc
  | j :: js, acc => match evStep E call T ops j p.s with
    | .no w => .no w
    | .ok s2 =>
      if stillB T ops (dropF ops j p.V) p.s s2 then
        match mergeIn T ops (readP T ops ⟨j :: p.L, dropF ops j p.V, s2⟩) acc with
        | some acc' => stepP E call T ops p js acc'
        | none => .no [j, 15]
      else .no [j, 16]
noncomputable def readyL (ops : Array Oper) (L : List Nat) : List Nat := (List.range ops.size).filter fun j => !hasB L j && rdyF ops L j
noncomputable def leastP : List PS → Nat
  | [] => 0
  | p :: ps => match ps with
    | [] => p.L.length
    | _ => Nat.min p.L.length (leastP ps)
noncomputable def stepAll (E : Ev) (call : Caller) (T : St) (ops : Array Oper) (k : Nat) : List PS → List PS → Rz (List PS)
  | [], acc => .ok acc
  | p :: ps, acc => match Nat.blt k p.L.length with
    | true => match mergeIn T ops p acc with
      | some acc' => stepAll E call T ops k ps acc'
      | none => .no [19]
    | false => match readyL ops p.L with
    | [] => .no [17]
    | js => match stepP E call T ops p js acc with
      | .no w => .no w
      | .ok acc' => stepAll E call T ops k ps acc'
noncomputable def evDag (E : Ev) (call : Caller) (T : St) (ops : Array Oper) : Nat → List PS → Rz DS
  | 0, _ => .no [14]
  | m + 1, ps => match ps with
    | [p] => if allIn ops.size p.L then .ok p.s else match stepAll E call T ops p.L.length [p] [] with
      | .no w => .no w
      | .ok ps' => evDag E call T ops m ps'
    | ps => match stepAll E call T ops (leastP ps) ps [] with
      | .no w => .no w
      | .ok ps' => evDag E call T ops m ps'
noncomputable def evDraw (E : Ev) (call : Caller) (T : St) (ops : Array Oper) (s : DS) : Rz DS := evDag E call T ops (ops.size + 1) [readP T ops ⟨[], [], s⟩]

noncomputable def evIter (body : DS → Rz (Ex × DS)) : Nat → DS → Rz (Ex × DS)
  | 0, _ => .no [18]
  | n + 1, s => match body s with
    | .ok (.nx, s1) => evIter body n s1
    | .ok (x, s1) => .ok (x, s1)
    | .no w => .no w
noncomputable def Ex.unblk (id : Nat) : Ex → Ex
  | .out id' => if id' = id then .nx else .out id'
  | x => x
noncomputable def rzOut : Rz (Ex × DS) → (Ex → Ex) → Rz (Ex × DS)
  | .ok (x, s), f => .ok (f x, s)
  | .no w, _ => .no w
noncomputable def prune (lv : List Nat) (s : DS) : DS := if isNilL lv then s else { s with env := keep lv s.env }
noncomputable def fNat {β : Type} (n : Nat) (k : Nat → β) : β := Nat.rec (motive := fun _ => β) (k 0) (fun p _ => k (p + 1)) n
noncomputable def fSp {α β : Type} (l : List α) : (List α → β) → β := List.rec (motive := fun _ => (List α → β) → β) (fun k => k []) (fun x _ ih k => ih fun r => k (x :: r)) l
noncomputable def fMap {α β : Type} (f : α → (α → β) → β) (l : List α) : (List α → β) → β := List.rec (motive := fun _ => (List α → β) → β) (fun k => k []) (fun x _ ih k => f x fun y => ih fun r => k (y :: r)) l
noncomputable def fPr {β : Type} (x : Nat × List D) (k : Nat × List D → β) : β := fSp x.2 fun cs => k (x.1, cs)
noncomputable def fOb {β : Type} (x : Ob) (k : Ob → β) : β := Ob.rec (motive := fun _ => β) (fun cs => fSp cs fun cs => k (.box cs)) (fun es => fSp es fun es => k (.map es)) x
noncomputable def fCn {β : Type} (c : Cn) (k : Cn → β) : β := fMap (fun (x : Nat × Nat) k => fNat x.2 fun v => k (x.1, v)) c.l fun l => k ⟨l⟩
noncomputable def fMt {β : Type} (m : Mt) (k : Mt → β) : β := fCn m.vr fun vr => fCn m.lv fun lv => fCn m.al fun al => fNat m.era fun era => fNat m.ep fun ep => fNat m.ro fun ro => k ⟨vr, lv, al, era, ep, ro⟩
noncomputable def fDS {β : Type} (s : DS) (k : DS → β) : β := fSp s.env fun env => fMap fPr s.loc fun loc => fMap fOb s.sto fun sto => fMt s.m fun m => k ⟨env, loc, sto, m⟩
theorem fNat_eq {β : Type} (n : Nat) (k : Nat → β) : fNat n k = k n := by cases n <;> rfl
theorem fSp_eq {α β : Type} : ∀ (l : List α) (k : List α → β), fSp l k = k l
  | [], k => rfl
  | x :: r, k => by
    show fSp r (fun r => k (x :: r)) = _
    rw [fSp_eq r]
theorem fMap_eq {α β : Type} {f : α → (α → β) → β} (hf : ∀ x k, f x k = k x) : ∀ (l : List α) (k : List α → β), fMap f l k = k l
  | [], k => rfl
  | x :: r, k => by
    show f x (fun y => fMap f r (fun r => k (y :: r))) = _
    rw [hf, fMap_eq hf r]
theorem fDS_eq {β : Type} (s : DS) (k : DS → β) : fDS s k = k s := by
  have h1 : ∀ {γ : Type} (x : Nat × List D) (k : Nat × List D → γ), fPr x k = k x := fun x k => by unfold fPr; rw [fSp_eq]
  have h2 : ∀ {γ : Type} (x : Ob) (k : Ob → γ), fOb x k = k x := fun x k => by
    cases x with
    | box cs => show fSp cs _ = _; rw [fSp_eq]
    | map es => show fSp es _ = _; rw [fSp_eq]
  have h3 : ∀ {γ : Type} (c : Cn) (k : Cn → γ), fCn c k = k c := fun c k => by
    unfold fCn
    rw [fMap_eq (fun x k => by rw [fNat_eq])]
  unfold fDS fMt
  rw [fSp_eq, fMap_eq (fun x k => h1 x k), fMap_eq (fun x k => h2 x k), h3, h3, h3, fNat_eq, fNat_eq, fNat_eq]
noncomputable def rzPr (lv : List Nat) : Rz DS → Rz (Ex × DS)
  | .ok s => fDS (prune lv s) fun s => .ok (.nx, s)
  | .no w => .no w
noncomputable def evC (E : Ev) (call : Caller) (T : St) (lv : List Nat) : Code → DS → Rz (Ex × DS)
  | .skip, s => .ok (.nx, s)
  | .label _, s => .ok (.nx, s)
  | .exit id, s => .ok (.out id, s)
  | .ret, s => .ok (.ret, s)
  | .seq x y, s => match evC E call T lv x s with
    | .ok (.nx, s1) => evC E call T lv y s1
    | r => r
  | .cond c x y, s => match lookO s c with
    | some (.bool true) => evC E call T lv x s
    | some (.bool false) => evC E call T lv y s
    | _ => .no [19]
  | .block id c, s => rzOut (evC E call T lv c s) (Ex.unblk id)
  | .loop c, s => evIter (evC E call T lv c) E.F s
  | .scope c, s => evC E call T lv c s
  | .region id ops false, s => (rzPr lv (evOps E call T ops (List.range ops.size) s)).at [id]
  | .region id ops true, s => if wfK ops then (rzPr lv (evDraw E call T ops s)).at [id] else .no [id, 20]
  | _, s => .no [21]

noncomputable def forgetD (pu : Bool) (n : Nat) (d : D) (l : List Ob) : D × List Ob :=
  if pu && decide (n < l.length) && nrB n d && (l.take n).all (nrO n) then (d, l.take n) else (d, l)

noncomputable def evF (P : Program) (E : Ev) : Nat → Caller
  | 0 => fun _ _ _ _ => .no [22]
  | n + 1 => fun r f args sto => match E.sp f with
    | some g => g r f args sto
    | none => match P.funcs[f]? with
    | none => .no [f, 23]
    | some fn => match fn.body with
      | none => .no [f, 24]
      | some code =>
        if !(fn.name == "runtime.NumGoroutine") && decide (args.length ≤ fn.ntmps) && decide (r ≤ sto.length) then
          match evC E (evF P E n) ⟨E.L, (E.fs f).fc fn.ntmps, r, sto.length⟩ (E.fs f).lv code (s0 r args sto) with
          | .no w => .no w
          | .ok (.out _, _) => .no [25]
          | .ok (_, s1) => match resD E.L r s1 fn.results.toList with
            | some (d, s2) => .ok (forgetD (E.fs f).pu sto.length d s2.sto)
            | none => .no [26]
        else .no [27]

section
variable {P : Program} {E : Ev} {T : St} {call : Caller} {s s' s1 : DS} {o : Oper} {ops : Array Oper}

noncomputable def CallOk (P : Program) (call : Caller) : Prop :=
  ∀ r f args sto d sto', call r f args sto = .ok (d, sto') → Tri P f r args sto (fun d' l => d' = d ∧ l = sto') ∧ Pre r sto sto'
structure EvOk (P : Program) (E : Ev) : Prop where
  sp : ∀ f g, E.sp f = some g → ∀ r args sto d sto', g r f args sto = .ok (d, sto') → Tri P f r args sto (fun d' l => d' = d ∧ l = sto') ∧ Pre r sto sto'
  L : LyOK P E.L
  m : P.follows .mixedOrders = true
  hk : ∀ f T s o s' x args tys caps, T.L = E.L → T.ro ≤ s.sto.length → o.op = .call { callee := .value x, args := args, argTypes := tys } → lookO s x = some (.fn f caps) → E.hk f T s o = some (.ok s') → OpOk P T o s (fun s1 => s1 = s') ∧ Pre T.ro s.sto s'.sto

theorem evGive_ok (hc : CallOk P call) {x : Operand} {args : Array Operand} {tys : Array TypeId} (ho : o.op = .call { callee := .value x, args, argTypes := tys }) {f r : Nat} {caps ds : List D}
    {oa : List Nat} (hx : lookO s x = some (.fn f caps)) (ht : takeL s args.toList = some (ds, s1)) (hds : (frzA oa 0 ds).all cellsOK = true) (hok : stoOK T.ro r s.sto = true) (hr : T.ro ≤ r) (h : evGive call T s o.dst f r (frzA oa 0 ds) caps s1 = .ok s') :
    OpOk P T o s (fun s2 => s2 = s') ∧ Pre T.ro s.sto s'.sto := by
  unfold evGive at h
  split at h
  · cases h
  · rename_i d sto' hcall
    obtain ⟨h1, h2⟩ := hc _ _ _ _ _ _ hcall
    split at h
    · rename_i hp
      simp only [Bool.and_eq_true] at hp
      split at h
      · rename_i s2 hput
        cases h
        refine ⟨OpOk.call ho oa hx ht hds hok hr h1 fun d' l hd hl => ?_, ?_⟩
        · obtain ⟨rfl, rfl⟩ := hd
          exact ⟨hp.1, h2.2, hp.2, _, hput, rfl⟩
        · rw [put_sto hput]
          exact h2.mono hr
      · cases h
    · cases h

theorem evCall_ok (hc : CallOk P call) {x : Operand} {args : Array Operand} {tys : Array TypeId} (ho : o.op = .call { callee := .value x, args, argTypes := tys }) {f : Nat} {caps : List D}
    (hx : lookO s x = some (.fn f caps)) (h : evCall E call T s o.dst f caps args.toList = .ok s') : OpOk P T o s (fun s2 => s2 = s') ∧ Pre T.ro s.sto s'.sto := by
  unfold evCall at h
  split at h
  · cases h
  · rename_i ds s1 ht
    simp only at h
    split at h
    · rename_i hg
      simp only [Bool.and_eq_true, decide_eq_true_eq] at hg
      exact evGive_ok hc ho hx ht hg.1.2.1 hg.1.2.2 hg.2 h
    · split at h
      · rename_i hg
        simp only [Bool.and_eq_true] at hg
        split at h
        · rename_i ds' hl
          unfold evLend at h
          split at h
          · cases h
          · rename_i d sto' hcall
            obtain ⟨h1, h2⟩ := hc _ _ _ _ _ _ hcall
            split at h
            · rename_i hp
              simp only [Bool.and_eq_true, beq_iff_eq] at hp
              split at h
              · rename_i s2 hput
                cases h
                have hcaps : caps = [] := by cases caps with | nil => rfl | cons a b => simp [isNilL] at hg
                subst hcaps
                refine ⟨OpOk.callL ho hx hl hg.2.2.2 h1 fun d' l hd => ?_, ?_⟩
                · obtain ⟨rfl, rfl⟩ := hd
                  refine ⟨?_, hp.2, _, hput, rfl⟩
                  apply List.ext_getElem?
                  intro k
                  by_cases hk : k < s.sto.length
                  · exact h2.2 k hk
                  · rw [List.getElem?_eq_none (by omega), List.getElem?_eq_none (by omega)]
                · rw [put_sto hput]
                  exact Pre.refl _ _
              · cases h
            · cases h
        · cases h
      · split at h
        · rename_i hg
          simp only [Bool.and_eq_true] at hg
          exact evGive_ok hc ho hx ht hg.1 hg.2 (Nat.le_refl _) h
        · cases h

theorem at_ok {α : Type} {k : List Nat} {x : Rz α} {a : α} (h : x.at k = .ok a) : x = .ok a := by
  cases x with
  | ok b => exact h
  | no w => cases h

theorem evOp_ok (H : EvOk P E) (hc : CallOk P call) (hL : T.L = E.L) (hl : T.ro ≤ s.sto.length) (h : evOp E call T s o = .ok s') : OpOk P T o s (fun s2 => s2 = s') ∧ Pre T.ro s.sto s'.sto := by
  unfold evOp at h
  split at h
  · rename_i x args tys ho
    split at h
    · rename_i f caps hx
      split at h
      · rename_i r hr
        subst h
        exact H.hk f T s o s' x args tys caps hL hl ho hx hr
      · exact evCall_ok hc ho hx (at_ok h)
    · cases h
  · split at h
    · rename_i s1 h1
      cases h
      rw [opE_eq] at h1
      exact ⟨OpOk.op (by rw [hL]; exact H.L) h1 rfl, opD_pre h1 hl⟩
    · cases h

theorem evStep_ok (H : EvOk P E) (hc : CallOk P call) (hL : T.L = E.L) (hl : T.ro ≤ s.sto.length) {i : Nat} (h : evStep E call T ops i s = .ok s') : stepOk P T ops i s (fun s2 => s2 = s') ∧ Pre T.ro s.sto s'.sto := by
  unfold evStep at h
  unfold stepOk
  cases ho : ops[i]? with
  | none => rw [ho] at h; cases h
  | some o =>
    rw [ho] at h
    simp only at h ⊢
    cases hw : wantD ops s o with
    | none => rw [hw] at h; cases h
    | some b =>
      rw [hw] at h
      cases b with
      | true => exact evOp_ok H hc hL hl (at_ok h)
      | false =>
        simp only at h ⊢
        cases hp : put T.c o.dst (.tup []) s with
        | none => rw [hp] at h; cases h
        | some s2 =>
          rw [hp] at h
          cases h
          exact ⟨rfl, Pre.of_eq (put_sto hp)⟩

theorem evOps_ok (H : EvOk P E) (hc : CallOk P call) (hL : T.L = E.L) : ∀ {l : List Nat} {s : DS}, T.ro ≤ s.sto.length → evOps E call T ops l s = .ok s' → OpsOk P T ops l s (fun s2 => s2 = s') ∧ Pre T.ro s.sto s'.sto
  | [], s, _, h => by
    simp [evOps] at h
    subst h
    exact ⟨rfl, Pre.refl _ _⟩
  | i :: r, s, hl, h => by
    simp only [evOps] at h
    split at h
    · rename_i s1 h1
      obtain ⟨q1, q2⟩ := evStep_ok H hc hL hl h1
      obtain ⟨q3, q4⟩ := evOps_ok H hc hL (Nat.le_trans hl q2.1) h
      refine ⟨?_, q2.trans q4⟩
      unfold stepOk at q1
      simp only [OpsOk]
      cases ho : ops[i]? with
      | none => rw [ho] at q1; exact q1.elim
      | some o =>
        rw [ho] at q1
        simp only at q1 ⊢
        cases hw : wantD ops s o with
        | none => rw [hw] at q1; exact q1.elim
        | some b =>
          rw [hw] at q1
          cases b with
          | true => exact OpOk.mono q1 fun s2 h2 => by subst h2; exact q3
          | false =>
            simp only at q1 ⊢
            cases hp : put T.c o.dst (.tup []) s with
            | none => rw [hp] at q1; exact q1.elim
            | some s2 => rw [hp] at q1; simp only at q1 ⊢; subst q1; exact q3
    · cases h

theorem readPass_ahead : ∀ {l L V : List Nat} {s : DS} {is L1 V1 : List Nat} {s1 : DS}, readPass T ops l L V s = (is, L1, V1, s1) → aheadD T ops is L V s = some (L1, V1, s1) ∧ s1.sto = s.sto
  | [], L, V, s, is, L1, V1, s1, h => by
    simp only [readPass, Prod.mk.injEq] at h
    obtain ⟨rfl, rfl, rfl, rfl⟩ := h
    exact ⟨rfl, rfl⟩
  | i :: r, L, V, s, is, L1, V1, s1, h => by
    simp only [readPass] at h
    split at h
    · exact readPass_ahead h
    · rename_i t ht
      split at h
      · rename_i hg
        split at h
        · rename_i d hd
          cases hx : readPass T ops r (i :: L) (i :: V) (putS t d s) with
          | mk is' x =>
          rw [hx] at h
          cases h
          obtain ⟨q1, q2⟩ := readPass_ahead hx
          refine ⟨?_, q2⟩
          rw [hasB_eq, rdyF_eq] at hg
          simp only [aheadD, ht, if_pos hg, hd]
          exact q1
        · exact readPass_ahead h
      · exact readPass_ahead h

theorem optEq_eq {x : Option D} {y : D} (h : optEq x y = true) : x = some y := by
  cases x with
  | none => cases h
  | some z => rw [dEq_eq (show dEq z y = true from h)]
theorem stillB_ok {V : List Nat} (h : stillB T ops V s s1 = true) : stillV T ops V s s1 := by
  intro i hi t d ht hd hlk
  have := List.all_eq_true.1 h i hi
  rw [ht] at this
  simp only [hd, Bool.and_eq_true] at this
  exact ⟨optEq_eq this.1, optEq_eq this.2⟩
theorem stepOk.mono {j : Nat} {K K' : DS → Prop} (h : stepOk P T ops j s K) (hk : ∀ s, K s → K' s) : stepOk P T ops j s K' := by
  unfold stepOk at h ⊢
  cases ho : ops[j]? with
  | none => rw [ho] at h; exact h.elim
  | some o =>
    rw [ho] at h
    simp only at h ⊢
    cases hw : wantD ops s o with
    | none => rw [hw] at h; exact h.elim
    | some b =>
      rw [hw] at h
      cases b with
      | true => exact OpOk.mono h hk
      | false =>
        simp only at h ⊢
        cases hp : put T.c o.dst (.tup []) s with
        | none => rw [hp] at h; exact h.elim
        | some s2 => rw [hp] at h; exact hk _ h

theorem readPass_len : ∀ {l L V : List Nat} {s : DS} {is L1 V1 : List Nat} {s1 : DS}, readPass T ops l L V s = (is, L1, V1, s1) → is.length ≤ l.length
  | [], L, V, s, is, L1, V1, s1, h => by
    simp only [readPass, Prod.mk.injEq] at h
    obtain ⟨rfl, rfl, rfl, rfl⟩ := h
    exact Nat.le_refl _
  | i :: r, L, V, s, is, L1, V1, s1, h => by
    simp only [readPass] at h
    split at h
    · exact Nat.le_succ_of_le (readPass_len h)
    · split at h
      · split at h
        · cases hx : readPass T ops r (i :: L) (i :: V) (putS _ _ s) with
          | mk is' x =>
          rw [hx] at h
          cases h
          exact Nat.succ_le_succ (readPass_len hx)
        · exact Nat.le_succ_of_le (readPass_len h)
      · exact Nat.le_succ_of_le (readPass_len h)

theorem Sch.succ {K : DS → Prop} : ∀ {n : Nat} {L V : List Nat} {s : DS}, Sch P T ops n L V s K → Sch P T ops (n + 1) L V s K
  | 0, L, V, s, h => .inl h
  | n + 1, L, V, s, h => by
    rcases h with h | ⟨i, t, d, h1, h2, h3, h4, h5, h6, h7⟩ | ⟨h1, h2⟩ | ⟨L', V', s1, h1, h2, h3, h4, h5⟩
    · exact .inl h
    · exact .inr (.inl ⟨i, t, d, h1, h2, h3, h4, h5, h6, Sch.succ h7⟩)
    · exact .inr (.inr (.inl ⟨h1, fun j hj hjL hr => (h2 j hj hjL hr).mono fun s h => ⟨h.1, Sch.succ h.2⟩⟩))
    · exact .inr (.inr (.inr ⟨L', V', s1, h1, h2, h3, h4, Sch.succ h5⟩))
theorem Sch.upto {K : DS → Prop} {n m : Nat} (h : n ≤ m) {L V : List Nat} {s : DS} (hs : Sch P T ops n L V s K) : Sch P T ops m L V s K := by
  obtain ⟨k, rfl⟩ : ∃ k, m = n + k := ⟨m - n, by omega⟩
  induction k with
  | zero => exact hs
  | succ k ih => exact Sch.succ (ih (by omega))

structure CovP (T : St) (ops : Array Oper) (p q : PS) : Prop where
  L : ∀ k, k ∈ q.L ↔ k ∈ p.L
  V : ∀ k, k ∈ p.V → k ∈ q.V
  le : LeS p.s q.s
  st : stillV T ops p.V p.s q.s
theorem LeS.refl (s : DS) : LeS s s := ⟨fun _ _ h => h, fun _ cs h => ⟨cs, h, fun j c hc => ⟨c, hc, fun _ _ _ _ _ h => h⟩⟩, rfl, fun _ => Nat.le_refl _, fun _ => Nat.le_refl _, fun _ => Nat.le_refl _, Nat.le_refl _, Nat.le_refl _, rfl⟩
theorem LeS.trans {s s1 s2 : DS} (h : LeS s s1) (h' : LeS s1 s2) : LeS s s2 :=
  ⟨fun t d ht => h.env t d (h'.env t d ht), fun t cs ht => by
    obtain ⟨cs1, h1, w1⟩ := h'.loc t cs ht
    obtain ⟨cs0, h0, w0⟩ := h.loc t cs1 h1
    refine ⟨cs0, h0, fun j c hc => ?_⟩
    obtain ⟨c1, hc1, v1⟩ := w1 j c hc
    obtain ⟨c0, hc0, v0⟩ := w0 j c1 hc1
    exact ⟨c0, hc0, fun w G m p v hv => v1 w G m p v (v0 w G m p v hv)⟩, h'.sto.trans h.sto, fun t => Nat.le_trans (h.vr t) (h'.vr t), fun t => Nat.le_trans (h.lv t) (h'.lv t), fun t => Nat.le_trans (h.al t) (h'.al t), Nat.le_trans h.era h'.era, Nat.le_trans h.ep h'.ep, h'.ro.trans h.ro⟩
theorem CovP.refl (p : PS) : CovP T ops p p := ⟨fun _ => Iff.rfl, fun _ h => h, LeS.refl _, fun i _ t d _ h2 h3 => ⟨h2, h3⟩⟩
theorem CovP.trans {p q r : PS} (h : CovP T ops p q) (h' : CovP T ops q r) : CovP T ops p r :=
  ⟨fun k => (h'.L k).trans (h.L k), fun k hk => h'.V k (h.V k hk), h.le.trans h'.le, fun i hi t d h1 h2 h3 => by
    obtain ⟨q1, q2⟩ := h.st i hi t d h1 h2 h3
    exact h'.st i (h.V i hi) t d h1 q1 q2⟩
theorem CovP.sch {K : DS → Prop} {n : Nat} {p q : PS} (h : CovP T ops p q) (hs : Sch P T ops n q.L q.V q.s K) : Sch P T ops (n + 1) p.L p.V p.s K :=
  .inr (.inr (.inr ⟨q.L, q.V, q.s, h.L, h.V, h.le, h.st, hs⟩))

theorem lk_filter {α : Type} {f : Nat × α → Bool} {t : Nat} : ∀ {l : List (Nat × α)} {a : α}, lk t (l.filter f) = some a → f (t, a) = true
  | [], a, h => by simp [lk_nil] at h
  | x :: r, a, h => by
    rw [List.filter_cons] at h
    split at h
    · rename_i hf
      simp only [lk_cons] at h
      split at h
      · rename_i e
        cases h
        rw [← e]
        exact hf
      · exact lk_filter h
    · exact lk_filter h
theorem mEq_eq : ∀ {x y : List (D × D)}, mEq x y = true → x = y
  | [], [], _ => rfl
  | [], _ :: _, h => by simp [mEq] at h
  | _ :: _, [], h => by simp [mEq] at h
  | (a, b) :: x, (c, d) :: y, h => by
    simp only [mEq, Bool.and_eq_true] at h
    rw [dEq_eq h.1.1, dEq_eq h.1.2, mEq_eq h.2]
theorem obEqs_eq : ∀ {x y : List Ob}, obEqs x y = true → x = y
  | [], [], _ => rfl
  | [], _ :: _, h => by simp [obEqs] at h
  | _ :: _, [], h => by simp [obEqs] at h
  | a :: x, b :: y, h => by
    simp only [obEqs, Bool.and_eq_true] at h
    have : a = b := by
      cases a <;> cases b <;> simp only [obEq] at h
      · rw [dEqL_eq h.1]
      · simp at h
      · simp at h
      · rw [mEq_eq h.1]
    rw [this, obEqs_eq h.2]
theorem vc_dead {w : World} {G : Gh} {m : Mt} {p : Place} {d : D} {v : Value} (hd : isListD d = true) (h : VC w G m p d v) : VC w G m p .dead v := by
  cases d with
  | list q xs =>
    show v.oneCell' = true
    cases q with
    | own sz =>
      have h' : OwnL w G p sz xs v := h
      rcases h' with ⟨_, rfl⟩ | ⟨_, b, off, cap, rfl, _⟩ <;> rfl
    | cp e q =>
      have h' : CpL w G m e q xs v := h
      obtain ⟨A, cap, rfl, _⟩ := h'
      rfl
    | imm =>
      have h' : Imm w G.be G.st (.list .imm xs) v := h
      cases h' <;> rfl
  | dead => exact h
  | _ => cases hd
theorem joinC_le {a b c : D} (h : joinC a b = some c) : (∀ w G m p v, VC w G m p a v → VC w G m p c v) ∧ ∀ w G m p v, VC w G m p b v → VC w G m p c v := by
  unfold joinC at h
  split at h
  · rename_i he
    cases h
    rw [dEq_eq he]
    exact ⟨fun _ _ _ _ _ h => h, fun _ _ _ _ _ h => h⟩
  · split at h
    · rename_i he
      cases h
      simp only [Bool.and_eq_true] at he
      exact ⟨fun w G m p v h => vc_dead he.1 h, fun w G m p v h => vc_dead he.2 h⟩
    · cases h
theorem joinL_le : ∀ {x y z : List D}, joinL x y = some z → ∀ (j : Nat) (c : D), z[j]? = some c → (∃ a, x[j]? = some a ∧ ∀ w G m p v, VC w G m p a v → VC w G m p c v) ∧ ∃ b, y[j]? = some b ∧ ∀ w G m p v, VC w G m p b v → VC w G m p c v
  | [], [], z, h, j, c, hc => by
    simp [joinL] at h
    subst h
    simp at hc
  | [], _ :: _, z, h, _, _, _ => by simp [joinL] at h
  | _ :: _, [], z, h, _, _, _ => by simp [joinL] at h
  | a :: x, b :: y, z, h, j, c, hc => by
    simp only [joinL] at h
    split at h
    · rename_i c0 r h1 h2
      cases h
      cases j with
      | zero =>
        simp at hc
        subst hc
        obtain ⟨q1, q2⟩ := joinC_le h1
        exact ⟨⟨a, rfl, q1⟩, b, rfl, q2⟩
      | succ j => simpa using joinL_le h2 j c (by simpa using hc)
    · cases h
theorem joinLoc_le {l l' : List (Nat × List D)} : ∀ {q : List (Nat × List D)} {t : Nat} {cs : List D}, lk t (joinLoc l l' q) = some cs → ∃ a b, lk t l = some a ∧ lk t l' = some b ∧ joinL a b = some cs
  | [], t, cs, h => by simp [joinLoc, lk_nil] at h
  | x :: r, t, cs, h => by
    simp only [joinLoc] at h
    split at h
    · rename_i a b ha hb
      split at h
      · rename_i c hc
        simp only [lk_cons] at h
        split at h
        · rename_i e
          cases h
          subst e
          exact ⟨a, b, ha, hb, hc⟩
        · exact joinLoc_le h
      · exact joinLoc_le h
    · exact joinLoc_le h
theorem joinS_le {s s' : DS} (hs : obEqs s.sto s'.sto = true) (hr : s.m.ro = s'.m.ro) : LeS s (joinS s s') ∧ LeS s' (joinS s s') := by
  have hs' := obEqs_eq hs
  refine ⟨⟨fun t d h => ?_, fun t d h => ?_, rfl, fun t => (Cn.max_at _ _ t).1, fun t => (Cn.max_at _ _ t).1, fun t => (Cn.max_at _ _ t).1, Nat.le_max_left _ _, Nat.le_max_left _ _, rfl⟩, ⟨fun t d h => ?_, fun t d h => ?_, hs', fun t => (Cn.max_at _ _ t).2, fun t => (Cn.max_at _ _ t).2, fun t => (Cn.max_at _ _ t).2, Nat.le_max_right _ _, Nat.le_max_right _ _, hr⟩⟩
  · have := lk_filter h; simp only [Bool.and_eq_true] at this; exact optEq_eq this.2
  · obtain ⟨a, b, ha, hb, hj⟩ := joinLoc_le h
    exact ⟨a, ha, fun j c hc => (joinL_le hj j c hc).1⟩
  · have := lk_filter h; simp only [Bool.and_eq_true] at this; exact optEq_eq this.1
  · obtain ⟨a, b, ha, hb, hj⟩ := joinLoc_le h
    exact ⟨b, hb, fun j c hc => (joinL_le hj j c hc).2⟩
theorem sameSet_iff {L L' : List Nat} (h : sameSet L L' = true) (k : Nat) : k ∈ L ↔ k ∈ L' := by
  have e : mskL L = mskL L' := Nat.eq_of_beq_eq_true h
  have : L.contains k = L'.contains k := by rw [← mskL_bit, ← mskL_bit, e]
  exact ⟨fun hk => List.contains_iff_mem.1 (this ▸ List.contains_iff_mem.2 hk), fun hk => List.contains_iff_mem.1 (this.symm ▸ List.contains_iff_mem.2 hk)⟩
theorem joinP_cov {p q x : PS} (hL : sameSet p.L q.L = true) (h : joinP T ops p q = some x) : CovP T ops p x ∧ CovP T ops q x := by
  simp only [joinP] at h
  rw [Option.ite_none_right_eq_some] at h
  obtain ⟨hc, h⟩ := h
  cases h
  simp only [Bool.and_eq_true, decide_eq_true_eq] at hc
  obtain ⟨⟨⟨h1, h2⟩, h3⟩, h4⟩ := hc
  obtain ⟨l1, l2⟩ := joinS_le h1 h2
  exact ⟨⟨fun k => Iff.rfl, fun k hk => by simp [hk], l1, stillB_ok h3⟩, ⟨fun k => sameSet_iff hL k, fun k hk => by simp [hk], l2, stillB_ok h4⟩⟩
theorem mergeIn_cov {p : PS} : ∀ {acc acc' : List PS}, mergeIn T ops p acc = some acc' → (∃ x, x ∈ acc' ∧ CovP T ops p x) ∧ ∀ q, q ∈ acc → ∃ x, x ∈ acc' ∧ CovP T ops q x
  | [], acc', h => by
    simp [mergeIn] at h
    subst h
    exact ⟨⟨p, by simp, CovP.refl _⟩, fun q hq => nomatch hq⟩
  | q :: r, acc', h => by
    simp only [mergeIn] at h
    split at h
    · rename_i hL
      split at h
      · rename_i x hx
        cases h
        obtain ⟨c1, c2⟩ := joinP_cov hL hx
        refine ⟨⟨x, by simp, c1⟩, fun y hy => ?_⟩
        rcases List.mem_cons.1 hy with e | hy
        · rw [e]; exact ⟨x, by simp, c2⟩
        · exact ⟨y, by simp [hy], CovP.refl _⟩
      · cases h
    · split at h
      · rename_i r' hr
        cases h
        obtain ⟨⟨x, hx, c1⟩, c2⟩ := mergeIn_cov hr
        refine ⟨⟨x, by simp [hx], c1⟩, fun y hy => ?_⟩
        rcases List.mem_cons.1 hy with e | hy
        · rw [e]; exact ⟨q, by simp, CovP.refl _⟩
        · obtain ⟨z, hz, c3⟩ := c2 y hy
          exact ⟨z, by simp [hz], c3⟩
      · cases h
theorem readP_sch {K : DS → Prop} {n : Nat} {p : PS} (hs : Sch P T ops n (readP T ops p).L (readP T ops p).V (readP T ops p).s K) : Sch P T ops (n + ops.size) p.L p.V p.s K := by
  obtain ⟨is, L1, V1, s1, hp⟩ : ∃ is L1 V1 s1, readPass T ops (List.range ops.size) p.L p.V p.s = (is, L1, V1, s1) := ⟨_, _, _, _, rfl⟩
  have hl := readPass_len hp
  rw [List.length_range] at hl
  unfold readP at hs
  rw [hp] at hs
  exact Sch.upto (by omega) (Sch.ahead (readPass_ahead hp).1 hs)
theorem readP_sto (p : PS) : (readP T ops p).s.sto = p.s.sto := by
  obtain ⟨is, L1, V1, s1, hp⟩ : ∃ is L1 V1 s1, readPass T ops (List.range ops.size) p.L p.V p.s = (is, L1, V1, s1) := ⟨_, _, _, _, rfl⟩
  unfold readP
  rw [hp]
  exact (readPass_ahead hp).2

theorem stepP_ok {p : PS} : ∀ {js : List Nat} {acc acc' : List PS}, stepP E call T ops p js acc = .ok acc' → (∀ q, q ∈ acc → ∃ x, x ∈ acc' ∧ CovP T ops q x) ∧
    ∀ j, j ∈ js → ∃ s2, evStep E call T ops j p.s = .ok s2 ∧ stillV T ops (dropB ops j p.V) p.s s2 ∧ ∃ x, x ∈ acc' ∧ CovP T ops (readP T ops ⟨j :: p.L, dropB ops j p.V, s2⟩) x
  | [], acc, acc', h => by
    simp [stepP] at h
    subst h
    exact ⟨fun q hq => ⟨q, hq, CovP.refl _⟩, fun j hj => nomatch hj⟩
  | j :: js, acc, acc', h => by
    simp only [stepP, dropF_eq] at h
    split at h
    · cases h
    · rename_i s2 hs2
      split at h
      · rename_i hst
        split at h
        · rename_i acc1 hm
          obtain ⟨⟨x, hx, c1⟩, c2⟩ := mergeIn_cov hm
          obtain ⟨d1, d2⟩ := stepP_ok h
          refine ⟨fun q hq => ?_, fun k hk => ?_⟩
          · obtain ⟨y, hy, c3⟩ := c2 q hq
            obtain ⟨z, hz, c4⟩ := d1 y hy
            exact ⟨z, hz, c3.trans c4⟩
          · rcases List.mem_cons.1 hk with e | hk
            · subst e
              obtain ⟨z, hz, c4⟩ := d1 x hx
              exact ⟨s2, hs2, stillB_ok hst, z, hz, c1.trans c4⟩
            · exact d2 k hk
        · cases h
      · cases h
theorem stepAll_ok {k : Nat} : ∀ {ps acc acc' : List PS}, stepAll E call T ops k ps acc = .ok acc' → (∀ q, q ∈ acc → ∃ x, x ∈ acc' ∧ CovP T ops q x) ∧
    ∀ p, p ∈ ps → (∃ x, x ∈ acc' ∧ CovP T ops p x) ∨ (readyL ops p.L ≠ [] ∧ ∀ j, j ∈ readyL ops p.L → ∃ s2, evStep E call T ops j p.s = .ok s2 ∧ stillV T ops (dropB ops j p.V) p.s s2 ∧ ∃ x, x ∈ acc' ∧ CovP T ops (readP T ops ⟨j :: p.L, dropB ops j p.V, s2⟩) x)
  | [], acc, acc', h => by
    simp [stepAll] at h
    subst h
    exact ⟨fun q hq => ⟨q, hq, CovP.refl _⟩, fun p hp => nomatch hp⟩
  | p :: ps, acc, acc', h => by
    simp only [stepAll] at h
    split at h
    · split at h
      · rename_i acc1 hm
        obtain ⟨c1, c2⟩ := mergeIn_cov hm
        obtain ⟨d1, d2⟩ := stepAll_ok h
        refine ⟨fun q hq => ?_, fun k hk => ?_⟩
        · obtain ⟨y, hy, c3⟩ := c2 q hq
          obtain ⟨z, hz, c4⟩ := d1 y hy
          exact ⟨z, hz, c3.trans c4⟩
        · rcases List.mem_cons.1 hk with e | hk
          · subst e
            obtain ⟨y, hy, c3⟩ := c1
            obtain ⟨z, hz, c4⟩ := d1 y hy
            exact .inl ⟨z, hz, c3.trans c4⟩
          · exact d2 k hk
      · cases h
    · split at h
      · cases h
      · rename_i hne
        split at h
        · cases h
        · rename_i acc1 hm
          obtain ⟨c1, c2⟩ := stepP_ok hm
          obtain ⟨d1, d2⟩ := stepAll_ok h
          refine ⟨fun q hq => ?_, fun k hk => ?_⟩
          · obtain ⟨y, hy, c3⟩ := c1 q hq
            obtain ⟨z, hz, c4⟩ := d1 y hy
            exact ⟨z, hz, c3.trans c4⟩
          · rcases List.mem_cons.1 hk with e | hk
            · subst e
              refine .inr ⟨fun e => hne e, fun j hj => ?_⟩
              obtain ⟨s2, q1, q2, x, q3, q4⟩ := c2 j hj
              obtain ⟨z, hz, c4⟩ := d1 x q3
              exact ⟨s2, q1, q2, z, hz, q4.trans c4⟩
            · exact d2 k hk

theorem mergeIn_ro {p : PS} : ∀ {acc acc' : List PS}, mergeIn T ops p acc = some acc' → T.ro ≤ p.s.sto.length → (∀ q, q ∈ acc → T.ro ≤ q.s.sto.length) → ∀ x, x ∈ acc' → T.ro ≤ x.s.sto.length
  | [], acc', h, h1, _, x, hx => by
    simp [mergeIn] at h
    subst h
    have : x = p := by simpa using hx
    rw [this]; exact h1
  | q :: r, acc', h, h1, h2, x, hx => by
    simp only [mergeIn] at h
    split at h
    · rename_i hL
      split at h
      · rename_i y hy
        cases h
        rcases List.mem_cons.1 hx with e | hx
        · rw [e, (joinP_cov hL hy).1.le.sto]; exact h1
        · exact h2 x (by simp [hx])
      · cases h
    · split at h
      · rename_i r' hr
        cases h
        rcases List.mem_cons.1 hx with e | hx
        · rw [e]; exact h2 q (by simp)
        · exact mergeIn_ro hr h1 (fun y hy => h2 y (by simp [hy])) x hx
      · cases h
theorem stepP_ro (H : EvOk P E) (hc : CallOk P call) (hL : T.L = E.L) {p : PS} (hl : T.ro ≤ p.s.sto.length) : ∀ {js : List Nat} {acc acc' : List PS}, (∀ q, q ∈ acc → T.ro ≤ q.s.sto.length) → stepP E call T ops p js acc = .ok acc' → ∀ x, x ∈ acc' → T.ro ≤ x.s.sto.length
  | [], acc, acc', h0, h => by
    simp [stepP] at h
    subst h
    exact h0
  | j :: js, acc, acc', h0, h => by
    simp only [stepP] at h
    split at h
    · cases h
    · rename_i s2 hs2
      split at h
      · split at h
        · rename_i acc1 hm
          refine stepP_ro H hc hL hl (mergeIn_ro hm ?_ h0) h
          rw [readP_sto]
          exact Nat.le_trans hl (evStep_ok H hc hL hl hs2).2.1
        · cases h
      · cases h
theorem stepAll_ro (H : EvOk P E) (hc : CallOk P call) (hL : T.L = E.L) {k : Nat} : ∀ {ps acc acc' : List PS}, (∀ p, p ∈ ps → T.ro ≤ p.s.sto.length) → (∀ q, q ∈ acc → T.ro ≤ q.s.sto.length) → stepAll E call T ops k ps acc = .ok acc' → ∀ x, x ∈ acc' → T.ro ≤ x.s.sto.length
  | [], acc, acc', _, h0, h => by
    simp [stepAll] at h
    subst h
    exact h0
  | p :: ps, acc, acc', hl, h0, h => by
    simp only [stepAll] at h
    split at h
    · split at h
      · rename_i acc1 hm
        exact stepAll_ro H hc hL (fun q hq => hl q (by simp [hq])) (mergeIn_ro hm (hl p (by simp)) h0) h
      · cases h
    · split at h
      · cases h
      · split at h
        · cases h
        · rename_i acc1 hm
          exact stepAll_ro H hc hL (fun q hq => hl q (by simp [hq])) (stepP_ro H hc hL (hl p (by simp)) h0 hm) h
theorem evDag_ok (H : EvOk P E) (hc : CallOk P call) (hL : T.L = E.L) : ∀ {m : Nat} {ps : List PS}, (∀ p, p ∈ ps → T.ro ≤ p.s.sto.length) → evDag E call T ops m ps = .ok s' → ∀ p, p ∈ ps → Sch P T ops (m * (ops.size + 2)) p.L p.V p.s (fun s2 => s2 = s') ∧ Pre T.ro p.s.sto s'.sto
  | 0, ps, _, h => by cases h
  | m + 1, ps, hl, h => by
    have step : ∀ k ps', stepAll E call T ops k ps [] = .ok ps' → evDag E call T ops m ps' = .ok s' → ∀ p, p ∈ ps → Sch P T ops ((m + 1) * (ops.size + 2)) p.L p.V p.s (fun s2 => s2 = s') ∧ Pre T.ro p.s.sto s'.sto := by
      intro k ps' h1 h2 p hp
      obtain ⟨_, c2⟩ := stepAll_ok h1
      -- each state of the next round is some step's
      have hro' : ∀ x, x ∈ ps' → T.ro ≤ x.s.sto.length := stepAll_ro H hc hL hl (fun q hq => by cases hq) h1
      have ih := evDag_ok H hc hL hro' h2
      rcases c2 p hp with ⟨x, hx, cx⟩ | ⟨hne, hj⟩
      · have p2 := (ih x hx).2
        rw [cx.le.sto] at p2
        exact ⟨Sch.upto (show m * (ops.size + 2) + 1 ≤ (m + 1) * (ops.size + 2) by rw [Nat.succ_mul]; omega) (cx.sch (ih x hx).1), p2⟩
      have hmem : ∀ j, j < ops.size → j ∉ p.L → rdy ops p.L j = true → j ∈ readyL ops p.L := fun j h1 h2 h3 => by
        refine List.mem_filter.2 ⟨List.mem_range.2 h1, ?_⟩
        rw [hasB_eq, rdyF_eq]
        have : p.L.contains j = false := by
          cases hh : p.L.contains j with
          | false => rfl
          | true => exact absurd (List.contains_iff_mem.1 hh) h2
        rw [this, h3]
        rfl
      constructor
      · rw [show (m + 1) * (ops.size + 2) = (m * (ops.size + 2) + 1 + ops.size) + 1 by rw [Nat.succ_mul]; omega]
        refine .inr (.inr (.inl ⟨?_, fun j h1 h2 h3 => ?_⟩))
        · obtain ⟨j, r, e⟩ := List.exists_cons_of_ne_nil hne
          have : j ∈ readyL ops p.L := by rw [e]; simp
          obtain ⟨q1, q2⟩ := List.mem_filter.1 this
          simp only [hasB_eq, Bool.and_eq_true, Bool.not_eq_true'] at q2
          exact ⟨j, List.mem_range.1 q1, fun hm => by rw [List.contains_iff_mem.2 hm] at q2; cases q2.1⟩
        · obtain ⟨s2, q1, q2, x, q3, q4⟩ := hj j (hmem j h1 h2 h3)
          refine (evStep_ok H hc hL (hl p hp) q1).1.mono fun s3 h3 => ?_
          subst h3
          exact ⟨q2, readP_sch (p := ⟨j :: p.L, _, s3⟩) (q4.sch (ih x q3).1)⟩
      · obtain ⟨j, r, e⟩ := List.exists_cons_of_ne_nil hne
        obtain ⟨s2, q1, q2, x, q3, q4⟩ := hj j (by rw [e]; simp)
        have p1 := (evStep_ok H hc hL (hl p hp) q1).2
        have p2 := (ih x q3).2
        rw [q4.le.sto, readP_sto] at p2
        exact p1.trans p2
    intro p hp
    simp only [evDag] at h
    split at h
    · rename_i p0
      split at h
      · rename_i hall
        cases h
        have e : p = p0 := by simpa using hp
        subst e
        refine ⟨Sch.done (fun k hk => ?_) rfl, Pre.refl _ _⟩
        exact List.contains_iff_mem.1 (by rw [← hasB_eq]; exact List.all_eq_true.1 hall k (List.mem_range.2 hk))
      · split at h
        · cases h
        · rename_i ps' h1
          exact step _ ps' h1 h p hp
    · split at h
      · cases h
      · rename_i ps' h1
        exact step _ ps' h1 h p hp
theorem evDraw_ok (H : EvOk P E) (hc : CallOk P call) (hL : T.L = E.L) {s : DS} (hl : T.ro ≤ s.sto.length) (h : evDraw E call T ops s = .ok s') : (∃ n, Sch P T ops n [] [] s (fun s2 => s2 = s')) ∧ Pre T.ro s.sto s'.sto := by
  unfold evDraw at h
  obtain ⟨q1, q2⟩ := evDag_ok H hc hL (ps := [readP T ops ⟨[], [], s⟩]) (fun p hp => by
    have e : p = readP T ops ⟨[], [], s⟩ := by simpa using hp
    rw [e, readP_sto]; exact hl) h (readP T ops ⟨[], [], s⟩) (by simp)
  rw [readP_sto] at q2
  exact ⟨⟨_, readP_sch (p := ⟨[], [], s⟩) q1⟩, q2⟩

theorem rzPr_ok {lv : List Nat} {x : Rz DS} {y : Ex × DS} (h : rzPr lv x = .ok y) : y.1 = .nx ∧ ∃ s, x = .ok s ∧ y.2 = prune lv s := by
  cases x with
  | ok s => simp only [rzPr, fDS_eq] at h; cases h; exact ⟨rfl, s, rfl, rfl⟩
  | no w => cases h
theorem prune_sto (lv : List Nat) (s : DS) : (prune lv s).sto = s.sto := by unfold prune; split <;> rfl
theorem Ok.prune {c : Code} {Q Q' : Ex → DS → Prop} (lv : List Nat) (h : Ok P T c s Q) (hq : ∀ x s', Q x s' → Q' x (Lv.prune lv s')) : Ok P T c s Q' := by
  intro X G a w hX hR
  refine wp_mono (h X G a w hX hR) fun e a' w' ⟨x, s', G', h1, h2, h3⟩ => ⟨x, Lv.prune lv s', G', h1, hq _ _ h2, ?_⟩
  unfold Lv.prune
  split
  · exact h3
  · exact h3.less _ s'.loc (fun t d ht => lk_keep lv t _ d ht) (fun _ _ h => h)
theorem evC_ok (H : EvOk P E) (hc : CallOk P call) (hL : T.L = E.L) (lv : List Nat) : ∀ {c : Code} {s : DS} {y : Ex × DS}, T.ro ≤ s.sto.length → evC E call T lv c s = .ok y → Ok P T c s (fun x s2 => x = y.1 ∧ s2 = y.2) ∧ Pre T.ro s.sto y.2.sto := by
  intro c
  induction c with
  | skip => intro s y _ h; simp [evC] at h; subst h; exact ⟨Ok.skip ⟨rfl, rfl⟩, Pre.refl _ _⟩
  | label l => intro s y _ h; simp [evC] at h; subst h; exact ⟨Ok.label ⟨rfl, rfl⟩, Pre.refl _ _⟩
  | exit id => intro s y _ h; simp [evC] at h; subst h; exact ⟨Ok.exit ⟨rfl, rfl⟩, Pre.refl _ _⟩
  | ret => intro s y _ h; simp [evC] at h; subst h; exact ⟨Ok.ret ⟨rfl, rfl⟩, Pre.refl _ _⟩
  | seq c1 c2 ih1 ih2 =>
    intro s y hl h
    simp only [evC] at h
    split at h
    · rename_i s1 h1
      obtain ⟨q1, q2⟩ := ih1 hl h1
      obtain ⟨q3, q4⟩ := ih2 (Nat.le_trans hl q2.1) h
      refine ⟨Ok.seq (q1.mono fun x s2 hx => ?_), q2.trans q4⟩
      obtain ⟨rfl, rfl⟩ := hx
      exact q3
    · rename_i hne
      obtain ⟨q1, q2⟩ := ih1 hl h
      refine ⟨Ok.seq (q1.mono fun x s2 hx => ?_), q2⟩
      obtain ⟨rfl, rfl⟩ := hx
      obtain ⟨x, s2⟩ := y
      cases x with
      | nx => exact absurd h (hne s2)
      | out id => exact ⟨rfl, rfl⟩
      | ret => exact ⟨rfl, rfl⟩
  | cond co c1 c2 ih1 ih2 =>
    intro s y hl h
    simp only [evC] at h
    split at h
    · rename_i hb
      obtain ⟨q1, q2⟩ := ih1 hl h
      exact ⟨Ok.condT hb q1, q2⟩
    · rename_i hb
      obtain ⟨q1, q2⟩ := ih2 hl h
      exact ⟨Ok.condF hb q1, q2⟩
    · cases h
  | block id c ih =>
    intro s y hl h
    simp only [evC] at h
    cases hb : evC E call T lv c s with
    | no w => rw [hb] at h; cases h
    | ok z =>
      obtain ⟨x, s2⟩ := z
      rw [hb] at h
      cases h
      obtain ⟨q1, q2⟩ := ih hl hb
      refine ⟨Ok.block (q1.mono fun x' s3 hx => ?_), q2⟩
      obtain ⟨rfl, rfl⟩ := hx
      cases x' with
      | nx => exact ⟨rfl, rfl⟩
      | ret => exact ⟨rfl, rfl⟩
      | out id' =>
        simp only [Ex.blk, Ex.unblk]
        by_cases e : id' = id
        · simp [e]
        · simp [e]
  | scope c ih =>
    intro s y hl h
    simp only [evC] at h
    obtain ⟨q1, q2⟩ := ih hl h
    exact ⟨Ok.scope q1, q2⟩
  | loop c ih =>
    intro s y hl h
    simp only [evC] at h
    have hpre : ∀ (n : Nat) (s : DS), T.ro ≤ s.sto.length → evIter (evC E call T lv c) n s = .ok y → Pre T.ro s.sto y.2.sto := by
      intro n
      induction n with
      | zero => intro s _ h; cases h
      | succ n ihn =>
        intro s hl h
        simp only [evIter] at h
        split at h
        · rename_i s1 h1
          obtain ⟨q1, q2⟩ := ih hl h1
          exact q2.trans (ihn s1 (Nat.le_trans hl q2.1) h)
        · rename_i x s1 _ h1
          cases h
          exact (ih hl h1).2
        · cases h
    refine ⟨?_, hpre _ s hl h⟩
    refine Ok.loop (fun n s => T.ro ≤ s.sto.length ∧ evIter (evC E call T lv c) n s = .ok y) (n := E.F) ⟨hl, h⟩ ?_
    rintro n s ⟨hl, h⟩
    cases n with
    | zero => cases h
    | succ n =>
      simp only [evIter] at h
      split at h
      · rename_i s1 h1
        obtain ⟨q1, q2⟩ := ih hl h1
        refine q1.mono fun x s2 hx => ?_
        obtain ⟨rfl, rfl⟩ := hx
        exact ⟨n, by omega, Nat.le_trans hl q2.1, h⟩
      · rename_i x s1 hne h1
        cases h
        obtain ⟨q1, q2⟩ := ih hl h1
        refine q1.mono fun x' s2 hx => ?_
        obtain ⟨rfl, rfl⟩ := hx
        cases x' with
        | nx => exact (hne rfl).elim
        | out id => exact ⟨rfl, rfl⟩
        | ret => exact ⟨rfl, rfl⟩
      · cases h
  | region id ops dr =>
    intro s y hl h
    cases dr with
    | false =>
      simp only [evC] at h
      obtain ⟨q1, s2, q2, q5⟩ := rzPr_ok (at_ok h)
      obtain ⟨q3, q4⟩ := evOps_ok H hc hL hl q2
      refine ⟨Ok.prune lv (Q := fun x s' => x = .nx ∧ s' = s2) (Ok.region (OpsOk.mono q3 fun s3 h3 => ⟨rfl, h3⟩)) fun x s' ⟨h1, h2⟩ => ?_, by rw [q5, prune_sto]; exact q4⟩
      subst h1; subst h2
      exact ⟨q1.symm, q5.symm⟩
    | true =>
      simp only [evC] at h
      split at h
      · rename_i hwf
        obtain ⟨q1, s2, q2, q5⟩ := rzPr_ok (at_ok h)
        obtain ⟨⟨nf, q3⟩, q4⟩ := evDraw_ok H hc hL hl q2
        refine ⟨Ok.prune lv (Q := fun x s' => x = .nx ∧ s' = s2) (Ok.draw (fu := nf) (Q := fun x s' => x = .nx ∧ s' = s2) (by rw [hL]; exact H.L) H.m hwf ?_) fun x s' ⟨h1, h2⟩ => ?_, by rw [q5, prune_sto]; exact q4⟩
        · have e : (fun s3 : DS => s3 = s2) = (fun s3 : DS => Ex.nx = Ex.nx ∧ s3 = s2) := by funext s3; simp
          rw [← e]
          exact q3
        · subst h1; subst h2
          exact ⟨q1.symm, q5.symm⟩
      · cases h
  | _ => intro s y hl h; simp [evC] at h

theorem forgetD_ok {f r : Nat} {args : List D} {sto : List Ob} {d : D} {l : List Ob} {pu : Bool} (h : Tri P f r args sto (fun d' l' => d' = d ∧ l' = l)) : Tri P f r args sto (fun d' l' => d' = (forgetD pu sto.length d l).1 ∧ l' = (forgetD pu sto.length d l).2) := by
  unfold forgetD
  split
  · rename_i hg
    simp only [Bool.and_eq_true, decide_eq_true_eq] at hg
    refine Tri.forget h fun d' l' hd hl => ?_
    obtain ⟨rfl, rfl⟩ := hd
    exact ⟨sto.length, Nat.le_refl _, hl, nrB_nr hg.1.2, fun o ho => nrO_nr (List.all_eq_true.1 hg.2 o ho), rfl, rfl⟩
  · exact h

theorem evF_ok (H : EvOk P E) : ∀ n, CallOk P (evF P E n)
  | 0 => fun r f args sto d sto' h => by cases h
  | n + 1 => fun r f args sto d sto' h => by
    simp only [evF] at h
    split at h
    · rename_i g hg
      exact H.sp f g hg r args sto d sto' h
    split at h
    · cases h
    · rename_i fn hf
      split at h
      · cases h
      · rename_i code hb
        split at h
        · rename_i hg
          simp only [Bool.and_eq_true, Bool.not_eq_true', decide_eq_true_eq] at hg
          have key : ∀ (x : Ex) (s1 s2 : DS) (d1 : D), (∀ id, x ≠ .out id) → evC E (evF P E n) ⟨E.L, (E.fs f).fc fn.ntmps, r, sto.length⟩ (E.fs f).lv code (s0 r args sto) = .ok (x, s1) → resD E.L r s1 fn.results.toList = some (d1, s2) → forgetD (E.fs f).pu sto.length d1 s2.sto = (d, sto') → Tri P f r args sto (fun d' l => d' = d ∧ l = sto') ∧ Pre r sto sto' := by
            intro x s1 s2 d1 hx h1 h2 h3
            obtain ⟨q1, q2⟩ := evC_ok (T := ⟨E.L, (E.fs f).fc fn.ntmps, r, sto.length⟩) H (evF_ok H n) rfl (E.fs f).lv (s := s0 r args sto) hg.2 h1
            have q3 : Tri P f r args sto (fun d' l => d' = d1 ∧ l = s2.sto) := by
              refine Tri.of_ok (L := E.L) (c := (E.fs f).fc fn.ntmps) H.L hf hb hg.1.1 ⟨rfl, rfl⟩ hg.1.2 hg.2 (q1.mono fun x' s3 hx' => ?_)
              obtain ⟨rfl, rfl⟩ := hx'
              cases x' with
              | out id => exact (hx id rfl).elim
              | nx => exact ⟨d1, s2, h2, rfl, rfl⟩
              | ret => exact ⟨d1, s2, h2, rfl, rfl⟩
            have q4 := forgetD_ok (pu := (E.fs f).pu) q3
            rw [h3] at q4
            refine ⟨q4, ?_⟩
            have q5 : Pre r sto s2.sto := by rw [resD_sto h2]; exact q2
            unfold forgetD at h3
            split at h3
            · rename_i hg2
              cases h3
              simp only [Bool.and_eq_true, decide_eq_true_eq] at hg2
              refine ⟨by rw [List.length_take]; omega, fun k hk => ?_⟩
              rw [List.getElem?_take_of_lt (by omega)]
              exact q5.2 k hk
            · cases h3
              exact q5
          split at h
          · cases h
          · cases h
          · rename_i x s1 hne h1
            split at h
            · rename_i d1 s2 h2
              cases hq : forgetD (E.fs f).pu sto.length d1 s2.sto with
              | mk d2 l2 =>
                rw [hq] at h
                cases h
                exact key x s1 s2 d1 (fun id e => hne id e) h1 h2 hq
            · cases h
        · cases h
end

end Go.Lv

namespace Go.Lv
open Go

noncomputable def fieldsC (P : Program) (go : TypeId → List Tk → Bool) : List Field → Nat → List Tk → Bool
  | [], _, ks => isNilL ks
  | f :: fs, o, ks => f.name != "_" && f.offset == o && (match P.info? f.type with
    | some i => decide (i.size ≤ ks.length) && go f.type (ks.take i.size) && fieldsC P go fs (o + i.size) (ks.drop i.size)
    | none => false)
noncomputable def eqC (P : Program) : Nat → TypeId → List Tk → Bool
  | 0, _, _ => false
  | d + 1, t, ks => match P.underlying t with
    | some (.int k) => (match ks with | [.int k'] => decide (k = k') | _ => false)
    | some .bool => (match ks with | [.bool] => true | _ => false)
    | some .string => (match ks with | [.str] => true | _ => false)
    | some (.struct fs) => !P.stoodInHeld t && fieldsC P (eqC P d) fs.toList 0 ks
    | _ => false
noncomputable def frm (P : Program) (t : TypeId) (vs : List Value) : Value := match P.underlying t with
  | some (.struct _) => .agg vs.toArray
  | _ => vs.headD undef

section
variable {P : Program} {w : World}

theorem okKs_take : ∀ {ks : List Tk} {xs : List D} (n : Nat), okKs ks xs = true → okKs (ks.take n) (xs.take n) = true ∧ okKs (ks.drop n) (xs.drop n) = true
  | ks, xs, 0, h => ⟨by simp [okKs], by simpa using h⟩
  | [], [], n + 1, h => by simp [okKs]
  | [], _ :: _, n + 1, h => by simp [okKs] at h
  | _ :: _, [], n + 1, h => by simp [okKs] at h
  | k :: ks, x :: xs, n + 1, h => by
    simp only [okKs, Bool.and_eq_true] at h
    obtain ⟨h1, h2⟩ := okKs_take n h.2
    simp only [List.take_succ_cons, List.drop_succ_cons, okKs, Bool.and_eq_true]
    exact ⟨⟨h.1, h1⟩, h2⟩
theorem okKs_len : ∀ {ks : List Tk} {xs : List D}, okKs ks xs = true → ks.length = xs.length
  | [], [], _ => rfl
  | [], _ :: _, h => by simp [okKs] at h
  | _ :: _, [], h => by simp [okKs] at h
  | k :: ks, x :: xs, h => by
    simp only [okKs, Bool.and_eq_true] at h
    simp [okKs_len h.2]
theorem eqL_split : ∀ {xs ys : List D} {r : Bool} (n : Nat), eqL xs ys = some r → ∃ p q, eqL (xs.take n) (ys.take n) = some p ∧ eqL (xs.drop n) (ys.drop n) = some q ∧ r = (p && q)
  | xs, ys, r, 0, h => ⟨true, r, by simp [eqL], by simpa using h, by simp⟩
  | [], [], r, n + 1, h => by
    simp [eqL] at h
    exact ⟨true, true, by simp [eqL], by simp [eqL], by simp [h]⟩
  | [], _ :: _, _, _, h => by simp [eqL] at h
  | _ :: _, [], _, _, h => by simp [eqL] at h
  | a :: x, b :: y, r, n + 1, h => by
    simp only [eqL] at h
    split at h
    · rename_i p q h1 h2
      cases h
      obtain ⟨p', q', h3, h4, h5⟩ := eqL_split n h2
      refine ⟨p && p', q', ?_, by simpa using h4, by rw [h5, Bool.and_assoc]⟩
      simp [eqL, h1, h3]
    · cases h
theorem toVL_take : ∀ {xs : List D} {vs : List Value} (n : Nat), toVL xs = some vs → toVL (xs.take n) = some (vs.take n) ∧ toVL (xs.drop n) = some (vs.drop n)
  | xs, vs, 0, h => ⟨by simp [toVL], by simpa using h⟩
  | [], vs, n + 1, h => by
    simp [toVL] at h
    subst h
    simp [toVL]
  | x :: xs, vs, n + 1, h => by
    simp only [toVL] at h
    split at h
    · rename_i v vs' h1 h2
      cases h
      obtain ⟨h3, h4⟩ := toVL_take n h2
      simp [toVL, h1, h3, h4]
    · cases h
theorem run_isAgg_of {t : TypeId} {u : TypeDesc} (h : P.underlying t = some u) : (isAgg t).run P w = .ok (aggU u) w := by
  unfold isAgg
  rw [Sem.run_bind, run_underlying h]
  cases u <;> rfl

theorem run_partC {t : TypeId} {d off : Nat} {ks : List Tk} {i : TypeInfo} {vs : List Value} (hc : eqC P d t ks = true) (hi : P.info? t = some i) (hk : ks.length = i.size) (ho : off + i.size ≤ vs.length) :
    (part t vs.toArray off).run P w = .ok (frm P t ((vs.drop off).take i.size)) w := by
  cases d with
  | zero => cases hc
  | succ d =>
    unfold eqC at hc
    unfold part frm
    rw [Sem.run_bind]
    have one : ∀ u : TypeDesc, P.underlying t = some u → aggU u = false → i.size = 1 → (∀ fs, u ≠ .struct fs) →
      ((isAgg t).run P w).andThen (fun b => (if b then do return (Value.agg (vs.toArray.extract off (off + (← sizeOf t)))) else match vs.toArray[off]? with | some v => pure v | none => stuck "part: no such cell" : Sem Value).run P) = .ok (((vs.drop off).take i.size).headD undef) w := by
      intro u hu ha h1 _
      rw [run_isAgg_of hu, ha]
      have hlt : off < vs.length := by omega
      simp only [Result.andThen_ok, Bool.false_eq_true, if_false]
      have e1 : vs.toArray[off]? = some vs[off] := by simp [hlt]
      have e2 : ((vs.drop off).take i.size).headD undef = vs[off] := by
        rw [h1, List.drop_eq_getElem_cons hlt]
        rfl
      rw [e1, e2]
      rfl
    split at hc
    · rename_i k hu
      split at hc
      · rw [hu]
        exact one _ hu rfl (by rw [← hk]; rfl) (fun fs e => by cases e)
      · cases hc
    · rename_i hu
      split at hc
      · rw [hu]
        exact one _ hu rfl (by rw [← hk]; rfl) (fun fs e => by cases e)
      · cases hc
    · rename_i hu
      split at hc
      · rw [hu]
        exact one _ hu rfl (by rw [← hk]; rfl) (fun fs e => by cases e)
      · cases hc
    · rename_i fs hu
      rw [hu, run_isAgg_of hu]
      have hsz : (sizeOf t).run P w = .ok i.size w := by
        simp [Go.sizeOf, typeInfo, hi]
      simp only [aggU, Result.andThen_ok, if_true, Sem.run_bind, hsz, Sem.run_pure]
      congr 2
      simp [List.extract_eq_take_drop]
    · cases hc

theorem run_equalC : ∀ (d : Nat) (t : TypeId) (ks : List Tk), eqC P d t ks = true → ∀ (n : Nat), d ≤ n → ∀ (w : World) (xs ys : List D) (vs us : List Value) (r : Bool), okKs ks xs = true → okKs ks ys = true → toVL xs = some vs → toVL ys = some us → eqL xs ys = some r →
    (Op.equalIn n t (frm P t vs) (frm P t us)).run P w = .ok r w := by
  intro d
  induction d with
  | zero => intro t ks h; cases h
  | succ d ih =>
    intro t ks hc n hn w xs ys vs us r hx hy hvx hvy hr
    obtain ⟨n, rfl⟩ : ∃ m, n = m + 1 := ⟨n - 1, by omega⟩
    have hc0 := hc
    unfold eqC at hc
    split at hc
    · rename_i k hu
      split at hc
      · rename_i k'
        obtain rfl : k = k' := by simpa using hc
        have ex : ∀ {zs : List D}, okKs [.int k] zs = true → ∃ a, zs = [.int k a] := fun {zs} h => by
          have hl := okKs_len h
          match zs, h, hl with
          | [z], h, _ => cases z <;> simp [okKs, okK] at h; exact ⟨_, by rw [h]⟩
        obtain ⟨a, rfl⟩ := ex hx
        obtain ⟨b, rfl⟩ := ex hy
        simp [toVL, toV1] at hvx hvy
        subst hvx; subst hvy
        simp [eqL, eqS] at hr
        simp only [frm, hu, List.headD_cons]
        rw [run_equalIn_int w n t k k a b hu, ← hr]
        by_cases e : a = b
        · simp [e]
        · simp [e]
      · cases hc
    · rename_i hu
      split at hc
      · have ex : ∀ {zs : List D}, okKs [.bool] zs = true → ∃ a, zs = [.bool a] := fun {zs} h => by
          have hl := okKs_len h
          match zs, h, hl with
          | [z], h, _ => cases z <;> simp [okKs, okK] at h; exact ⟨_, rfl⟩
        obtain ⟨a, rfl⟩ := ex hx
        obtain ⟨b, rfl⟩ := ex hy
        simp [toVL, toV1] at hvx hvy
        subst hvx; subst hvy
        simp [eqL, eqS] at hr
        simp only [frm, hu, List.headD_cons]
        rw [run_equalIn_bool' w n t a b hu, ← hr]
      · cases hc
    · rename_i hu
      split at hc
      · have ex : ∀ {zs : List D}, okKs [.str] zs = true → ∃ a, zs = [.str a] := fun {zs} h => by
          have hl := okKs_len h
          match zs, h, hl with
          | [z], h, _ => cases z <;> simp [okKs, okK] at h; exact ⟨_, rfl⟩
        obtain ⟨a, rfl⟩ := ex hx
        obtain ⟨b, rfl⟩ := ex hy
        simp [toVL, toV1] at hvx hvy
        subst hvx; subst hvy
        simp [eqL, eqS] at hr
        simp only [frm, hu, List.headD_cons]
        rw [run_equalIn_string w n t a b hu, ← hr, ba_beq]
      · cases hc
    · rename_i fs hu
      simp only [Bool.and_eq_true, Bool.not_eq_true'] at hc
      obtain ⟨hst, hfs⟩ := hc
      have hfo : P.fieldsOf t = fs := by simp [Program.fieldsOf, hu]
      simp only [frm, hu]
      rw [run_equalIn_struct w n t vs.toArray us.toArray (by rw [hfo]; exact hu) hst, hfo]
      have key : ∀ (fl : List Field) (o : Nat) (ks : List Tk), fieldsC P (eqC P d) fl o ks = true → ∀ (xs ys : List D) (r : Bool), okKs ks xs = true → okKs ks ys = true → toVL xs = some (vs.drop o) → toVL ys = some (us.drop o) → eqL xs ys = some r → o + xs.length = vs.length → o + ys.length = us.length →
          (Op.eqFields n vs.toArray us.toArray fl).run P w = .ok r w := by
        intro fl
        induction fl with
        | nil =>
          intro o ks hk xs ys r hx hy _ _ hr _ _
          cases ks with
          | cons a b => cases hk
          | nil =>
            cases xs with
            | cons a b => simp [okKs] at hx
            | nil =>
              cases ys with
              | cons a b => simp [okKs] at hy
              | nil =>
                simp [eqL] at hr
                subst hr
                rfl
        | cons f fl ihf =>
          intro o ks hk xs ys r hx hy hvx hvy hr hlx hly
          simp only [fieldsC, Bool.and_eq_true, bne_iff_ne, ne_eq, beq_iff_eq] at hk
          obtain ⟨⟨hnm, hof⟩, hk⟩ := hk
          split at hk
          · rename_i i hi
            simp only [Bool.and_eq_true, decide_eq_true_eq] at hk
            obtain ⟨⟨hsz, hgo⟩, hrest⟩ := hk
            have lx := okKs_len hx
            have ly := okKs_len hy
            obtain ⟨x1, x2⟩ := okKs_take i.size hx
            obtain ⟨y1, y2⟩ := okKs_take i.size hy
            obtain ⟨vx1, vx2⟩ := toVL_take i.size hvx
            obtain ⟨vy1, vy2⟩ := toVL_take i.size hvy
            obtain ⟨p, q, e1, e2, rfl⟩ := eqL_split i.size hr
            simp only [Op.eqFields, if_pos hnm, Sem.run_bind, hof]
            rw [run_partC (w := w) (vs := vs) (off := o) hgo hi (by rw [List.length_take]; omega) (by omega)]
            simp only [Result.andThen_ok]
            rw [run_partC (w := w) (vs := us) (off := o) hgo hi (by rw [List.length_take]; omega) (by omega)]
            simp only [Result.andThen_ok]
            rw [ih f.type _ hgo n (by omega) w _ _ _ _ p x1 y1 vx1 vy1 e1]
            simp only [Result.andThen_ok]
            cases p with
            | false => rfl
            | true =>
              simp only [Bool.not_true, Bool.false_eq_true, if_false, Bool.true_and]
              refine ihf (o + i.size) _ hrest _ _ q x2 y2 (by rw [vx2, List.drop_drop]) (by rw [vy2, List.drop_drop]) e2 (by rw [List.length_drop]; omega) (by rw [List.length_drop]; omega)
          · cases hk
      have l1 := (toVL_get hvx).1
      have l2 := (toVL_get hvy).1
      exact key fs.toList 0 ks hfs xs ys r hx hy (by simpa using hvx) (by simpa using hvy) hr (by omega) (by omega)
    · cases hc

theorem run_checkC (e : Bool) : ∀ (d : Nat) (t : TypeId) (ks : List Tk), eqC P d t ks = true → ∀ (n : Nat), d ≤ n → ∀ (w : World) (vs : List Value), vs.length = ks.length →
    (Instr.checkKey e n t (frm P t vs)).run P w = .ok () w := by
  intro d
  induction d with
  | zero => intro t ks h; cases h
  | succ d ih =>
    intro t ks hc n hn w vs hl
    obtain ⟨n, rfl⟩ : ∃ m, n = m + 1 := ⟨n - 1, by omega⟩
    unfold eqC at hc
    unfold Instr.checkKey
    rw [Sem.run_bind]
    split at hc
    · rename_i k hu
      rw [run_underlying hu]
      rfl
    · rename_i hu
      rw [run_underlying hu]
      rfl
    · rename_i hu
      rw [run_underlying hu]
      rfl
    · rename_i fs hu
      simp only [Bool.and_eq_true, Bool.not_eq_true'] at hc
      obtain ⟨hst, hfs⟩ := hc
      rw [run_underlying hu]
      simp only [frm, hu, Result.andThen_ok]
      rw [← Array.forIn_toList]
      have key : ∀ (fl : List Field) (o : Nat) (ks : List Tk), fieldsC P (eqC P d) fl o ks = true → o + ks.length = vs.length →
          (forIn fl PUnit.unit (fun (f : Field) (_ : PUnit) => (do
            if f.name ≠ "_" then do
              let v ← part f.type vs.toArray f.offset
              Instr.checkKey e n f.type v
              pure (ForInStep.yield PUnit.unit)
            else pure (ForInStep.yield PUnit.unit) : Sem (ForInStep PUnit)))).run P w = .ok PUnit.unit w := by
        intro fl
        induction fl with
        | nil => intro o ks _ _; rfl
        | cons f fl ihf =>
          intro o ks hk hlx
          simp only [fieldsC, Bool.and_eq_true, bne_iff_ne, ne_eq, beq_iff_eq] at hk
          obtain ⟨⟨hnm, hof⟩, hk⟩ := hk
          split at hk
          · rename_i i hi
            simp only [Bool.and_eq_true, decide_eq_true_eq] at hk
            obtain ⟨⟨hsz, hgo⟩, hrest⟩ := hk
            simp only [List.forIn_cons, if_pos hnm, Sem.run_bind, hof]
            rw [run_partC (w := w) (vs := vs) (off := o) hgo hi (by rw [List.length_take]; omega) (by omega)]
            simp only [Result.andThen_ok]
            rw [ih f.type _ hgo n (by omega) w _ (by rw [List.length_take, List.length_take, List.length_drop]; omega)]
            simp only [Result.andThen_ok, Sem.run_pure]
            exact ihf (o + i.size) _ hrest (by rw [List.length_drop]; omega)
          · cases hk
      rw [Sem.run_bind, key fs.toList 0 ks hfs (by omega)]
      rfl
    · cases hc

noncomputable def isStructB (P : Program) (t : TypeId) : Bool := match P.underlying t with
  | some (.struct _) => true
  | _ => false
noncomputable def eqTChk (P : Program) (t : Nat) (ks : List Tk) : Bool := eqC P 50 t ks && isStructB P t && !P.eqGuardType P.depth t
theorem EqT.of_chk {t : Nat} {ks : List Tk} (h : eqTChk P t ks = true) : EqT P t ks := by
  simp only [eqTChk, Bool.and_eq_true, Bool.not_eq_true'] at h
  obtain ⟨⟨h1, h2⟩, h3⟩ := h
  have hf : ∀ vs : List Value, frm P t vs = .agg vs.toArray := fun vs => by
    unfold isStructB at h2
    unfold frm
    cases hu : P.underlying t with
    | none => rw [hu] at h2; cases h2
    | some u =>
      rw [hu] at h2
      cases u <;> first | rfl | cases h2
  intro w xs ys vs us r hx hy hvx hvy hr
  refine ⟨?_, fun op x y => run_eqGuard_agg w op t x y _ _ h3, fun e => ?_⟩
  · have := run_equalC 50 t ks h1 10000 (by omega) w xs ys vs us r hx hy hvx hvy hr
    rwa [hf, hf] at this
  · have := run_checkC e 50 t ks h1 10000 (by omega) w vs (by rw [(toVL_get hvx).1, okKs_len hx])
    rwa [hf] at this

noncomputable def eqsChk (P : Program) : Nat → Ly → Bool
  | _, [] => true
  | t, d :: r => (!d.eq || eqTChk P t d.ks) && eqsChk P (t + 1) r
theorem eqsChk_get : ∀ {L : Ly} {k : Nat}, eqsChk P k L = true → ∀ (t : Nat) (d : Td), L[t]? = some d → d.eq = true → eqTChk P (k + t) d.ks = true
  | [], k, _, t, d, h, _ => by simp at h
  | x :: r, k, hc, 0, d, h, he => by
    simp only [eqsChk, Bool.and_eq_true, Bool.or_eq_true, Bool.not_eq_true'] at hc
    simp at h
    subst h
    rcases hc.1 with h1 | h1
    · rw [he] at h1; cases h1
    · exact h1
  | x :: r, k, hc, t + 1, d, h, he => by
    simp only [eqsChk, Bool.and_eq_true] at hc
    have := eqsChk_get hc.2 t d (by simpa using h) he
    rwa [show k + 1 + t = k + (t + 1) by omega] at this
theorem LyOK.of_chks {L : Ly} (hc : lyChk P 0 L = true) (he : eqsChk P 0 L = true) : LyOK P L :=
  LyOK.of_chk hc fun t d h h1 => EqT.of_chk (by have := eqsChk_get he t d h h1; rwa [Nat.zero_add] at this)
end

end Go.Lv
