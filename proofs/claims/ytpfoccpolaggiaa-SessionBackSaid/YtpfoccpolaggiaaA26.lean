/-
  A26: regions whose order is drawn.
-/
import Derived.Test.YtpfoccpolaggiaaA25
set_option linter.all false
namespace Go.Lv

/-- Operations that read alone. -/
noncomputable def roK (L : Ly) : Op → Bool
  | .move _ | .pick _ _ _ | .load _ _ | .nilCheck _ | .binOp _ _ _ _ _ | .unOp _ _ _ | .makeFunc _ _ _ | .slice _ _ _ _ _ | .fieldAddr _ _ _ | .field _ _ _ | .indexAddr _ _ _ | .index _ _ _ | .lookup _ _ _ _ | .extract _ _ | .build _ _ => true
  | .convert t u _ => match L.tk t, L.tk u with
    | .str, .str => true
    | .str, _ => false
    | _, _ => true
  | .call { callee := .builtin .len, .. } | .call { callee := .builtin .min, .. } | .call { callee := .builtin .max, .. } => true
  | _ => false

section
variable {P : Program} {L : Ly} {X : Ctx} {G : Gh} {s s' : DS} {a : Act} {w : World} {c : FC}
theorem op_ro (H : LyOK P L) (h : Rel X G s a w) (hn : c.n = X.n) {o : Oper} (hk : roK L o.op = true) (hs : opD L c X.ro s o = some s') : Yd2 P c X G o s a w s' := by
  cases ho : o.op with
  | move x => exact op_move h hn ho hs
  | pick x y z => exact op_pick h hn ho hs
  | load t x => exact op_loadAll H h hn ho hs
  | nilCheck x => exact op_nilCheck h hn ho hs
  | binOp op t x y t' => exact op_bin H h hn ho hs
  | unOp op t x => exact op_un h hn ho hs
  | convert t u x =>
    refine op_convert_num H h hn ho hs fun b h1 h2 => ?_
    rw [ho] at hk
    simp only [roK, h1] at hk
    cases h3 : L.tk u <;> simp [h3] at hk
    rfl
  | makeFunc f first caps => exact op_makeFunc h hn ho hs
  | slice t x lo hi mx => exact op_slice H h hn ho hs
  | fieldAddr t x f => exact op_fieldAddr H h hn ho hs
  | field t x f => exact op_field H h hn ho hs
  | indexAddr t x y => exact op_indexAddr H h hn ho hs
  | index t x y => exact op_index H h hn ho hs
  | lookup t x y ok => exact op_lookup H h hn ho hs
  | extract x i => exact op_extract h hn ho hs
  | build t ps => exact op_build H h hn ho hs
  | call c' =>
    obtain ⟨callee, args, argTypes⟩ := c'
    rw [ho] at hk
    cases callee with
    | builtin bi =>
      have hs' := hs
      simp only [opD, ho] at hs
      cases bi with
      | len => exact op_len H h hn ho hs'
      | min => exact op_minmax h hn (.inl ⟨rfl, rfl⟩) ho hs
      | max => exact op_minmax h hn (.inr ⟨rfl, rfl⟩) ho hs
      | _ => simp [roK] at hk
    | _ => simp [roK] at hk
  | _ => rw [ho] at hk; simp [roK] at hk
end

noncomputable def delAll (ts : List Nat) (l : List (Nat × D)) : List (Nat × D) := ts.foldr (fun t l => del t l) l
theorem lk_delAll (ts : List Nat) (u : Nat) (l : List (Nat × D)) : lk u (delAll ts l) = if u ∈ ts then none else lk u l := by
  induction ts with
  | nil => simp [delAll]
  | cons t r ih =>
    have : delAll (t :: r) l = del t (delAll r l) := rfl
    rw [this, lk_del, ih]
    by_cases h : u = t
    · simp [h]
    · simp [h]

noncomputable def dstOf (ops : Array Oper) (i : Nat) : Option Nat := (ops[i]?).bind (·.dst)
noncomputable def looks (ops : Array Oper) (i : Nat) : List Nat := match ops[i]? with
  | some o => o.looksAt ops
  | none => []
/-- Does k wait for i? -/
noncomputable def waits (ops : Array Oper) (k i : Nat) : Bool := match ops[k]? with
  | some o => o.after.any fun e => Region.binds .any e && e.on == i
  | none => false
/-- All that k waits for is in L. -/
noncomputable def rdy (ops : Array Oper) (L : List Nat) (k : Nat) : Bool := match ops[k]? with
  | some o => o.after.all fun e => !Region.binds .any e || L.contains e.on
  | none => false

noncomputable def isOwnO (s : DS) (x : Operand) : Bool := match lookO s x with
  | some d => hasOwn d
  | none => false
/-- What a reading operation yields, by what it looks at alone. -/
noncomputable def roV (T : St) (ops : Array Oper) (s : DS) (i : Nat) : Option D :=
  match ops[i]? with
  | none => none
  | some o => match o.dst with
    | none => none
    | some t =>
      let e : DS := { s with env := keep (o.looksAt ops) s.env }
      if decide (t < T.c.n) && !(o.looksAt ops).contains t then
        match wantD ops e o with
        | some true => if roK T.L o.op && !T.c.xf.contains t && !(o.op.operands.toList.any fun x => isOwnO e x) then match opD T.L T.c T.ro e o with
            | some s1 => match lk t s1.env with
              | some d => if hasOwn d then none else some d
              | none => none
            | none => none
          else none
        | some false => some (.tup [])
        | none => none
      else none

/-- Nothing else writes what a reading operation yields, and who looks at it waits for it. -/
noncomputable def aloneK (ops : Array Oper) (i : Nat) : Bool := match dstOf ops i with
  | none => false
  | some t => (List.range ops.size).all fun k => k == i || (dstOf ops k != some t && (!(looks ops k).contains t || waits ops k i))

/-- A step of a region's that is no reading one. -/
noncomputable def stepOk (P : Program) (T : St) (ops : Array Oper) (j : Nat) (s : DS) (K : DS → Prop) : Prop :=
  match ops[j]? with
  | none => False
  | some o => match wantD ops s o with
    | some true => OpOk P T o s K
    | some false => match put T.c o.dst (.tup []) s with
      | some s1 => K s1
      | none => False
    | none => False

/-- What was read still reads so. -/
noncomputable def stillV (T : St) (ops : Array Oper) (V : List Nat) (s s1 : DS) : Prop :=
  ∀ i, i ∈ V → ∀ t d, dstOf ops i = some t → roV T ops s i = some d → lk t s.env = some d → roV T ops s1 i = some d ∧ lk t s1.env = some d

/-- A state that says no more than another. -/
structure LeS (s s1 : DS) : Prop where
  env : ∀ t d, lk t s1.env = some d → lk t s.env = some d
  loc : ∀ t cs, lk t s1.loc = some cs → ∃ cs0, lk t s.loc = some cs0 ∧ ∀ (j : Nat) (c : D), cs[j]? = some c → ∃ c0, cs0[j]? = some c0 ∧ ∀ w G m p v, VC w G m p c0 v → VC w G m p c v
  sto : s1.sto = s.sto
  vr : ∀ t, s.m.vr t ≤ s1.m.vr t
  lv : ∀ t, s.m.lv t ≤ s1.m.lv t
  al : ∀ t, s.m.al t ≤ s1.m.al t
  era : s.m.era ≤ s1.m.era
  ep : s.m.ep ≤ s1.m.ep
  ro : s1.m.ro = s.m.ro
theorem more_keeps {w : World} {G : Gh} {s s1 : DS} (h : LeS s s1) : Keeps w G s.m w G s1.m (fun _ => True) where
  be := fun _ _ h => h
  st := fun _ _ h => h
  cell := fun _ _ _ _ _ => rfl
  ep := h.ep
  rv := fun r => by
    cases r with
    | slot t => exact h.vr t
    | lbox t => exact h.lv t
    | gbox k => exact h.era
    | air n => exact Nat.le_refl _
  al := h.al
  era := h.era
  rd := fun _ _ _ h => ⟨h, fun _ _ => rfl⟩
  pl := fun _ _ _ => rfl
  la := fun _ _ => rfl
  own := fun _ _ _ h => ⟨h, rfl, fun _ => ⟨rfl, rfl⟩⟩
  opl := fun _ _ => rfl
  mp := fun _ k b es clock _ hh => ⟨es, clock, hh, fun i x hx => ⟨x, hx, rfl⟩⟩
theorem Rel.le {X : Ctx} {G : Gh} {s s1 : DS} {a : Act} {w : World} (h : Rel X G s a w) (hl : LeS s s1) : Rel X G s1 a w :=
  have K := more_keeps (w := w) (G := G) hl
  { size := h.size
    defers := h.defers
    env := fun t d ht => K.vt (fun _ _ _ _ _ _ _ => trivial) (h.env t d (hl.env t d ht))
    loc := fun t cs ht => by
      obtain ⟨cs0, h0, hw⟩ := hl.loc t cs ht
      obtain ⟨h1, h2⟩ := h.loc t cs0 h0
      have h3 := K.box (fun _ _ _ _ => trivial) (fun _ => ⟨rfl, rfl⟩) h2
      refine ⟨h1, fun j c hc => ?_⟩
      obtain ⟨c0, hc0, hvc⟩ := hw j c hc
      obtain ⟨u, u1, u2, u3⟩ := h3 j c0 hc0
      exact ⟨u, u1, u2, hvc _ _ _ _ _ u3⟩
    sto := fun k o hk => by
      rw [hl.sto] at hk
      obtain ⟨b, h1, h2, h3, h4⟩ := h.sto k o hk
      refine ⟨b, h1, h2, h3, ?_⟩
      cases o with
      | map es => exact h4
      | box cs =>
        simp only [ObV] at h4 ⊢
        split <;> rename_i hk0
        · rw [if_pos hk0] at h4
          exact h4
        · rw [if_neg hk0] at h4
          exact K.box (fun _ _ _ _ => trivial) (fun _ => ⟨rfl, rfl⟩) h4
    be := fun k hk => h.be k (by rw [hl.sto] at hk; exact hk)
    new := h.new
    stow := h.stow
    std := h.std
    old := h.old
    os := h.os
    tape := h.tape
    output := h.output
    grow := h.grow
    ro := by rw [hl.sto]; exact h.ro
    rom := by rw [hl.ro]; exact h.rom
    be0 := h.be0
    n0 := by rw [hl.sto]; exact h.n0
    la0 := h.la0 }

/-- What an operation waits for, directly or through others. -/
noncomputable def befF (ops : Array Oper) : List Nat → List Nat → List Nat
  | [], S => S
  | k :: r, S => befF ops r (if S.any (fun m => waits ops m k) then k :: S else S)
noncomputable def dropB (ops : Array Oper) (j : Nat) (V : List Nat) : List Nat := V.filter fun i => !(befF ops (List.range j).reverse [j]).contains i

/-- All orders of a region: L: what is done, or read ahead; V: what of it is only read ahead, it may be. -/
noncomputable def Sch (P : Program) (T : St) (ops : Array Oper) : Nat → List Nat → List Nat → DS → (DS → Prop) → Prop
  | 0, L, V, s, K => (∀ k, k < ops.size → k ∈ L) ∧ K s
  | f + 1, L, V, s, K => ((∀ k, k < ops.size → k ∈ L) ∧ K s) ∨
    (∃ i t d, i ∉ L ∧ dstOf ops i = some t ∧ rdy ops L i = true ∧ aloneK ops i = true ∧ ownAt t s.env = false ∧ roV T ops s i = some d ∧ Sch P T ops f (i :: L) (i :: V) (putS t d s) K) ∨
    ((∃ j, j < ops.size ∧ j ∉ L) ∧ ∀ j, j < ops.size → j ∉ L → rdy ops L j = true → stepOk P T ops j s fun s1 => stillV T ops (dropB ops j V) s s1 ∧ Sch P T ops f (j :: L) (dropB ops j V) s1 K) ∨
    (∃ L' V' s1, (∀ k, k ∈ L' ↔ k ∈ L) ∧ (∀ k, k ∈ V → k ∈ V') ∧ LeS s s1 ∧ stillV T ops V s s1 ∧ Sch P T ops f L' V' s1 K)

section
variable {P : Program} {T : St} {X : Ctx} {G G' : Gh} {s s' s1 : DS} {a a' : Act} {w w' : World} {K K' : DS → Prop} {o : Oper} {ops : Array Oper} {Qc : Exit → Act → World → Prop}

/-- A reading operation, run where what it looks at is known. -/
theorem roV_run (H : LyOK P T.L) (hX : Fits T X) {i t : Nat} {d : D} (hs : dstOf ops i = some t) (hv : roV T ops s i = some d) (hd : ∃ o, ops[i]? = some o ∧ ∀ u, u ∈ o.looksAt ops → ∀ e, lk u s.env = some e → lk u s1.env = some e)
    (he : s1.loc = s.loc ∧ s1.sto = s.sto ∧ s1.m = s.m) (hR : Rel X G s1 a w) : hasOwn d = false ∧ t < T.c.n ∧ ∃ v, (∀ m', m'.ep = s.m.ep → (∀ r, s.m.rv r ≤ m'.rv r) → (∀ t, s.m.al t ≤ m'.al t) → s.m.era ≤ m'.era → VT w G m' (.slot t) d v) ∧
      ∀ K', K' (a.put (some t) v) w → wpOp P ops Qc i K' a w := by
  obtain ⟨o, ho, hlk⟩ := hd
  simp only [dstOf, ho, Option.bind_some] at hs
  unfold roV at hv
  rw [ho] at hv
  simp only [hs] at hv
  rw [Option.ite_none_right_eq_some] at hv
  obtain ⟨hc, hv⟩ := hv
  simp only [Bool.and_eq_true, decide_eq_true_eq] at hc
  have hRe : Rel X G { s with env := keep (o.looksAt ops) s.env } a w := by
    have hkeep : ∀ (ts : List Nat), (∀ u, u ∈ ts → ∀ e, lk u s.env = some e → lk u s1.env = some e) → ∀ u d, lk u (keep ts s.env) = some d → lk u s1.env = some d := by
      intro ts
      induction ts with
      | nil => intro _ u d h; simp [keep, lk_nil] at h
      | cons t r ih =>
        intro hts u d h
        simp only [keep] at h
        cases hl : lk t s.env with
        | none => rw [hl] at h; exact ih (fun u hu => hts u (by simp [hu])) u d h
        | some b =>
          rw [hl] at h
          simp only [lk_cons] at h
          by_cases e : t = u
          · subst e
            simp at h
            subst h
            exact hts t (by simp) _ hl
          · simp [e] at h
            exact ih (fun u hu => hts u (by simp [hu])) u d h
    have := hR.less (keep (o.looksAt ops) s.env) s.loc (hkeep _ hlk) (fun u d h => by rw [he.1]; exact h)
    have e2 : ({ s1 with env := keep (o.looksAt ops) s.env, loc := s.loc } : DS) = { s with env := keep (o.looksAt ops) s.env } := by
      cases s1
      simp only at he
      obtain ⟨_, e2, e3⟩ := he
      subst e2 e3
      rfl
    rw [e2] at this
    exact this
  split at hv
  · rename_i hw
    rw [Option.ite_none_right_eq_some] at hv
    obtain ⟨hq, hv⟩ := hv
    simp only [Bool.and_eq_true, Bool.not_eq_true'] at hq
    obtain ⟨⟨hro, hxf⟩, hno⟩ := hq
    split at hv
    · rename_i s2 hs2
      split at hv
      · rename_i d' hd'
        rw [Option.ite_none_left_eq_some] at hv
        obtain ⟨hown, hv⟩ := hv
        cases hv
        obtain ⟨v, d2, n, hr, hor⟩ := op_ro H hRe hX.n hro (by rw [hX.ro]; exact hs2)
        have hor' : Lv.put T.c o.dst d2 { s with env := keep (o.looksAt ops) s.env } = some s2 ∧ VT w G s.m (.air n) d2 v := by
          rcases hor with hor | ⟨htk, _⟩
          · exact hor
          · exfalso
            rcases htk with ⟨x, d0, hx, hl, hh⟩ | ⟨t', ht', hx⟩
            · have := List.any_eq_false.1 hno x (Array.mem_toList_iff.2 hx)
              simp [isOwnO, hl, hh] at this
            · rw [hs] at ht'
              cases ht'
              rw [hxf] at hx
              cases hx
        obtain ⟨hp, hvt⟩ := hor'
        rw [hs] at hp
        simp only [Lv.put, Option.ite_none_right_eq_some] at hp
        obtain ⟨htn, hp⟩ := hp
        cases hp
        have hd2 : d2 = d := by
          simp only [putS, lk_ins, if_true] at hd'
          exact Option.some.inj hd'
        subst hd2
        refine ⟨by simpa using hown, htn, v, fun m' h1 h2 h3 h4 => ?_, fun K' hK => ?_⟩
        · exact VT.any ((Keeps.of_counts (w := w) (G := G) (kp := fun _ => True) h1 h2 h3 h4).vt (fun _ _ _ _ _ _ _ => trivial) hvt) (by simpa using hown)
        · unfold wpOp
          simp only [ho]
          rw [wantD_sound hRe hw, if_pos rfl]
          left
          unfold Oper.wp
          rw [hr, Oper.upon_value, hs]
          exact hK
      · cases hv
    · cases hv
  · rename_i hw
    cases hv
    refine ⟨rfl, hc.1, undef, fun m' _ _ _ _ => ⟨[], rfl, rfl, fun i d u hd => by simp at hd⟩, fun K' hK => ?_⟩
    unfold wpOp
    simp only [ho]
    rw [wantD_sound hRe hw, if_neg (by simp), hs]
    exact hK
  · cases hv

theorem stepOk.run {j : Nat} (h : stepOk P T ops j s K) (hX : Fits T X) (hR : Rel X G s a w) {Kc : Act → World → Prop} (hk : ∀ s' G' a' w', K s' → Rel X G' s' a' w' → Kc a' w') : wpOp P ops Qc j Kc a w := by
  unfold stepOk at h
  unfold wpOp
  cases ho : ops[j]? with
  | none => rw [ho] at h; exact h.elim
  | some o =>
    rw [ho] at h
    simp only at h ⊢
    cases hw : wantD ops s o with
    | none => rw [hw] at h; exact h.elim
    | some b =>
      rw [hw] at h
      rw [wantD_sound hR hw]
      cases b with
      | true => exact .inl (h X G a w hX hR _ _ hk)
      | false =>
        simp only at h
        rw [if_neg (by simp)]
        cases hp : put T.c o.dst (.tup []) s with
        | none => rw [hp] at h; exact h.elim
        | some s1 =>
          rw [hp] at h
          obtain ⟨G', hR'⟩ := hR.putUndef hX.n hp
          exact hk _ _ _ _ h hR'

/-- A value put ahead of an operation that has nothing to do with its slot. -/
theorem wpOp_put1 {j t : Nat} {oj : Oper} {v : Value} (hj : ops[j]? = some oj) (h1 : t ∉ oj.looksAt ops) (h2 : oj.dst ≠ some t) (hsj : ∀ cs b, oj.op ≠ .select cs b)
    (hQ : ∀ c a w, Qc (.panic c) (a.put (some t) v) w → Qc (.panic c) a w) {Kc : Act → World → Prop} (h : wpOp P ops Qc j Kc (a.put (some t) v) w) : wpOp P ops Qc j (fun a' w' => Kc (a'.put (some t) v) w') a w := by
  have h1' : ∀ d, (some t : Option Nat) = some d → d ∉ oj.looksAt ops := fun d hd => by cases hd; exact h1
  have h2' : ∀ d, (some t : Option Nat) = some d → oj.dst ≠ some d := fun d hd => by cases hd; exact h2
  unfold wpOp at *
  simp only [hj] at *
  rw [wanted_put oj a (some t) v h1'] at h
  split
  · rename_i hw
    simp only [hw, if_true] at h
    rcases h with h | ⟨hasks, hlets⟩
    case inr => exact .inr ⟨by unfold Oper.asks at *; rw [execOp_put oj hsj a (some t) v h1'] at hasks; exact hasks, hlets⟩
    refine .inl ?_
    unfold Oper.wp at *
    rw [execOp_put oj hsj a (some t) v h1'] at h
    generalize (execOp a.eval oj).run P w = r at *
    cases r with
    | ok n w' =>
      cases n <;> simp only [Oper.upon] at h ⊢
      case value u => rw [← Act.put_comm a v u h2']; exact h
      case skip => rw [← Act.put_comm a v undef h2']; exact h
      case defer d =>
        rw [← Act.put_comm _ v undef h2', ← Act.put_defers]
        exact h
      case enter f args =>
        refine Calls.mono h fun e w'' he => ?_
        cases e with
        | returned u =>
          show Kc ((a.put oj.dst u).put (some t) v) w''
          rw [← Act.put_comm a v u h2']; exact he
        | panicked c => exact hQ _ _ _ he
        | outgrown => exact he
      case row row args => exact Rows.mono h fun u w'' he => by rw [← Act.put_comm a v u h2']; exact he
    | halt x w' =>
      cases x <;> simp only [Oper.upon] at h ⊢
      case panic u => exact hQ _ _ _ h
  · rename_i hw
    simp only [hw] at h
    rw [← Act.put_comm a v undef h2']
    exact h
end

end Go.Lv
