/-
  A6: single operations that read (moves, tests, numbers, parts, elements, loads without taking).
-/
import Derived.Test.YtpfoccpolaggiaaA5
set_option linter.all false
namespace Go.Lv

/-- An operation yields v (or, void, nothing). -/
noncomputable def Runs (P : Program) (o : Oper) (a : Act) (w : World) (v : Value) (w' : World) : Prop :=
  (execOp a.eval o).run P w = .ok (.value v) w' ∨ ((execOp a.eval o).run P w = .ok .skip w' ∧ v = undef)
noncomputable def Yd (P : Program) (X : Ctx) (o : Oper) (a : Act) (w : World) (s' : DS) : Prop := ∃ v w' G', Runs P o a w v w' ∧ Rel X G' s' (a.put o.dst v) w'

section
variable {P : Program} {L : Ly} {X : Ctx} {G : Gh} {s s' : DS} {a : Act} {w : World} {c : FC}

theorem Rel.putO (h : Rel X G s a w) (hn : c.n = X.n) {dst : Option Nat} {d : D} {v : Value} (hp : Lv.put c dst d s = some s') (n : Nat) (hv : VT w G s.m (.air n) d v) : ∃ G', Rel X G' s' (a.put dst v) w := by
  unfold Lv.put at hp
  cases dst with
  | none => cases hp; exact ⟨G, h⟩
  | some t =>
    simp only [Option.ite_none_right_eq_some] at hp
    obtain ⟨ht, hp⟩ := hp
    cases hp
    exact h.land (n := n) (by omega) hv

/-- An operation yields v and leaves the world as it is. -/
noncomputable def Yd0 (P : Program) (X : Ctx) (o : Oper) (a : Act) (w : World) (s' : DS) : Prop := ∃ v G', (execOp a.eval o).run P w = .ok (.value v) w ∧ Rel X G' s' (a.put o.dst v) w
theorem Yd0.yd {o : Oper} (h : Yd0 P X o a w s') : Yd P X o a w s' := by
  obtain ⟨v, G', h1, h2⟩ := h
  exact ⟨v, w, G', .inl h1, h2⟩
theorem Yd0.put (h : Rel X G s a w) (hn : c.n = X.n) {o : Oper} {d : D} {v : Value} (hr : (execOp a.eval o).run P w = .ok (.value v) w) (hp : Lv.put c o.dst d s = some s') (n : Nat) (hv : VT w G s.m (.air n) d v) : Yd0 P X o a w s' := by
  obtain ⟨G', hG⟩ := h.putO hn hp n hv
  exact ⟨v, G', hr, hG⟩

/-- An operation that takes something from where it lies. -/
noncomputable def Takes (c : FC) (s : DS) (o : Oper) : Prop := (∃ x d0, x ∈ o.op.operands ∧ lookO s x = some d0 ∧ hasOwn d0 = true) ∨ ∃ t, o.dst = some t ∧ c.xf.contains t = true
/-- An operation that only reads: its value; where nothing is taken, beside all that was known. -/
noncomputable def Yd2 (P : Program) (c : FC) (X : Ctx) (G : Gh) (o : Oper) (s : DS) (a : Act) (w : World) (s' : DS) : Prop :=
  ∃ (v : Value) (d : D) (n : Nat), (execOp a.eval o).run P w = .ok (.value v) w ∧ ((Lv.put c o.dst d s = some s' ∧ VT w G s.m (.air n) d v) ∨ (Takes c s o ∧ ∃ G2 s2, Rel X G2 s2 a w ∧ Lv.put c o.dst d s2 = some s' ∧ VT w G2 s2.m (.air n) d v))
theorem Yd2.yd0 {o : Oper} (h : Rel X G s a w) (hn : c.n = X.n) (hy : Yd2 P c X G o s a w s') : Yd0 P X o a w s' := by
  obtain ⟨v, d, n, h1, h2 | ⟨_, G2, s2, h2, h3, h4⟩⟩ := hy
  · exact Yd0.put h hn h1 h2.1 n h2.2
  · exact Yd0.put h2 hn h1 h3 n h4
theorem Yd2.yd {o : Oper} (hy : Yd2 P c X G o s a w s') (h : Rel X G s a w) (hn : c.n = X.n) : Yd P X o a w s' := (hy.yd0 h hn).yd
theorem Yd2.put {o : Oper} {d : D} {v : Value} (hr : (execOp a.eval o).run P w = .ok (.value v) w) (hp : Lv.put c o.dst d s = some s') (n : Nat) (hv : VT w G s.m (.air n) d v) : Yd2 P c X G o s a w s' := ⟨v, d, n, hr, .inl ⟨hp, hv⟩⟩
theorem Yd2.tk {o : Oper} {d : D} {v : Value} {G2 : Gh} {s2 : DS} (hk : Takes c s o) (h : Rel X G2 s2 a w) (hr : (execOp a.eval o).run P w = .ok (.value v) w) (hp : Lv.put c o.dst d s2 = some s') (n : Nat) (hv : VT w G2 s2.m (.air n) d v) : Yd2 P c X G o s a w s' := ⟨v, d, n, hr, .inr ⟨hk, G2, s2, h, hp, hv⟩⟩
theorem Takes.own {o : Oper} {x : Operand} {d0 : D} (hm : x ∈ o.op.operands) (hx : lookO s x = some d0) (h : hasOwn d0 = true) : Takes c s o := .inl ⟨x, d0, hm, hx, h⟩

theorem Yd.put (h : Rel X G s a w) (hn : c.n = X.n) {o : Oper} {d : D} {v : Value} (hr : (execOp a.eval o).run P w = .ok (.value v) w) (hp : Lv.put c o.dst d s = some s') (n : Nat) (hv : VT w G s.m (.air n) d v) : Yd P X o a w s' := by
  obtain ⟨G', hG⟩ := h.putO hn hp n hv
  exact ⟨v, w, G', .inl hr, hG⟩

theorem lookTop_noOwn (e : Nat) (r : Root) (v : Nat) (d : D) : hasOwn (lookTop e r v d) = false := by
  have h0 : ∀ p c, isOwn (lookC e p v c) = false := by
    intro p c
    cases c with
    | list q xs => cases q <;> rfl
    | _ => rfl
  have h1 : ∀ i d, anyAt isOwn (mapAt (fun j c => lookC e ⟨r, i, j⟩ v c) d) = false := by
    intro i d
    cases d with
    | agg cs =>
      refine List.any_eq_false.2 fun x hx => ?_
      obtain ⟨j, hj⟩ := List.mem_iff_getElem?.1 hx
      rw [mapIx_get] at hj
      obtain ⟨c, _, rfl⟩ := Option.map_eq_some_iff.1 hj
      simp [h0]
    | list q xs => cases q <;> rfl
    | _ => rfl
  cases d with
  | tup ds =>
    refine List.any_eq_false.2 fun x hx => ?_
    obtain ⟨j, hj⟩ := List.mem_iff_getElem?.1 hx
    rw [mapIx_get] at hj
    obtain ⟨c, _, rfl⟩ := Option.map_eq_some_iff.1 hj
    simp [h1]
  | list q xs => cases q <;> rfl
  | agg cs => exact h1 0 (.agg cs)
  | _ => rfl

theorem op_move (h : Rel X G s a w) (hn : c.n = X.n) {o : Oper} {x : Operand} (ho : o.op = .move x) (hs : opD L c X.ro s o = some s') : Yd2 P c X G o s a w s' := by
  simp only [opD, ho] at hs
  have hr : (execOp a.eval o).run P w = .ok (.value (a.eval x)) w := by simp [execOp, ho]
  split at hs
  · cases hs
  · rename_i d hd
    split at hs
    · rename_i how
      split at hs
      · rename_i t u hu
        split at hs
        · split at hs
          · rename_i d1 s1 ht
            obtain ⟨G1, h1, h2, _⟩ := takeO_rel h ht 0
            exact Yd2.tk (.own (by rw [ho]; simp [Op.operands]) hd how) h1 hr hs 0 h2
          · cases hs
        · refine Yd2.put hr hs 0 ?_
          exact VT.map _ (fun i j c u hc => VC.look (Keeps.refl _ _ _ (fun _ => True)) rfl rfl trivial hc) (h.env t d hd)
      · exact Yd2.put hr hs 0 (dOf_vt hd)
      · cases hs
    · rename_i how
      exact Yd2.put hr hs 0 (lookO_vt h hd _ (by simpa using how))

theorem op_assign (h : Rel X G s a w) (hn : c.n = X.n) {o : Oper} {x : Operand} (ho : o.op = .assign x) (hs : opD L c X.ro s o = some s') : Yd0 P X o a w s' := by
  simp only [opD, ho] at hs
  have hr : (execOp a.eval o).run P w = .ok (.value (a.eval x)) w := by simp [execOp, ho]
  split at hs
  · rename_i d s1 t ht hdst
    obtain ⟨G1, h1, h2, _⟩ := takeO_rel h ht 0
    split at hs
    · exact Yd0.put h1 hn hr hs 0 h2
    · exact Yd0.put (h1.freeze 0).1 hn hr hs 0 h2.fz
  · cases hs

theorem op_pick (h : Rel X G s a w) (hn : c.n = X.n) {o : Oper} {x y z : Operand} (ho : o.op = .pick x y z) (hs : opD L c X.ro s o = some s') : Yd2 P c X G o s a w s' := by
  simp only [opD, ho] at hs
  split at hs
  · rename_i b hb
    have e1 := inv_bool (lookO_vt h hb (.air 0) rfl)
    split at hs
    · rename_i d hd
      split at hs
      · cases hs
      · rename_i how
        have hr : (execOp a.eval o).run P w = .ok (.value (a.eval (if b then y else z))) w := by
          simp only [execOp, ho, e1, asBool]
          cases b <;> simp
        exact Yd2.put hr hs 0 (lookO_vt h hd _ (by simpa using how))
    · cases hs
  · cases hs

theorem op_nilCheck (h : Rel X G s a w) (hn : c.n = X.n) {o : Oper} {x : Operand} (ho : o.op = .nilCheck x) (hs : opD L c X.ro s o = some s') : Yd2 P c X G o s a w s' := by
  simp only [opD, ho] at hs
  have key : ∀ d, lookO s x = some d → hasOwn d = false → Lv.put c o.dst d s = some s' → ((∃ ad, a.eval x = .pointer (some ad)) ∨ ∃ f vs, a.eval x = .func (.func f) #[] vs) → Yd2 P c X G o s a w s' := by
    intro d hd how hp hv
    refine Yd2.put (v := a.eval x) ?_ hp 0 (lookO_vt h hd _ how)
    rcases hv with ⟨ad, hv⟩ | ⟨f, vs, hv⟩ <;> simp [execOp, ho, hv]
  split at hs
  · rename_i t v n hd
    have e1 := lookO_vt h hd (.air 0) rfl
    obtain ⟨ad, h1, _⟩ := e1
    exact key _ hd rfl hs (.inl ⟨ad, h1⟩)
  · rename_i k n hd
    obtain ⟨b, _, h1⟩ := inv_gptr (lookO_vt h hd (.air 0) rfl)
    exact key _ hd rfl hs (.inl ⟨_, h1⟩)
  · rename_i e p i r n hd
    obtain ⟨b, o', h1, _⟩ := lookO_vt h hd (.air 0) rfl
    exact key _ hd rfl hs (.inl ⟨_, h1⟩)
  · rename_i f cs hd
    obtain ⟨vs, h1, _⟩ := inv_fn (lookO_vt h hd (.air 0) rfl)
    exact key _ hd rfl hs (.inr ⟨_, _, h1⟩)
  · cases hs

theorem isPtr_noOwn {y : D} (h : isPtr y = true) : hasOwn y = false := by
  cases y <;> first | rfl | (simp [isPtr] at h; done)
theorem binD_noOwnArg {t : Nat} {op : BinOp} {x y d : D} (h : binD L t op x y = some d) : hasOwn x = false ∧ hasOwn y = false := by
  have e1 : ∀ {x y q}, eqD L t x y = some q → hasOwn x = false ∧ hasOwn y = false := by
    intro x y q h
    unfold eqD at h
    split at h
    · exact ⟨rfl, rfl⟩
    · exact ⟨rfl, rfl⟩
    · exact ⟨rfl, rfl⟩
    · exact ⟨rfl, rfl⟩
    · rw [Option.ite_none_right_eq_some] at h
      exact ⟨rfl, isPtr_noOwn h.1⟩
    · rw [Option.ite_none_right_eq_some] at h
      exact ⟨isPtr_noOwn h.1, rfl⟩
    · rw [Option.ite_none_right_eq_some] at h
      obtain ⟨s1, s2⟩ := eqL_scl h.2
      have key : ∀ cs : List D, cs.all sclC = true → hasOwn (.agg cs) = false := by
        intro cs hc
        refine List.any_eq_false.2 fun x hx => ?_
        have := List.all_eq_true.1 hc x hx
        cases x <;> simp [sclC, isOwn] at *
      exact ⟨key _ s1, key _ s2⟩
    · cases h
  unfold binD at h
  split at h <;> first | (cases h; done) | exact ⟨rfl, rfl⟩ | (obtain ⟨q, hq, _⟩ := Option.map_eq_some_iff.1 h; exact e1 hq)

theorem op_bin (H : LyOK P L) (h : Rel X G s a w) (hn : c.n = X.n) {o : Oper} {op : BinOp} {t t' : Nat} {x y : Operand} (ho : o.op = .binOp op t x y t') (hs : opD L c X.ro s o = some s') : Yd2 P c X G o s a w s' := by
  simp only [opD, ho] at hs
  split at hs
  · rename_i d1 d2 h1 h2
    split at hs
    · rename_i d hd
      obtain ⟨o1, o2⟩ := binD_noOwnArg hd
      obtain ⟨z, hz, hv, how⟩ := run_binD H x y hd (lookO_vt h h1 (.air 0) o1) (lookO_vt h h2 (.air 0) o2)
      refine Yd2.put (v := z) ?_ hs 0 hv
      simp only [execOp, ho, Sem.run_bind, hz, Result.andThen_ok]
      rfl
    · cases hs
  · cases hs

theorem op_un (h : Rel X G s a w) (hn : c.n = X.n) {o : Oper} {op : UnOp} {t : Nat} {x : Operand} (ho : o.op = .unOp op t x) (hs : opD L c X.ro s o = some s') : Yd2 P c X G o s a w s' := by
  simp only [opD, ho] at hs
  split at hs
  · rename_i d1 h1
    split at hs
    · rename_i d hd
      unfold unD at hd
      split at hd
      · have e1 := inv_int (lookO_vt h h1 (.air 0) rfl)
        cases hd
        refine Yd2.put ?_ hs 0 (.int _ _)
        simp [execOp, ho, e1, Op.unary, Op.intArith]
      · have e1 := inv_int (lookO_vt h h1 (.air 0) rfl)
        cases hd
        refine Yd2.put ?_ hs 0 (.int _ _)
        simp [execOp, ho, e1, Op.unary, Op.intBits]
      · have e1 := inv_bool (lookO_vt h h1 (.air 0) rfl)
        cases hd
        refine Yd2.put ?_ hs 0 (.bool _)
        simp [execOp, ho, e1, Op.unary]
      · cases hd
    · cases hs
  · cases hs

theorem lookO_any (h : Rel X G s a w) {x : Operand} {d : D} (hx : lookO s x = some d) : ∃ r, VT w G s.m r d (a.eval x) := by
  cases x with
  | tmp u => exact ⟨_, h.env u _ hx⟩
  | const v => exact ⟨.air 0, dOf_vt hx⟩
  | func f => exact ⟨.air 0, by
      simp [lookO] at hx
      subst hx
      exact .fn f [] [] rfl fun i d v h => by simp at h⟩
  | global g => cases hx

/-! ### Reading a list, an element, a box -/
/-- A slice that reads as these rows. -/
noncomputable def LsV (w : World) (G : Gh) (ys : List (List D)) (v : Value) : Prop :=
  ∃ A cap, v = .slice A ys.length cap ∧ (ys = [] ∨ ∃ b off sz, A = some ⟨b, off, none⟩ ∧ 0 < sz ∧ ys.length ≤ cap ∧ G.rd b (off + ys.length * sz) ∧ RowsAt w G.be G.st b off sz ys)

theorem OwnL.ls {p : Place} {sz : Nat} {xs : List (List D)} {v : Value} (h : OwnL w G p sz xs v) : LsV w G xs v := by
  rcases h with ⟨rfl, rfl⟩ | ⟨hz, b, off, cap, rfl, hc, ho, hf, hpl, _, hr⟩
  · exact ⟨none, 0, rfl, .inl rfl⟩
  · exact ⟨_, cap, rfl, .inr ⟨b, off, sz, rfl, hz, hc, .inr ⟨⟨p, ho⟩, by omega⟩, hr⟩⟩
theorem imm_ls {xs : List (List D)} {v : Value} (h : Imm w G.be G.st (.list .imm xs) v) : LsV w G xs v := by
  rcases imm_list.1 h with ⟨rfl, a, cap, rfl⟩ | ⟨b, off, cap, sz, rfl, h1, h2, h3, h4, h5⟩
  · exact ⟨a, cap, rfl, .inl rfl⟩
  · exact ⟨_, cap, rfl, .inr ⟨b, off, sz, rfl, h2, h3, .inl h4, h5⟩⟩

theorem VT.part {m : Mt} {r : Root} {d q : D} {v : Value} {i : Nat} (h : VT w G m r d v) (hq : partAt d i = some q) : ∃ u, VP w G m r i q u := by
  cases d with
  | tup ds =>
    obtain ⟨vs, rfl, hl, h1⟩ := h
    have hi := (List.getElem?_eq_some_iff.1 hq).1
    have hu : vs[i]? = some (vs[i]'(by omega)) := List.getElem?_eq_getElem (by omega)
    exact ⟨_, h1 i q _ hq hu⟩
  | _ =>
    simp only [partAt] at hq
    split at hq
    · rename_i hi
      subst hi
      cases hq
      rw [VT_part (by intro cs h; cases h)] at h
      exact ⟨_, h⟩
    · cases hq
theorem VP.cell {m : Mt} {r : Root} {i : Nat} {d q : D} {v : Value} {j : Nat} (h : VP w G m r i d v) (hq : cellAt d j = some q) : ∃ u, VC w G m ⟨r, i, j⟩ q u := by
  cases d with
  | agg ds =>
    obtain ⟨vs, rfl, hl, h1⟩ := h
    have hi := (List.getElem?_eq_some_iff.1 hq).1
    have hu : vs[j]? = some (vs[j]'(by omega)) := List.getElem?_eq_getElem (by omega)
    exact ⟨_, h1 j q _ hq hu⟩
  | _ =>
    simp only [cellAt] at hq
    split at hq
    · rename_i hi
      subst hi
      cases hq
      rw [VP_cell (by intro cs h; cases h)] at h
      exact ⟨_, h⟩
    · cases hq

theorem getPl_own (h : Rel X G s a w) {p : Place} {sz : Nat} {ys : List (List D)} (hp : getPl s p = some (.list (.own sz) ys)) (hr : okR X.ro p.r = true) : ∃ v, OwnL w G p sz ys v := by
  obtain ⟨r, i, j⟩ := p
  unfold getPl at hp
  cases r with
  | slot t =>
    simp only [Option.bind_eq_some_iff] at hp
    obtain ⟨d, h1, q, h2, h3⟩ := hp
    obtain ⟨u, hu⟩ := (h.env t d h1).part h2
    exact hu.cell h3
  | lbox t =>
    simp only [Option.bind_eq_some_iff] at hp
    obtain ⟨cs, h1, h2⟩ := hp
    rw [Option.ite_none_right_eq_some] at h2
    obtain ⟨rfl, h2⟩ := h2
    obtain ⟨u, _, _, h3⟩ := (h.loc t cs h1).2 j _ h2
    exact ⟨u, h3⟩
  | gbox k =>
    simp only at hp
    split at hp
    · rename_i cs hk
      rw [Option.ite_none_right_eq_some] at hp
      obtain ⟨rfl, h2⟩ := hp
      obtain ⟨b, h3, h4, h5, h6⟩ := h.sto k _ hk
      have hk' : ¬ k < X.ro := by simp [okR] at hr; omega
      simp only [ObV, hk', if_false] at h6
      obtain ⟨u, _, _, h7⟩ := h6 j _ h2
      exact ⟨u, h7⟩
    · cases hp
  | air n => cases hp

theorem atPr_own (h : Rel X G s a w) {q : Option (Place × Nat)} {ys : List (List D)} (hp : atPr s q = some ys) : ∃ p n sz v, q = some (p, n) ∧ s.m.rv p.r = n ∧ OwnL w G p sz ys v := by
  unfold atPr at hp
  split at hp
  · rename_i p n
    rw [Option.ite_none_right_eq_some] at hp
    obtain ⟨⟨h1, h2⟩, h3⟩ := hp
    split at h3
    · rename_i sz zs hz
      cases h3
      obtain ⟨v, hv⟩ := getPl_own h hz (by rw [← h.rom]; exact h2)
      exact ⟨p, n, sz, v, rfl, h1, hv⟩
    · cases h3
  · cases hp

theorem lsD_rel (h : Rel X G s a w) {r : Root} {d : D} {v : Value} {ys : List (List D)} (hv : VT w G s.m r d v) (hl : lsD s d = some ys) : LsV w G ys v := by
  unfold lsD at hl
  split at hl
  · cases hl
    have hv' : OwnL w G ⟨r, 0, 0⟩ _ _ v := hv
    exact hv'.ls
  · cases hl
    exact imm_ls hv
  · rename_i e q xs
    have hv' : CpL w G s.m e q xs v := hv
    obtain ⟨A, cap, rfl, he, h1, h2⟩ := hv'
    split at hl
    · rename_i zs hz
      rw [Option.ite_none_right_eq_some] at hl
      obtain ⟨hlen, hl⟩ := hl
      cases hl
      obtain ⟨p, n, sz, u, hq, hn, hown⟩ := atPr_own h hz
      obtain ⟨_, _, h4⟩ := h2 p n hq
      rcases h4 hn with h5 | ⟨h5, h6⟩
      · subst h5
        have : ys = [] := List.eq_nil_of_length_eq_zero hlen
        subst this
        exact ⟨A, cap, rfl, .inl rfl⟩
      · rcases hown with ⟨rfl, rfl⟩ | ⟨hz', b, off, cap', rfl, hc, ho, hf, hpl, _, hr⟩
        · have : xs = [] := List.eq_nil_of_length_eq_zero hlen.symm
          subst this
          exact ⟨A, cap, rfl, .inl rfl⟩
        · refine ⟨A, cap, by rw [hlen], .inr ⟨b, off, sz, ?_, hz', by omega, .inr ⟨⟨p, ho⟩, by omega⟩, hr⟩⟩
          rw [h5, hpl]
    · rw [Option.ite_none_right_eq_some] at hl
      obtain ⟨he', hl⟩ := hl
      cases hl
      rcases h1 he' with h3 | ⟨b, off, sz, h3, h4, h5, h6, h7⟩
      · exact ⟨A, cap, rfl, .inl h3⟩
      · exact ⟨A, cap, rfl, .inr ⟨b, off, sz, h3, h4, h5, h6, h7⟩⟩
  · cases hl

/-- An element's row, as it is now. -/
theorem rowOf_rel (h : Rel X G s a w) {r : Root} {e : Option Nat} {q : Option (Place × Nat)} {i off : Nat} {row rw' : List D} {v : Value} (hv : VT w G s.m r (.eptr e q i row off) v) (hr : rowOf s e q i row = some rw') :
    ∃ b o, v = .pointer (some ⟨b, o + off, none⟩) ∧ rw'.length = row.length ∧ ∀ c d, rw'[c]? = some d → ∃ u, w.cell? ⟨b, o + c, none⟩ = some u ∧ Imm w G.be G.st d u := by
  have hv' : EpV w G s.m e q i row off v := hv
  obtain ⟨b, o, rfl, he, h0, h1, h2⟩ := hv'
  unfold rowOf at hr
  split at hr
  · rename_i ys hys
    obtain ⟨p, n, sz, u, hq, hn, hown⟩ := atPr_own h hys
    split at hr
    · rename_i r' hr'
      rw [Option.ite_none_right_eq_some] at hr
      obtain ⟨hlen, hr⟩ := hr
      cases hr
      obtain ⟨_, _, h4⟩ := h2 p n hq
      obtain ⟨rfl, rfl⟩ := h4 hn
      rcases hown with ⟨rfl, rfl⟩ | ⟨hz', b, off', cap', rfl, hc, ho, hf, hpl, _, hrows⟩
      · simp at hr'
      · refine ⟨_, _, rfl, hlen, fun c d hd => ?_⟩
        obtain ⟨u, hu, hi⟩ := hrows.2 i c rw' d hr' hd
        refine ⟨u, ?_, hi⟩
        have hsz : row.length = sz := by rw [← hlen]; exact hrows.1 rw' (List.mem_of_getElem? hr')
        rw [hpl, hsz, Nat.add_assoc]
        exact hu
    · cases hr
  · split at hr
    · cases hr
      exact ⟨b, o, rfl, rfl, (h1 (.inl rfl)).2⟩
    · rw [Option.ite_none_right_eq_some] at hr
      obtain ⟨he', hr⟩ := hr
      cases hr
      exact ⟨b, o, rfl, rfl, (h1 (.inr (by rw [he']))).2⟩

theorem sliceL_get {α : Type} {l ds : List α} {off n : Nat} (h : sliceL l off n = some ds) : ds.length = n ∧ off + n ≤ l.length ∧ ∀ j, j < n → ds[j]? = l[off + j]? := by
  unfold sliceL at h
  rw [Option.ite_none_right_eq_some] at h
  obtain ⟨h1, h⟩ := h
  cases h
  refine ⟨by simp; omega, h1, fun j hj => ?_⟩
  rw [List.getElem?_take_of_lt hj, List.getElem?_drop]

theorem add_none (b o j : Nat) : (⟨b, o, none⟩ : Addr).add j = ⟨b, o + j, none⟩ := by
  unfold Addr.add
  split
  · rename_i h; simp [h]
  · rfl

/-- Where a cell that is read lies. -/
noncomputable def srcP (s : DS) (a : D) (j : Nat) : Place := match rootOf s a with
  | some (r, off) => ⟨r, 0, off + j⟩
  | none => ⟨.air 0, 0, j⟩

theorem fz_seeC {ro k : Nat} (h : k < ro) (d : D) : seeC ro k d = fz d := by simp [seeC, h]

theorem readD_rel (h : Rel X G s a w) {r : Root} {ad : D} {v : Value} {n : Nat} {cs : List D} (hv : VT w G s.m r ad v) (hr : readD X.ro s ad n = some cs) :
    ∃ b o, v = .pointer (some ⟨b, o, none⟩) ∧ cs.length = n ∧ ∀ j d, cs[j]? = some d → ∃ u, w.cell? ⟨b, o + j, none⟩ = some u ∧ VC w G s.m (srcP s ad j) d u := by
  unfold readD at hr
  split at hr
  · rename_i t ver off
    rw [Option.ite_none_right_eq_some] at hr
    obtain ⟨h1, hr⟩ := hr
    split at hr
    · rename_i bs hbs
      obtain ⟨h2, h3, h4⟩ := sliceL_get hr
      obtain ⟨ad, rfl, _, h5⟩ := (hv : LpV G s.m t ver off v)
      rw [h5 h1]
      refine ⟨G.la t, off, rfl, h2, fun j d hd => ?_⟩
      have hj : j < n := by rw [← h2]; exact (List.getElem?_eq_some_iff.1 hd).1
      rw [h4 j hj] at hd
      obtain ⟨u, hu, _, hc⟩ := (h.loc t bs hbs).2 _ _ hd
      exact ⟨u, hu, hc⟩
    · cases hr
  · rename_i k off
    split at hr
    · rename_i bs hbs
      split at hr
      · rename_i ds hds
        cases hr
        obtain ⟨h2, h3, h4⟩ := sliceL_get hds
        obtain ⟨b, hb, rfl⟩ := inv_gptr hv
        obtain ⟨b', hb', _, _, hob⟩ := h.sto k _ hbs
        rw [hb] at hb'
        cases hb'
        refine ⟨b, off, rfl, by simpa using h2, fun j d hd => ?_⟩
        rw [List.getElem?_map] at hd
        obtain ⟨d0, hd0, rfl⟩ := Option.map_eq_some_iff.1 hd
        have hj : j < n := by rw [← h2]; exact (List.getElem?_eq_some_iff.1 hd0).1
        rw [h4 j hj] at hd0
        by_cases hk : k < X.ro
        · simp only [ObV, hk, if_true] at hob
          obtain ⟨u, hu, hi⟩ := hob _ _ hd0
          rw [fz_seeC hk]
          refine ⟨u, hu, ?_⟩
          have : isOwn (fz d0) = false := fz_own d0
          revert hi this
          generalize fz d0 = e
          intro hi ho
          cases e with
          | list q xs => cases q <;> first | exact hi | cases hi
          | _ => first | exact hi | cases hi
        · simp only [ObV, hk, if_false] at hob
          obtain ⟨u, hu, _, hc⟩ := hob _ _ hd0
          refine ⟨u, hu, ?_⟩
          simp only [seeC, hk, if_false]
          exact hc
      · cases hr
    · cases hr
  · rename_i e q i row off
    split at hr
    · rename_i row' hrow
      obtain ⟨b, o, rfl, hl, hc⟩ := rowOf_rel h hv hrow
      obtain ⟨h2, h3, h4⟩ := sliceL_get hr
      refine ⟨b, o + off, rfl, h2, fun j d hd => ?_⟩
      have hj : j < n := by rw [← h2]; exact (List.getElem?_eq_some_iff.1 hd).1
      rw [h4 j hj] at hd
      obtain ⟨u, hu, hi⟩ := hc _ _ hd
      refine ⟨u, by rw [Nat.add_assoc]; exact hu, ?_⟩
      revert hi
      generalize d = e
      intro hi
      cases e with
      | list q xs => cases q <;> first | exact hi | cases hi
      | _ => first | exact hi | cases hi
    · cases hr
  · cases hr
end

end Go.Lv
