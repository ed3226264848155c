/-
  A9: cuts, lengths, least and greatest, conversions, function values, look-ups.
-/
import Derived.Test.YtpfoccpolaggiaaA8
import Derived.Lib.ConvBytes
import Derived.Laws.BytesArg
set_option linter.all false
namespace Go.Lv

section
variable {P : Program} {L : Ly} {X : Ctx} {G : Gh} {s s' : DS} {a : Act} {w : World} {c : FC}

theorem bndD_run (h : Rel X G s a w) {x : Option Operand} {dflt most k : Nat} (hb : bndD s x dflt most = some k) : k ≤ most ∧ ((x = none ∧ k = dflt) ∨ ∃ y kd, x = some y ∧ a.eval y = .int kd k) := by
  unfold bndD at hb
  split at hb
  · rw [Option.ite_none_right_eq_some] at hb
    obtain ⟨h1, hb⟩ := hb
    cases hb
    exact ⟨h1, .inl ⟨rfl, rfl⟩⟩
  · rename_i y
    split at hb
    · rename_i kd i hi
      rw [Option.ite_none_right_eq_some] at hb
      obtain ⟨h1, hb⟩ := hb
      cases hb
      have e := inv_int (lookO_vt h hi (.air 0) rfl)
      exact ⟨by omega, .inr ⟨y, kd, rfl, by rw [e, Int.toNat_of_nonneg h1.1]⟩⟩
    · cases hb

/-- The bounds of 'x[lo:hi]' within 'most'. -/
theorem run_bounds (isS : Bool) (len cap l h' : Nat) (lo hi : Option Value) (hlen : len ≤ cap) (hl : l ≤ h') (hh : h' ≤ len) (h1 : (lo = none ∧ l = 0) ∨ ∃ kd, lo = some (.int kd (l : Int))) (h2 : (hi = none ∧ h' = len) ∨ ∃ kd, hi = some (.int kd (h' : Int))) :
    (Instr.sliceBounds isS len cap lo hi none).run P w = .ok (l, h', cap) w := by
  have c1 : l ≤ h' := hl
  have c2 : h' ≤ cap := by omega
  unfold Instr.sliceBounds
  rcases h2 with ⟨rfl, rfl⟩ | ⟨kd, rfl⟩ <;> rcases h1 with ⟨rfl, rfl⟩ | ⟨kd', rfl⟩ <;> simp [Instr.sliceBound, asIntOf, c1, c2]

theorem rows_sub {b off sz l n : Nat} {ys : List (List D)} (h : RowsAt w G.be G.st b off sz ys) (hl : l + n ≤ ys.length) : RowsAt w G.be G.st b (off + l * sz) sz ((ys.drop l).take n) := by
  refine ⟨fun r hr => h.1 r (List.mem_of_mem_drop (List.mem_of_mem_take hr)), fun j c' r d hr hd => ?_⟩
  have hj : j < n := by
    have := (List.getElem?_eq_some_iff.1 hr).1
    simp at this; omega
  rw [List.getElem?_take_of_lt hj, List.getElem?_drop] at hr
  obtain ⟨u, hu, hi⟩ := h.2 _ c' r d hr hd
  refine ⟨u, ?_, hi⟩
  rw [← hu]
  congr 2
  rw [Nat.add_mul]
  omega

theorem bnd_conv (y : Option Operand) (k dflt : Nat) (hy : (y = none ∧ k = dflt) ∨ ∃ z kd, y = some z ∧ a.eval z = .int kd k) : (y.map a.eval = none ∧ k = dflt) ∨ ∃ kd, y.map a.eval = some (.int kd (k : Int)) := by
  rcases hy with ⟨rfl, e⟩ | ⟨z, kd, rfl, e⟩
  · exact .inl ⟨rfl, e⟩
  · exact .inr ⟨kd, by simp [e]⟩

theorem op_slice_str (H : LyOK P L) (h : Rel X G s a w) (hn : c.n = X.n) {o : Oper} {t : Nat} {x : Operand} {lo hi : Option Operand} (ho : o.op = .slice t x lo hi none) (hk : L.tk t = .str) (hs : sliceStrD c s o.dst x lo hi = some s') : Yd2 P c X G o s a w s' := by
  unfold sliceStrD at hs
  split at hs
  · rename_i b hx
    split at hs
    · rename_i hh hhi
      split at hs
      · rename_i ll hlo
        have e1 := inv_str (lookO_vt h hx (.air 0) rfl)
        obtain ⟨q1, q2⟩ := bndD_run h hhi
        obtain ⟨q3, q4⟩ := bndD_run h hlo
        have hu := H.str hk
        refine Yd2.put ?_ hs 0 (.str _)
        have hb := run_bounds (P := P) (w := w) false b.size b.size ll hh (lo.map a.eval) (hi.map a.eval) (Nat.le_refl _) q3 q1 (bnd_conv _ _ _ q4) (bnd_conv _ _ _ q2)
        simp [execOp, ho, e1, Instr.sliceAt, Instr.slice, run_underlying hu, hb]
      · cases hs
    · cases hs
  · cases hs

/-- Another place for an own list that is under way. -/
noncomputable def Gh.sp (G : Gh) (p : Place) (x : Nat × Nat) : Gh := { G with pl := fun q => if q = p then x else G.pl q }
theorem Rel.sp (h : Rel X G s a w) {n : Nat} (i j : Nat) (x : Nat × Nat) : Rel X (G.sp ⟨.air n, i, j⟩ x) s a w := by
  have K : Keeps w G s.m w (G.sp ⟨.air n, i, j⟩ x) s.m (fun p => p.r ≠ .air n) :=
    { be := fun _ _ h => h, st := fun _ _ h => h, cell := fun _ _ _ _ _ => rfl, ep := Nat.le_refl _, rv := fun _ => Nat.le_refl _, al := fun _ => Nat.le_refl _, era := Nat.le_refl _, rd := fun _ _ _ h => ⟨h, fun _ _ => rfl⟩,
      pl := fun p ha _ => by
        simp only [Gh.sp]
        rw [if_neg]
        intro e
        subst e
        cases ha
      la := fun _ _ => rfl, own := fun _ _ _ h => ⟨h, rfl, fun _ => ⟨rfl, rfl⟩⟩
      opl := fun p hp => by
        simp only [Gh.sp]
        rw [if_neg]
        intro e
        subst e
        exact hp rfl
      mp := fun _ k b es clock hb hh => ⟨es, clock, hh, fun i x hx => ⟨x, hx, rfl⟩⟩ }
  exact h.re (fun b hb => rfl) rfl rfl (fun b e he => .inl he) h.stow h.std (fun u e hu => K.vt (fun i q j c _ _ _ => by simp) (h.env u e hu)) (fun u cs hu => ⟨⟨cs, hu⟩, h.locK K (fun t j => by simp) hu⟩) rfl rfl (fun k o b hk hb => h.stoK K (fun t j => by simp) hk hb)

theorem run_sliceAt (H : LyOK P L) {t e : Nat} (hk : L.tk t = .slice e) (he : 0 < L.size e) {A : Option Addr} {len cap l hh : Nat} {lo hi : Option Value} (hb : (Instr.sliceBounds true len cap lo hi none).run P w = .ok (l, hh, cap) w) :
    (Instr.sliceAt t (.slice A len cap) lo hi none).run P w = .ok (.slice (if cap = l then A else A.map (·.add (l * L.size e))) (hh - l) (cap - l)) w := by
  have hu := H.slice hk
  simp [Instr.sliceAt, Instr.slice, run_underlying hu, hb, H.sizeOf he w]

theorem op_slice_ls (H : LyOK P L) (h : Rel X G s a w) (hn : c.n = X.n) {o : Oper} {t e : Nat} {x : Operand} {lo hi : Option Operand} (ho : o.op = .slice t x lo hi none) (hk : L.tk t = .slice e) (hs : sliceLsD L c s o.dst e x lo hi = some s') : Yd2 P c X G o s a w s' := by
  unfold sliceLsD at hs
  split at hs
  · rename_i q xs hx
    split at hs
    · cases hs
    · rename_i ys hls
      rw [Option.ite_none_right_eq_some] at hs
      obtain ⟨⟨he, hal⟩, hs⟩ := hs
      split at hs
      · rename_i hh hhi
        split at hs
        · rename_i ll hlo
          obtain ⟨q1, q2⟩ := bndD_run h hhi
          obtain ⟨q3, q4⟩ := bndD_run h hlo
          obtain ⟨r, hv⟩ := lookO_any h hx
          obtain ⟨A, cap, e1, hor⟩ := lsD_rel h hv hls
          have hcap : ys.length ≤ cap ∨ ys = [] := by
            rcases hor with rfl | ⟨_, _, _, _, _, h5, _⟩
            · exact .inr rfl
            · exact .inl h5
          have hlen : ys.length ≤ cap := by
            rcases hcap with h5 | h5
            · exact h5
            · rw [h5]; exact Nat.zero_le _
          have hb := run_bounds (P := P) (w := w) true ys.length cap ll hh (lo.map a.eval) (hi.map a.eval) hlen q3 q1 (bnd_conv _ _ _ q4) (bnd_conv _ _ _ q2)
          have hr : (execOp a.eval o).run P w = .ok (.value (.slice (if cap = ll then A else A.map (·.add (ll * L.size e))) (hh - ll) (cap - ll))) w := by
            simp only [execOp, ho, e1]
            rw [Sem.run_bind]
            simp only [Option.map_none]
            rw [run_sliceAt H hk he hb]
            rfl
          have hzl : ((ys.drop ll).take (hh - ll)).length = hh - ll := by simp; omega
          -- what the cut reads as
          have cut : ∀ {b off sz}, ys ≠ [] → RowsAt w G.be G.st b off sz ys → sz = L.size e := by
            intro b off sz hne hrow
            obtain ⟨r0, hr0⟩ := List.exists_mem_of_ne_nil ys hne
            rw [← hrow.1 r0 hr0]
            have := List.all_eq_true.1 hal r0 hr0
            simpa using this
          by_cases hz : hh - ll = 0
          · have hz0 : (ys.drop ll).take (hh - ll) = [] := List.eq_nil_of_length_eq_zero (by rw [hzl, hz])
            rw [hz0] at hs
            rw [hz] at hr
            split at hs
            · exact Yd2.put hr hs 0 (.nils _ _)
            · exact Yd2.put hr hs 0 ⟨_, _, rfl, Nat.le_refl _, fun _ => .inl rfl, fun _ _ h => (nomatch h)⟩
            · split at hs
              · rename_i d1 s1 ht
                obtain ⟨G1, h1, h2, _⟩ := takeO_rel h ht 0
                have : decide (ll < hh) = false := by simp; omega
                rw [this, Bool.and_false] at hs
                simp only [Bool.false_eq_true, if_false] at hs
                exact Yd2.tk (.own (by rw [ho]; simp [Op.operands]) hx rfl) h1 hr hs 0 (.nils _ _)
              · cases hs
          · have hne : ys ≠ [] := by intro h0; rw [h0] at q1; simp at q1; omega
            rcases hor with h0 | ⟨b, off, sz, rfl, hsz, h5, hrd, hrow⟩
            · exact absurd h0 hne
            have hszE := cut hne hrow
            subst hszE
            have hcl : cap ≠ ll := by omega
            rw [if_neg hcl] at hr
            simp only [Option.map_some, add_none] at hr
            have hrow' : RowsAt w G.be G.st b (off + ll * L.size e) (L.size e) ((ys.drop ll).take (hh - ll)) := rows_sub hrow (by omega)
            have hend : off + ll * L.size e + (hh - ll) * L.size e ≤ off + ys.length * L.size e := by
              have : (ll + (hh - ll)) * L.size e ≤ ys.length * L.size e := Nat.mul_le_mul_right _ (by omega)
              rw [Nat.add_mul] at this
              omega
            split at hs
            · simp only [lsD] at hls
              cases hls
              rw [e1] at hv
              rcases imm_list.1 (hv : Imm _ _ _ _ _) with ⟨rfl, _⟩ | ⟨b', off', cap', sz', e2, p1, p2, p3, p4, p5⟩
              · exact absurd rfl hne
              · cases e2
                have : sz' = L.size e := by
                  obtain ⟨r0, hr0⟩ := List.exists_mem_of_ne_nil xs hne
                  rw [← p5.1 r0 hr0, hrow.1 r0 hr0]
                subst this
                refine Yd2.put hr hs 0 (imm_list.2 (.inr ⟨b, _, _, L.size e, by rw [hzl], by rw [hzl]; omega, hsz, by rw [hzl]; omega, ?_, hrow'⟩))
                rw [hzl]
                exact h.std _ _ _ p4 hend
            · refine Yd2.put hr hs 0 ⟨_, _, by rw [hzl], Nat.le_refl _, fun _ => .inr ⟨b, _, L.size e, rfl, hsz, by rw [hzl]; omega, ?_, hrow'⟩, fun _ _ h => (nomatch h)⟩
              rw [hzl]
              exact rd_down h hrd hend
            · rename_i sz0
              split at hs
              · rename_i d1 s1 ht
                obtain ⟨G1, h1, h2, K, _⟩ := takeO_rel h ht 0
                have hd1 : d1 = .list (.own sz0) xs := by
                  cases x with
                  | tmp y =>
                    simp only [takeO] at ht
                    have hx' : lk y s.env = some (.list (.own sz0) xs) := hx
                    rw [hx'] at ht
                    simp [hasOwn, anyTop, anyAt, isOwn] at ht
                    exact ht.1.symm
                  | const v => simp only [takeO, hx] at ht; cases ht; rfl
                  | func f => cases hx
                  | global g => cases hx
                subst hd1
                simp only [lsD] at hls
                cases hls
                have h2' : OwnL w G1 ⟨.air 0, 0, 0⟩ sz0 xs (a.eval x) := h2
                rcases h2' with ⟨h0, _⟩ | ⟨hz', b', off', cap', e2, p1, p2, p3, p4, p5, p6⟩
                · exact absurd h0 hne
                rw [e1] at e2
                cases e2
                have hsz0 : sz0 = L.size e := by
                  obtain ⟨r0, hr0⟩ := List.exists_mem_of_ne_nil xs hne
                  rw [← p6.1 r0 hr0, hrow.1 r0 hr0]
                subst hsz0
                have hrow1 : RowsAt w G1.be G1.st b (off + ll * L.size e) (L.size e) ((xs.drop ll).take (hh - ll)) := rows_sub p6 (by omega)
                split at hs
                · rename_i hc
                  simp only [Bool.and_eq_true, beq_iff_eq, decide_eq_true_eq] at hc
                  obtain ⟨⟨_, hhl⟩, hlt⟩ := hc
                  have h3 := h1.sp (n := 0) 0 0 (b, off + ll * L.size e)
                  refine Yd2.tk (.own (by rw [ho]; simp [Op.operands]) hx rfl) h3 hr hs 0 (.inr ⟨hsz, b, off + ll * L.size e, cap - ll, by rw [hzl], by rw [hzl]; omega, p2, ?_, by simp [Gh.sp], fun i hi => ?_, hrow1⟩)
                  · show G1.fin b = _
                    rw [p3, hzl, hhl]
                    have : xs.length = ll + (xs.length - ll) := by omega
                    conv => lhs; rw [this]
                    rw [Nat.add_mul]
                    omega
                  · have hi' : ll * L.size e + i < cap * L.size e := by
                      have : (ll + (cap - ll)) * L.size e ≤ cap * L.size e := Nat.mul_le_mul_right _ (by omega)
                      rw [Nat.add_mul] at this
                      omega
                    have := p5 _ hi'
                    rw [← Nat.add_assoc] at this
                    exact this
                · obtain ⟨h3, K3⟩ := h1.freeze 0
                  have hrow3 : RowsAt w (G1.fr (.air 0)).be (G1.fr (.air 0)).st b (off + ll * L.size e) (L.size e) ((xs.drop ll).take (hh - ll)) := hrow1.mono K3.be K3.st K3.cell fun _ _ => rfl
                  refine Yd2.tk (.own (by rw [ho]; simp [Op.operands]) hx rfl) h3 hr hs 0 (imm_list.2 (.inr ⟨b, _, _, L.size e, by rw [hzl], by rw [hzl]; omega, hsz, by rw [hzl]; omega, ?_, hrow3⟩))
                  rw [hzl]
                  exact .inr ⟨⟨_, p2, rfl⟩, by rw [p3]; exact hend⟩
              · cases hs
        · cases hs
      · cases hs
  · cases hs

theorem op_slice (H : LyOK P L) (h : Rel X G s a w) (hn : c.n = X.n) {o : Oper} {t : Nat} {x : Operand} {lo hi mx : Option Operand} (ho : o.op = .slice t x lo hi mx) (hs : opD L c X.ro s o = some s') : Yd2 P c X G o s a w s' := by
  simp only [opD, ho] at hs
  split at hs
  · rename_i e hk
    exact op_slice_ls H h hn ho hk hs
  · rename_i hk
    exact op_slice_str H h hn ho hk hs
  · cases hs

theorem op_makeFunc (h : Rel X G s a w) (hn : c.n = X.n) {o : Oper} {f : Fn} {first caps : Array Operand} (ho : o.op = .makeFunc f first caps) (hs : opD L c X.ro s o = some s') : Yd2 P c X G o s a w s' := by
  have key : ∀ (xs : List Operand) (ds : List D), lookL s xs = some ds → ds.all rowC = true → ds.length = (xs.map a.eval).length ∧ ∀ (i : Nat) (d : D) (v : Value), ds[i]? = some d → (xs.map a.eval)[i]? = some v → Imm w G.be G.st d v := by
    intro xs
    induction xs with
    | nil =>
      intro ds hds _
      simp [lookL] at hds
      subst hds
      exact ⟨rfl, fun i d v h => by simp at h⟩
    | cons x r ih =>
      intro ds hds hr
      simp only [lookL] at hds
      split at hds
      · rename_i d ds' h1 h2
        cases hds
        simp only [List.all_cons, Bool.and_eq_true] at hr
        obtain ⟨h3, h4⟩ := ih ds' h2 hr.2
        refine ⟨by simp [h3], fun i d' v hd hv => ?_⟩
        cases i with
        | zero =>
          simp at hd hv
          subst hd; subst hv
          have h5 := lookO_vt h h1 (.air 0) (by cases d with
            | list q xs => cases q <;> first | rfl | simp [rowC] at hr
            | _ => first | rfl | simp [rowC] at hr)
          cases d with
          | list q xs => cases q <;> first | exact h5 | simp [rowC] at hr
          | _ => first | exact h5 | simp [rowC] at hr
        | succ i => simp at hd hv; exact h4 i d' v hd (by simpa using hv)
      · cases hds
  cases f with
  | func fid =>
    simp only [opD, ho] at hs
    rw [Option.ite_none_right_eq_some] at hs
    obtain ⟨hf, hs⟩ := hs
    split at hs
    · rename_i ds hds
      rw [Option.ite_none_right_eq_some] at hs
      obtain ⟨hrc, hs⟩ := hs
      obtain ⟨h1, h2⟩ := key _ _ hds hrc
      have e : first = #[] := Array.eq_empty_of_size_eq_zero hf
      refine Yd2.put (v := .func (.func fid) #[] (caps.toList.map a.eval).toArray) ?_ hs 0 (.fn _ _ _ h1 h2)
      simp [execOp, ho, Instr.makeFunc, e]
      rw [← Array.toList_map]
    · cases hs
  | _ => simp [opD, ho] at hs

/-! ### Conversions -/
theorem nums_of {b off : Nat} : ∀ (ys : List (List D)) (l : List UInt8), rowsBytes ys = some l → ∀ (o : Nat), (∀ r, r ∈ ys → r.length = 1) →
    (∀ (j c' : Nat) (r : List D) (d : D), ys[j]? = some r → r[c']? = some d → ∃ v, w.cell? ⟨b, o + (j * 1 + c'), none⟩ = some v ∧ Imm w G.be G.st d v) →
    ∃ ns : List Int, ns.length = ys.length ∧ (∀ j, j < ns.length → w.cell? ⟨b, o + j, none⟩ = some (.int .u8 (ns.getD j 0))) ∧ l = ns.map fun n => UInt8.ofNat n.toNat
  | [], l, hl, o, _, _ => by
    simp [rowsBytes] at hl
    subst hl
    exact ⟨[], rfl, fun j hj => by simp at hj, rfl⟩
  | r :: ys, l, hl, o, h1, h2 => by
    match r, hl with
    | [.int .u8 n], hl =>
      simp only [rowsBytes] at hl
      obtain ⟨l', hl', rfl⟩ := Option.map_eq_some_iff.1 hl
      obtain ⟨ns, q1, q2, q3⟩ := nums_of (b := b) (off := off) ys l' hl' (o + 1) (fun r hr => h1 r (by simp [hr])) (fun j c' r d hr hd => by
        obtain ⟨v, hv, hi⟩ := h2 (j + 1) c' r d (by simpa using hr) hd
        refine ⟨v, ?_, hi⟩
        rw [← hv]
        congr 2
        omega)
      refine ⟨n :: ns, by simp [q1], fun j hj => ?_, by simp [q3]⟩
      cases j with
      | zero =>
        obtain ⟨v, hv, hi⟩ := h2 0 0 _ _ rfl rfl
        cases hi
        simpa using hv
      | succ j =>
        have := q2 j (by simpa using hj)
        rw [show o + (j + 1) = o + 1 + j by omega]
        simpa using this

theorem op_convert_num (H : LyOK P L) (h : Rel X G s a w) (hn : c.n = X.n) {o : Oper} {t u : Nat} {x : Operand} (ho : o.op = .convert t u x) (hs : opD L c X.ro s o = some s') (hnew : ∀ b, L.tk t = .str → lookO s x = some (.str b) → L.tk u = .str) : Yd2 P c X G o s a w s' := by
  simp only [opD, ho] at hs
  unfold convertD at hs
  split at hs
  · rename_i k0 k kd n hk0 hk hx
    have hd := H.int hk0
    have e1 := inv_int (lookO_vt h hx (.air 0) rfl)
    have hu := H.int hk
    refine Yd2.put ?_ hs 0 (.int _ _)
    simp [execOp, ho, e1, convert, run_underlying hu, run_underlying hd, Conv.intToInt]
  · rename_i b hk1 hk2 hx
    have e1 := inv_str (lookO_vt h hx (.air 0) rfl)
    have h1 := H.str hk1
    have h2 := H.str hk2
    refine Yd2.put ?_ hs 0 (.str _)
    simp [execOp, ho, e1, convert, run_underlying h1, run_underlying h2]
  · rename_i e d hk1 hk2 hx
    split at hs
    · rename_i ys hke hls
      split at hs
      · rename_i l hl
        obtain ⟨r, hv⟩ := lookO_any h hx
        obtain ⟨A, cap, e1, hor⟩ := lsD_rel h hv hls
        have h1 := H.slice hk1
        have h2 := H.str hk2
        have h3 := H.int hke
        refine Yd2.put ?_ hs 0 (.str _)
        rcases hor with rfl | ⟨b, off, sz, rfl, hz, hc, hrd, hrow⟩
        · simp [rowsBytes] at hl
          subst hl
          simp only [execOp, ho, e1, List.length_nil]
          rw [Sem.run_bind, run_convert_bytes_string w t u e A 0 cap h1 h3 h2]
          cases A with
          | none => simp [Conv.bytesToString]; rfl
          | some ad => simp [Conv.bytesToString, loadCells, loadCellsFrom]; rfl
        · have hsz : sz = 1 ∨ ys = [] := by
            cases ys with
            | nil => exact .inr rfl
            | cons r ys =>
              refine .inl ?_
              rw [← hrow.1 r (by simp)]
              match r, hl with
              | [.int .u8 n], _ => rfl
          rcases hsz with rfl | rfl
          · obtain ⟨ns, q1, q2, q3⟩ := nums_of (w := w) (G := G) (b := b) (off := off) ys l hl off hrow.1 hrow.2
            simp only [execOp, ho, e1]
            rw [Sem.run_bind, run_convert_bytes_arg w t e h1 h3 b off ys.length cap ns q1 (fun i hi => q2 i (by omega)) u h2]
            subst q3
            rfl
          · simp [rowsBytes] at hl
            subst hl
            simp only [execOp, ho, e1, List.length_nil]
            rw [Sem.run_bind, run_convert_bytes_string w t u e _ 0 cap h1 h3 h2]
            simp [Conv.bytesToString, loadCells, loadCellsFrom]
            rfl
      · cases hs
    · cases hs
  · rename_i e b hk1 hk2 hx
    have := hnew b hk1 hx
    rw [this] at hk2
    cases hk2
  · cases hs
end

end Go.Lv
