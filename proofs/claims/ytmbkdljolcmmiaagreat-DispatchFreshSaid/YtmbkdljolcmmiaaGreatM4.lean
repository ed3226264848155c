/-
  Part 4 of the texts under the proof: an abstract run of loaded code on data, and what the functions do. No condition.
-/
import Derived.Test.YtmbkdljolcmmiaaGreatM3
import Derived.Lib.ConvBytes
import Derived.Laws.BytesArg
set_option linter.all false
set_option maxRecDepth 100000
namespace Go.Lv

section
variable {P : Program} {L : Ly} {X : Ctx} {G : Gh} {s s' : DS} {a : Act} {w : World} {c : FC}

theorem bndD_run (h : Rel X G s a w) {x : Option Operand} {dflt most k : Nat} (hb : bndD s x dflt most = some k) : k ≤ most ∧ ((x = none ∧ k = dflt) ∨ ∃ y kd, x = some y ∧ a.eval y = .int kd k) := by
  unfold bndD at hb
  split at hb
  · rw [Option.ite_none_right_eq_some] at hb
    obtain ⟨h1, hb⟩ := hb
    cases hb
    exact ⟨h1, .inl ⟨rfl, rfl⟩⟩
  · rename_i y
    split at hb
    · rename_i kd i hi
      rw [Option.ite_none_right_eq_some] at hb
      obtain ⟨h1, hb⟩ := hb
      cases hb
      have e := inv_int (lookO_vt h hi (.air 0) rfl)
      exact ⟨by omega, .inr ⟨y, kd, rfl, by rw [e, Int.toNat_of_nonneg h1.1]⟩⟩
    · cases hb

theorem run_bounds (isS : Bool) (len cap l h' : Nat) (lo hi : Option Value) (hlen : len ≤ cap) (hl : l ≤ h') (hh : h' ≤ len) (h1 : (lo = none ∧ l = 0) ∨ ∃ kd, lo = some (.int kd (l : Int))) (h2 : (hi = none ∧ h' = len) ∨ ∃ kd, hi = some (.int kd (h' : Int))) :
    (Instr.sliceBounds isS len cap lo hi none).run P w = .ok (l, h', cap) w := by
  have c1 : l ≤ h' := hl
  have c2 : h' ≤ cap := by omega
  unfold Instr.sliceBounds
  rcases h2 with ⟨rfl, rfl⟩ | ⟨kd, rfl⟩ <;> rcases h1 with ⟨rfl, rfl⟩ | ⟨kd', rfl⟩ <;> simp [Instr.sliceBound, asIntOf, c1, c2]

theorem rows_sub {b off sz l n : Nat} {ys : List (List D)} (h : RowsAt w G.be G.st b off sz ys) (hl : l + n ≤ ys.length) : RowsAt w G.be G.st b (off + l * sz) sz ((ys.drop l).take n) := by
  refine ⟨fun r hr => h.1 r (List.mem_of_mem_drop (List.mem_of_mem_take hr)), fun j c' r d hr hd => ?_⟩
  have hj : j < n := by
    have := (List.getElem?_eq_some_iff.1 hr).1
    simp at this; omega
  rw [List.getElem?_take_of_lt hj, List.getElem?_drop] at hr
  obtain ⟨u, hu, hi⟩ := h.2 _ c' r d hr hd
  refine ⟨u, ?_, hi⟩
  rw [← hu]
  congr 2
  rw [Nat.add_mul]
  omega

theorem bnd_conv (y : Option Operand) (k dflt : Nat) (hy : (y = none ∧ k = dflt) ∨ ∃ z kd, y = some z ∧ a.eval z = .int kd k) : (y.map a.eval = none ∧ k = dflt) ∨ ∃ kd, y.map a.eval = some (.int kd (k : Int)) := by
  rcases hy with ⟨rfl, e⟩ | ⟨z, kd, rfl, e⟩
  · exact .inl ⟨rfl, e⟩
  · exact .inr ⟨kd, by simp [e]⟩

theorem op_slice_str (H : LyOK P L) (h : Rel X G s a w) (hn : c.n = X.n) {o : Oper} {t : Nat} {x : Operand} {lo hi : Option Operand} (ho : o.op = .slice t x lo hi none) (hk : L.tk t = .str) (hs : sliceStrD c s o.dst x lo hi = some s') : Yd2 P c X G o s a w s' := by
  unfold sliceStrD at hs
  split at hs
  · rename_i b hx
    split at hs
    · rename_i hh hhi
      split at hs
      · rename_i ll hlo
        have e1 := inv_str (lookO_vt h hx (.air 0) rfl)
        obtain ⟨q1, q2⟩ := bndD_run h hhi
        obtain ⟨q3, q4⟩ := bndD_run h hlo
        have hu := H.str hk
        refine Yd2.put ?_ hs 0 (.str _)
        have hb := run_bounds (P := P) (w := w) false b.size b.size ll hh (lo.map a.eval) (hi.map a.eval) (Nat.le_refl _) q3 q1 (bnd_conv _ _ _ q4) (bnd_conv _ _ _ q2)
        simp [execOp, ho, e1, Instr.sliceAt, Instr.slice, run_underlying hu, hb]
      · cases hs
    · cases hs
  · cases hs

noncomputable def Gh.sp (G : Gh) (p : Place) (x : Nat × Nat) : Gh := { G with pl := fun q => if q = p then x else G.pl q }
theorem Rel.sp (h : Rel X G s a w) {n : Nat} (i j : Nat) (x : Nat × Nat) : Rel X (G.sp ⟨.air n, i, j⟩ x) s a w := by
  have K : Keeps w G s.m w (G.sp ⟨.air n, i, j⟩ x) s.m (fun p => p.r ≠ .air n) :=
    { be := fun _ _ h => h, st := fun _ _ h => h, cell := fun _ _ _ _ _ => rfl, ep := Nat.le_refl _, rv := fun _ => Nat.le_refl _, al := fun _ => Nat.le_refl _, era := Nat.le_refl _, rd := fun _ _ _ h => ⟨h, fun _ _ => rfl⟩,
      pl := fun p ha _ => by
        simp only [Gh.sp]
        rw [if_neg]
        intro e
        subst e
        cases ha
      la := fun _ _ => rfl, own := fun _ _ _ h => ⟨h, rfl, fun _ => ⟨rfl, rfl⟩⟩
      opl := fun p hp => by
        simp only [Gh.sp]
        rw [if_neg]
        intro e
        subst e
        exact hp rfl
      mp := fun _ k b es clock hb hh => ⟨es, clock, hh, fun i x hx => ⟨x, hx, rfl⟩⟩ }
  exact h.re (fun b hb => rfl) rfl rfl (fun b e he => .inl he) h.stow h.std (fun u e hu => K.vt (fun i q j c _ _ _ => by simp) (h.env u e hu)) (fun u cs hu => ⟨⟨cs, hu⟩, h.locK K (fun t j => by simp) hu⟩) rfl rfl (fun k o b hk hb => h.stoK K (fun t j => by simp) hk hb)

theorem run_sliceAt (H : LyOK P L) {t e : Nat} (hk : L.tk t = .slice e) (he : 0 < L.size e) {A : Option Addr} {len cap l hh : Nat} {lo hi : Option Value} (hb : (Instr.sliceBounds true len cap lo hi none).run P w = .ok (l, hh, cap) w) :
    (Instr.sliceAt t (.slice A len cap) lo hi none).run P w = .ok (.slice (if cap = l then A else A.map (·.add (l * L.size e))) (hh - l) (cap - l)) w := by
  have hu := H.slice hk
  simp [Instr.sliceAt, Instr.slice, run_underlying hu, hb, H.sizeOf he w]

theorem op_slice_ls (H : LyOK P L) (h : Rel X G s a w) (hn : c.n = X.n) {o : Oper} {t e : Nat} {x : Operand} {lo hi : Option Operand} (ho : o.op = .slice t x lo hi none) (hk : L.tk t = .slice e) (hs : sliceLsD L c s o.dst e x lo hi = some s') : Yd2 P c X G o s a w s' := by
  unfold sliceLsD at hs
  split at hs
  · rename_i q xs hx
    split at hs
    · cases hs
    · rename_i ys hls
      rw [Option.ite_none_right_eq_some] at hs
      obtain ⟨⟨he, hal⟩, hs⟩ := hs
      split at hs
      · rename_i hh hhi
        split at hs
        · rename_i ll hlo
          obtain ⟨q1, q2⟩ := bndD_run h hhi
          obtain ⟨q3, q4⟩ := bndD_run h hlo
          obtain ⟨r, hv⟩ := lookO_any h hx
          obtain ⟨A, cap, e1, hor⟩ := lsD_rel h hv hls
          have hcap : ys.length ≤ cap ∨ ys = [] := by
            rcases hor with rfl | ⟨_, _, _, _, _, h5, _⟩
            · exact .inr rfl
            · exact .inl h5
          have hlen : ys.length ≤ cap := by
            rcases hcap with h5 | h5
            · exact h5
            · rw [h5]; exact Nat.zero_le _
          have hb := run_bounds (P := P) (w := w) true ys.length cap ll hh (lo.map a.eval) (hi.map a.eval) hlen q3 q1 (bnd_conv _ _ _ q4) (bnd_conv _ _ _ q2)
          have hr : (execOp a.eval o).run P w = .ok (.value (.slice (if cap = ll then A else A.map (·.add (ll * L.size e))) (hh - ll) (cap - ll))) w := by
            simp only [execOp, ho, e1]
            rw [Sem.run_bind]
            simp only [Option.map_none]
            rw [run_sliceAt H hk he hb]
            rfl
          have hzl : ((ys.drop ll).take (hh - ll)).length = hh - ll := by simp; omega
          -- what the cut reads as
          have cut : ∀ {b off sz}, ys ≠ [] → RowsAt w G.be G.st b off sz ys → sz = L.size e := by
            intro b off sz hne hrow
            obtain ⟨r0, hr0⟩ := List.exists_mem_of_ne_nil ys hne
            rw [← hrow.1 r0 hr0]
            have := List.all_eq_true.1 hal r0 hr0
            simpa using this
          by_cases hz : hh - ll = 0
          · have hz0 : (ys.drop ll).take (hh - ll) = [] := List.eq_nil_of_length_eq_zero (by rw [hzl, hz])
            rw [hz0] at hs
            rw [hz] at hr
            split at hs
            · exact Yd2.put hr hs 0 (.nils _ _)
            · exact Yd2.put hr hs 0 ⟨_, _, rfl, Nat.le_refl _, fun _ => .inl rfl, fun _ _ h => (nomatch h)⟩
            · split at hs
              · rename_i d1 s1 ht
                obtain ⟨G1, h1, h2, _⟩ := takeO_rel h ht 0
                have : decide (ll < hh) = false := by simp; omega
                rw [this, Bool.and_false] at hs
                simp only [Bool.false_eq_true, if_false] at hs
                exact Yd2.tk (.own (by rw [ho]; simp [Op.operands]) hx rfl (by rw [ho]; rfl)) h1 hr hs 0 (.nils _ _)
              · cases hs
          · have hne : ys ≠ [] := by intro h0; rw [h0] at q1; simp at q1; omega
            rcases hor with h0 | ⟨b, off, sz, rfl, hsz, h5, hrd, hrow⟩
            · exact absurd h0 hne
            have hszE := cut hne hrow
            subst hszE
            have hcl : cap ≠ ll := by omega
            rw [if_neg hcl] at hr
            simp only [Option.map_some, add_none] at hr
            have hrow' : RowsAt w G.be G.st b (off + ll * L.size e) (L.size e) ((ys.drop ll).take (hh - ll)) := rows_sub hrow (by omega)
            have hend : off + ll * L.size e + (hh - ll) * L.size e ≤ off + ys.length * L.size e := by
              have : (ll + (hh - ll)) * L.size e ≤ ys.length * L.size e := Nat.mul_le_mul_right _ (by omega)
              rw [Nat.add_mul] at this
              omega
            split at hs
            · simp only [lsD] at hls
              cases hls
              rw [e1] at hv
              rcases imm_list.1 (hv : Imm _ _ _ _ _) with ⟨rfl, _⟩ | ⟨b', off', cap', sz', e2, p1, p2, p3, p4, p5⟩
              · exact absurd rfl hne
              · cases e2
                have : sz' = L.size e := by
                  obtain ⟨r0, hr0⟩ := List.exists_mem_of_ne_nil xs hne
                  rw [← p5.1 r0 hr0, hrow.1 r0 hr0]
                subst this
                refine Yd2.put hr hs 0 (imm_list.2 (.inr ⟨b, _, _, L.size e, by rw [hzl], by rw [hzl]; omega, hsz, by rw [hzl]; omega, ?_, hrow'⟩))
                rw [hzl]
                exact h.std _ _ _ p4 hend
            · refine Yd2.put hr hs 0 ⟨_, _, by rw [hzl], Nat.le_refl _, fun _ => .inr ⟨b, _, L.size e, rfl, hsz, by rw [hzl]; omega, ?_, hrow'⟩, fun _ _ h => (nomatch h)⟩
              rw [hzl]
              exact rd_down h hrd hend
            · rename_i sz0
              split at hs
              · rename_i d1 s1 ht
                obtain ⟨G1, h1, h2, K, _⟩ := takeO_rel h ht 0
                have hd1 : d1 = .list (.own sz0) xs := by
                  cases x with
                  | tmp y =>
                    simp only [takeO] at ht
                    have hx' : lk y s.env = some (.list (.own sz0) xs) := hx
                    rw [hx'] at ht
                    simp [hasOwn, anyTop, anyAt, isOwn] at ht
                    exact ht.1.symm
                  | const v => simp only [takeO, hx] at ht; cases ht; rfl
                  | func f => cases hx
                  | global g => cases hx
                subst hd1
                simp only [lsD] at hls
                cases hls
                have h2' : OwnL w G1 ⟨.air 0, 0, 0⟩ sz0 xs (a.eval x) := h2
                rcases h2' with ⟨h0, _⟩ | ⟨hz', b', off', cap', e2, p1, p2, p3, p4, p5, p6⟩
                · exact absurd h0 hne
                rw [e1] at e2
                cases e2
                have hsz0 : sz0 = L.size e := by
                  obtain ⟨r0, hr0⟩ := List.exists_mem_of_ne_nil xs hne
                  rw [← p6.1 r0 hr0, hrow.1 r0 hr0]
                subst hsz0
                have hrow1 : RowsAt w G1.be G1.st b (off + ll * L.size e) (L.size e) ((xs.drop ll).take (hh - ll)) := rows_sub p6 (by omega)
                split at hs
                · rename_i hc
                  simp only [Bool.and_eq_true, beq_iff_eq, decide_eq_true_eq] at hc
                  obtain ⟨⟨_, hhl⟩, hlt⟩ := hc
                  have h3 := h1.sp (n := 0) 0 0 (b, off + ll * L.size e)
                  refine Yd2.tk (.own (by rw [ho]; simp [Op.operands]) hx rfl (by rw [ho]; rfl)) h3 hr hs 0 (.inr ⟨hsz, b, off + ll * L.size e, cap - ll, by rw [hzl], by rw [hzl]; omega, p2, ?_, by simp [Gh.sp], fun i hi => ?_, hrow1⟩)
                  · show G1.fin b = _
                    rw [p3, hzl, hhl]
                    have : xs.length = ll + (xs.length - ll) := by omega
                    conv => lhs; rw [this]
                    rw [Nat.add_mul]
                    omega
                  · have hi' : ll * L.size e + i < cap * L.size e := by
                      have : (ll + (cap - ll)) * L.size e ≤ cap * L.size e := Nat.mul_le_mul_right _ (by omega)
                      rw [Nat.add_mul] at this
                      omega
                    have := p5 _ hi'
                    rw [← Nat.add_assoc] at this
                    exact this
                · obtain ⟨h3, K3⟩ := h1.freeze 0
                  have hrow3 : RowsAt w (G1.fr (.air 0)).be (G1.fr (.air 0)).st b (off + ll * L.size e) (L.size e) ((xs.drop ll).take (hh - ll)) := hrow1.mono K3.be K3.st K3.cell fun _ _ => rfl
                  refine Yd2.tk (.own (by rw [ho]; simp [Op.operands]) hx rfl (by rw [ho]; rfl)) h3 hr hs 0 (imm_list.2 (.inr ⟨b, _, _, L.size e, by rw [hzl], by rw [hzl]; omega, hsz, by rw [hzl]; omega, ?_, hrow3⟩))
                  rw [hzl]
                  exact .inr ⟨⟨_, p2, rfl⟩, by rw [p3]; exact hend⟩
              · cases hs
        · cases hs
      · cases hs
  · cases hs

theorem op_slice (H : LyOK P L) (h : Rel X G s a w) (hn : c.n = X.n) {o : Oper} {t : Nat} {x : Operand} {lo hi mx : Option Operand} (ho : o.op = .slice t x lo hi mx) (hs : opD L c X.ro s o = some s') : Yd2 P c X G o s a w s' := by
  simp only [opD, ho] at hs
  split at hs
  · rename_i e hk
    exact op_slice_ls H h hn ho hk hs
  · rename_i hk
    exact op_slice_str H h hn ho hk hs
  · cases hs

theorem op_makeFunc (h : Rel X G s a w) (hn : c.n = X.n) {o : Oper} {f : Fn} {first caps : Array Operand} (ho : o.op = .makeFunc f first caps) (hs : opD L c X.ro s o = some s') : Yd2 P c X G o s a w s' := by
  have key : ∀ (xs : List Operand) (ds : List D), lookL s xs = some ds → ds.all rowC = true → ds.length = (xs.map a.eval).length ∧ ∀ (i : Nat) (d : D) (v : Value), ds[i]? = some d → (xs.map a.eval)[i]? = some v → Imm w G.be G.st d v := by
    intro xs
    induction xs with
    | nil =>
      intro ds hds _
      simp [lookL] at hds
      subst hds
      exact ⟨rfl, fun i d v h => by simp at h⟩
    | cons x r ih =>
      intro ds hds hr
      simp only [lookL] at hds
      split at hds
      · rename_i d ds' h1 h2
        cases hds
        simp only [List.all_cons, Bool.and_eq_true] at hr
        obtain ⟨h3, h4⟩ := ih ds' h2 hr.2
        refine ⟨by simp [h3], fun i d' v hd hv => ?_⟩
        cases i with
        | zero =>
          simp at hd hv
          subst hd; subst hv
          have h5 := lookO_vt h h1 (.air 0) (by cases d with
            | list q xs => cases q <;> first | rfl | simp [rowC] at hr
            | _ => first | rfl | simp [rowC] at hr)
          cases d with
          | list q xs => cases q <;> first | exact h5 | simp [rowC] at hr
          | _ => first | exact h5 | simp [rowC] at hr
        | succ i => simp at hd hv; exact h4 i d' v hd (by simpa using hv)
      · cases hds
  cases f with
  | func fid =>
    simp only [opD, ho] at hs
    rw [Option.ite_none_right_eq_some] at hs
    obtain ⟨hf, hs⟩ := hs
    split at hs
    · rename_i ds hds
      rw [Option.ite_none_right_eq_some] at hs
      obtain ⟨hrc, hs⟩ := hs
      obtain ⟨h1, h2⟩ := key _ _ hds hrc
      have e : first = #[] := Array.eq_empty_of_size_eq_zero hf
      refine Yd2.put (v := .func (.func fid) #[] (caps.toList.map a.eval).toArray) ?_ hs 0 (.fn _ _ _ h1 h2)
      simp [execOp, ho, Instr.makeFunc, e]
      rw [← Array.toList_map]
    · cases hs
  | _ => simp [opD, ho] at hs

theorem nums_of {b off : Nat} : ∀ (ys : List (List D)) (l : List UInt8), rowsBytes ys = some l → ∀ (o : Nat), (∀ r, r ∈ ys → r.length = 1) →
    (∀ (j c' : Nat) (r : List D) (d : D), ys[j]? = some r → r[c']? = some d → ∃ v, w.cell? ⟨b, o + (j * 1 + c'), none⟩ = some v ∧ Imm w G.be G.st d v) →
    ∃ ns : List Int, ns.length = ys.length ∧ (∀ j, j < ns.length → w.cell? ⟨b, o + j, none⟩ = some (.int .u8 (ns.getD j 0))) ∧ l = ns.map fun n => UInt8.ofNat n.toNat
  | [], l, hl, o, _, _ => by
    simp [rowsBytes] at hl
    subst hl
    exact ⟨[], rfl, fun j hj => by simp at hj, rfl⟩
  | r :: ys, l, hl, o, h1, h2 => by
    match r, hl with
    | [.int .u8 n], hl =>
      simp only [rowsBytes] at hl
      obtain ⟨l', hl', rfl⟩ := Option.map_eq_some_iff.1 hl
      obtain ⟨ns, q1, q2, q3⟩ := nums_of (b := b) (off := off) ys l' hl' (o + 1) (fun r hr => h1 r (by simp [hr])) (fun j c' r d hr hd => by
        obtain ⟨v, hv, hi⟩ := h2 (j + 1) c' r d (by simpa using hr) hd
        refine ⟨v, ?_, hi⟩
        rw [← hv]
        congr 2
        omega)
      refine ⟨n :: ns, by simp [q1], fun j hj => ?_, by simp [q3]⟩
      cases j with
      | zero =>
        obtain ⟨v, hv, hi⟩ := h2 0 0 _ _ rfl rfl
        cases hi
        simpa using hv
      | succ j =>
        have := q2 j (by simpa using hj)
        rw [show o + (j + 1) = o + 1 + j by omega]
        simpa using this

theorem op_convert_num (H : LyOK P L) (h : Rel X G s a w) (hn : c.n = X.n) {o : Oper} {t u : Nat} {x : Operand} (ho : o.op = .convert t u x) (hs : opD L c X.ro s o = some s') (hnew : ∀ b, L.tk t = .str → lookO s x = some (.str b) → L.tk u = .str) : Yd2 P c X G o s a w s' := by
  simp only [opD, ho] at hs
  unfold convertD at hs
  split at hs
  · rename_i k0 k kd n hk0 hk hx
    have hd := H.int hk0
    have e1 := inv_int (lookO_vt h hx (.air 0) rfl)
    have hu := H.int hk
    refine Yd2.put ?_ hs 0 (.int _ _)
    simp [execOp, ho, e1, convert, run_underlying hu, run_underlying hd, Conv.intToInt]
  · rename_i b hk1 hk2 hx
    have e1 := inv_str (lookO_vt h hx (.air 0) rfl)
    have h1 := H.str hk1
    have h2 := H.str hk2
    refine Yd2.put ?_ hs 0 (.str _)
    simp [execOp, ho, e1, convert, run_underlying h1, run_underlying h2]
  · rename_i e d hk1 hk2 hx
    split at hs
    · rename_i ys hke hls
      split at hs
      · rename_i l hl
        obtain ⟨r, hv⟩ := lookO_any h hx
        obtain ⟨A, cap, e1, hor⟩ := lsD_rel h hv hls
        have h1 := H.slice hk1
        have h2 := H.str hk2
        have h3 := H.int hke
        refine Yd2.put ?_ hs 0 (.str _)
        rcases hor with rfl | ⟨b, off, sz, rfl, hz, hc, hrd, hrow⟩
        · simp [rowsBytes] at hl
          subst hl
          simp only [execOp, ho, e1, List.length_nil]
          rw [Sem.run_bind, run_convert_bytes_string w t u e A 0 cap h1 h3 h2]
          cases A with
          | none => simp [Conv.bytesToString]; rfl
          | some ad => simp [Conv.bytesToString, loadCells, loadCellsFrom]; rfl
        · have hsz : sz = 1 ∨ ys = [] := by
            cases ys with
            | nil => exact .inr rfl
            | cons r ys =>
              refine .inl ?_
              rw [← hrow.1 r (by simp)]
              match r, hl with
              | [.int .u8 n], _ => rfl
          rcases hsz with rfl | rfl
          · obtain ⟨ns, q1, q2, q3⟩ := nums_of (w := w) (G := G) (b := b) (off := off) ys l hl off hrow.1 hrow.2
            simp only [execOp, ho, e1]
            rw [Sem.run_bind, run_convert_bytes_arg w t e h1 h3 b off ys.length cap ns q1 (fun i hi => q2 i (by omega)) u h2]
            subst q3
            rfl
          · simp [rowsBytes] at hl
            subst hl
            simp only [execOp, ho, e1, List.length_nil]
            rw [Sem.run_bind, run_convert_bytes_string w t u e _ 0 cap h1 h3 h2]
            simp [Conv.bytesToString, loadCells, loadCellsFrom]
            rfl
      · cases hs
    · cases hs
  · rename_i e b hk1 hk2 hx
    have := hnew b hk1 hx
    rw [this] at hk2
    cases hk2
  · cases hs
end

end Go.Lv

namespace Go.Lv

section
variable {P : Program} {L : Ly} {X : Ctx} {G : Gh} {s s' : DS} {a : Act} {w : World} {c : FC}

theorem toV_vt {m : Mt} {r : Root} {d : D} {v : Value} (h : toV d = some v) : VT w G m r d v := by
  have key : ∀ {d v}, toV1 d = some v → VT w G m r d v := by
    intro d v h
    cases d <;> simp [toV1] at h <;> subst h
    · exact .int _ _
    · exact .bool _
    · exact .str _
  cases d with
  | agg cs =>
    simp only [toV] at h
    obtain ⟨vs, hvs, rfl⟩ := Option.map_eq_some_iff.1 h
    obtain ⟨h1, h2⟩ := toVL_get hvs
    exact ⟨vs, rfl, h1, fun j d u hd hu => toV1_vc (h2 j d u hd hu)⟩
  | _ => exact key h
theorem vt_toV {m : Mt} {r : Root} {d : D} {v : Value} (hk : keyC d = true) (h : VT w G m r d v) : toV d = some v := by
  cases d with
  | agg cs =>
    obtain ⟨vs, rfl, h1⟩ := agg_toVL (by simpa [keyC] using hk) h
    simp [toV, h1]
  | int => rw [inv_int h]; rfl
  | bool => rw [inv_bool h]; rfl
  | str => rw [inv_str h]; rfl
  | _ => simp [keyC, sclC] at hk
theorem keyT_keyC {t : Nat} {d : D} (h : keyT L t d = true) : keyC d = true ∧ hasOwn d = false := by
  have key : ∀ cs : List D, cs.all sclC = true → hasOwn (.agg cs) = false := by
    intro cs hc
    refine List.any_eq_false.2 fun x hx => ?_
    have := List.all_eq_true.1 hc x hx
    cases x <;> simp [sclC, isOwn] at *
  unfold keyT at h
  split at h
  · exact ⟨rfl, rfl⟩
  · exact ⟨rfl, rfl⟩
  · exact ⟨rfl, rfl⟩
  · simp only [Bool.and_eq_true] at h
    exact ⟨h.2, key _ h.2⟩
  · cases h
theorem keyC_noOwn {d : D} (h : keyC d = true) : hasOwn d = false := by
  cases d with
  | agg cs =>
    refine List.any_eq_false.2 fun x hx => ?_
    have := List.all_eq_true.1 (by simpa [keyC] using h) x hx
    cases x <;> simp [sclC, isOwn] at *
  | int => rfl
  | bool => rfl
  | str => rfl
  | _ => simp [keyC, sclC] at h

theorem run_key (H : LyOK P L) {t : Nat} {x y : D} {v u : Value} {q : Bool} (h : eqD L t x y = some q) (hkx : keyT L t x = true) (hx : toV x = some v) (hy : toV y = some u) :
    (Op.equal t v u).run P w = .ok q w ∧ ∀ k, P.underlying t = some k → (Instr.sameNow k v u = some q ∨ Instr.sameNow k v u = none ∧ ∃ cs, x = .agg cs) := by
  obtain ⟨h1, h2⟩ := run_eqD (w := w) (G := ⟨fun _ => none, fun _ => 0, fun _ => none, fun _ => 0, fun _ _ => False, fun _ => (0, 0)⟩) (m := ⟨⟨[]⟩, ⟨[]⟩, ⟨[]⟩, 0, 0, 0⟩) (r := .air 0) (r' := .air 0) H h (toV_vt hx) (toV_vt hy)
  refine ⟨h1, fun k hk => ?_⟩
  unfold eqD at h
  split at h
  · rename_i hkk
    rw [Option.ite_none_right_eq_some] at h
    obtain ⟨rfl, h⟩ := h
    cases h
    have := H.int hkk
    rw [hk] at this
    cases this
    simp [toV, toV1] at hx hy
    subst hx; subst hy
    left
    simp [Instr.sameNow]
    try rfl
  · rename_i hkk
    cases h
    have := H.str hkk
    rw [hk] at this
    cases this
    simp [toV, toV1] at hx hy
    subst hx; subst hy
    left
    simp only [Instr.sameNow]
    rw [beq_toListBytes, ba_beq]
  · rename_i hkk
    cases h
    have := H.bool hkk
    rw [hk] at this
    cases this
    simp [toV, toV1] at hx hy
    subst hx; subst hy
    left
    simp [Instr.sameNow]
  · simp [toV, toV1] at hx
  · simp [toV, toV1] at hx
  · simp [toV, toV1] at hy
  · rw [Option.ite_none_right_eq_some] at h
    simp only [toV] at hx hy
    obtain ⟨vs, _, rfl⟩ := Option.map_eq_some_iff.1 hx
    obtain ⟨us, _, rfl⟩ := Option.map_eq_some_iff.1 hy
    right
    exact ⟨by cases k <;> rfl, _, rfl⟩
  · cases h

theorem run_checkKey (H : LyOK P L) {t : Nat} {x : D} {v : Value} (hk : keyT L t x = true) (hx : toV x = some v) (e : Bool) : (Instr.checkKey e 10000 t v).run P w = .ok () w := by
  have plain : ∀ u, P.underlying t = some u → (∀ ms, u ≠ .interface ms) → (∀ n e, u ≠ .array n e) → (∀ fs, u ≠ .struct fs) → (Instr.checkKey e (9999 + 1) t v).run P w = .ok () w := by
    intro u hu h1 h2 h3
    unfold Instr.checkKey
    simp only [Sem.run_bind, run_underlying hu, Result.andThen_ok]
    split <;> first | rfl | exact absurd rfl (h1 _) | exact absurd rfl (h2 _ _) | exact absurd rfl (h3 _)
  unfold keyT at hk
  split at hk
  · rename_i hkk
    exact plain _ (H.int hkk) (by simp) (by simp) (by simp)
  · rename_i hkk
    exact plain _ (H.str hkk) (by simp) (by simp) (by simp)
  · rename_i hkk
    exact plain _ (H.bool hkk) (by simp) (by simp) (by simp)
  · rename_i fs cs hkk
    simp only [Bool.and_eq_true, beq_iff_eq] at hk
    simp only [toV] at hx
    obtain ⟨vs, hvs, rfl⟩ := Option.map_eq_some_iff.1 hx
    have hr : ∃ r, eqL cs cs = some r := by
      have hs := hk.2
      clear hvs hk hx plain
      induction cs with
      | nil => exact ⟨_, rfl⟩
      | cons c cs ih =>
        simp only [List.all_cons, Bool.and_eq_true] at hs
        obtain ⟨r, hr⟩ := ih hs.2
        have : ∃ q, eqS c c = some q := by cases c <;> simp [sclC, eqS] at *
        obtain ⟨q, hq⟩ := this
        exact ⟨q && r, by simp [eqL, hq, hr]⟩
    obtain ⟨r, hr⟩ := hr
    exact (H.eqT hk.1.1 w cs cs vs vs r hk.1.2 hk.1.2 hvs hvs hr).2.2 e
  · cases hk

noncomputable def fndR (r : Option D) (x : Option (Nat × Value)) : Option (Nat × Value) := if r.isSome then x else none
theorem run_find (H : LyOK P L) {t : Nat} {key : D} {kv : Value} (hk : keyT L t key = true) (hv : toV key = some kv) :
    ∀ (es : List (D × D)) (arr : List MapEntry) (n : Nat) (r : Option D), arr.length = es.length → (∀ (i : Nat) (x : D × D) (e : MapEntry), es[i]? = some x → arr[i]? = some e → toV x.1 = some e.key ∧ toV x.2 = some e.val) → findE L t key es = some r →
      ((∀ cs, key ≠ .agg cs) → ∀ u, P.underlying t = some u → Instr.findNow u kv arr n = some (fndR r ((arr[nrE L t key es]?).map fun e => (n + nrE L t key es, e.val)))) ∧
      (Instr.findAsking t kv arr n).run P w = .ok (fndR r ((arr[nrE L t key es]?).map fun e => (n + nrE L t key es, e.val))) w ∧
      (∀ d, r = some d → ∃ x, es[nrE L t key es]? = some x ∧ x.2 = d) ∧ (r = none → nrE L t key es = es.length)
  | [], [], n, r, _, _, hf => by
    simp [findE] at hf
    subst hf
    exact ⟨fun _ u hu => rfl, rfl, fun d h => (nomatch h), fun _ => rfl⟩
  | [], _ :: _, _, _, h, _, _ => by simp at h
  | _ :: _, [], _, _, h, _, _ => by simp at h
  | x :: es, e :: arr, n, r, hl, he, hf => by
    obtain ⟨k1, k2⟩ := he 0 x e rfl rfl
    simp only [findE] at hf
    split at hf
    · rename_i hq
      cases hf
      obtain ⟨q1, q2⟩ := run_key (w := w) H hq hk hv k1
      have hn : nrE L t key (x :: es) = 0 := by simp [nrE, hq]
      rw [hn]
      refine ⟨fun hna u hu => ?_, ?_, fun d hd => ⟨x, rfl, by cases hd; rfl⟩, fun h => (nomatch h)⟩
      · rcases q2 u hu with q3 | ⟨_, cs, q4⟩
        · simp [Instr.findNow, q3, fndR]
        · exact absurd q4 (hna cs)
      · simp [Instr.findAsking, q1, fndR]
    · rename_i hq
      obtain ⟨q1, q2⟩ := run_key (w := w) H hq hk hv k1
      have hn : nrE L t key (x :: es) = nrE L t key es + 1 := by simp [nrE, hq]
      obtain ⟨i1, i2, i3, i4⟩ := run_find H hk hv es arr (n + 1) r (by simpa using hl) (fun i x' e' hx' he' => he (i + 1) x' e' (by simpa using hx') (by simpa using he')) hf
      rw [hn]
      have e1 : n + 1 + nrE L t key es = n + (nrE L t key es + 1) := by omega
      refine ⟨fun hna u hu => ?_, ?_, fun d hd => ?_, fun h => ?_⟩
      · rcases q2 u hu with q3 | ⟨_, cs, q4⟩
        · simp only [Instr.findNow, q3]
          rw [i1 hna u hu, e1]
          simp
        · exact absurd q4 (hna cs)
      · simp only [Instr.findAsking, Sem.run_bind, q1, Result.andThen_ok, Bool.false_eq_true, if_false]
        rw [i2, e1]
        simp
      · obtain ⟨x', hx', e2⟩ := i3 d hd
        exact ⟨x', by simpa using hx', e2⟩
      · simp [i4 h]
    · cases hf

theorem run_findKey (H : LyOK P L) {t : Nat} {key : D} {kv : Value} (hk : keyT L t key = true) (hv : toV key = some kv) {es : List (D × D)} {arr : List MapEntry} {r : Option D} (hl : arr.length = es.length) (he : ∀ (i : Nat) (x : D × D) (e : MapEntry), es[i]? = some x → arr[i]? = some e → toV x.1 = some e.key ∧ toV x.2 = some e.val) (hf : findE L t key es = some r) :
    (Instr.findKey t kv arr).run P w = .ok (fndR r ((arr[nrE L t key es]?).map fun e => (nrE L t key es, e.val))) w ∧ (∀ d, r = some d → ∃ x, es[nrE L t key es]? = some x ∧ x.2 = d) ∧ (r = none → nrE L t key es = es.length) := by
  obtain ⟨i1, i2, i3, i4⟩ := run_find (w := w) H hk hv es arr 0 r hl he hf
  simp only [Nat.zero_add] at i1 i2
  refine ⟨?_, i3, i4⟩
  have hu : ∃ u, P.underlying t = some u := by
    unfold keyT at hk
    split at hk
    · rename_i h; exact ⟨_, H.int h⟩
    · rename_i h; exact ⟨_, H.str h⟩
    · rename_i h; exact ⟨_, H.bool h⟩
    · rename_i h; obtain ⟨gs, h, _⟩ := H.struct h; exact ⟨_, h⟩
    · cases hk
  obtain ⟨u, hu⟩ := hu
  unfold Instr.findKey
  simp only [Sem.run_bind, run_underlying hu, Result.andThen_ok]
  by_cases hag : ∃ cs, key = .agg cs
  · obtain ⟨cs, rfl⟩ := hag
    have hno : ∀ (es : List MapEntry) n, Instr.findNow u kv es n = some none ∧ es = [] ∨ Instr.findNow u kv es n = none := by
      intro es n
      cases es with
      | nil => exact .inl ⟨rfl, rfl⟩
      | cons e es =>
        right
        simp only [toV] at hv
        obtain ⟨vs, _, rfl⟩ := Option.map_eq_some_iff.1 hv
        have : Instr.sameNow u (.agg vs.toArray) e.key = none := by cases u <;> rfl
        simp [Instr.findNow, this]
    rcases hno arr 0 with ⟨h1, rfl⟩ | h1
    · have : es = [] := List.eq_nil_of_length_eq_zero (by simpa using hl.symm)
      subst this
      simp [findE] at hf
      subst hf
      rw [h1]
      rfl
    · rw [h1]
      exact i2
  · rw [i1 (fun cs h => hag ⟨cs, h⟩) u hu]
    rfl

theorem zero_vt (H : LyOK P L) {e : Nat} {z : D} (hz : zeroD L e = some z) (m : Mt) (r : Root) : ∃ zv, (zeroValue e).run P w = .ok zv w ∧ VT w G m r z zv ∧ (keyC z = true → toV z = some zv) ∧ ∀ ds, z ≠ .tup ds := by
  unfold zeroD at hz
  split at hz
  · rename_i cs hcs
    obtain ⟨zv, h1, h2, h3, h4⟩ := H.zero hcs w
    obtain ⟨h5, h6⟩ := dOfL_get h2
    have hv : VT w G m r z zv ∧ ∀ ds, z ≠ .tup ds := by
      have hof := hz
      unfold ofCells at hz
      rw [Option.ite_none_right_eq_some] at hz
      obtain ⟨_, hz⟩ := hz
      split at hz
      · rename_i ha
        cases hz
        rw [if_pos ha] at h4
        obtain ⟨zs, rfl⟩ := h4
        exact ⟨⟨zs.toList, by simp, h5, fun j d u hd hu => dOf1_imm (h6 j d u hd hu)⟩, fun ds h => (nomatch h)⟩
      · rename_i ha
        rw [if_neg ha] at h4
        split at hz
        · cases hz
          have hc : zv.cells.toList = [zv] := by cases zv <;> first | rfl | exact absurd rfl (h4 _)
          rw [hc] at h6
          have h7 := dOf1_imm (w := w) (G := G) (m := m) (p := ⟨r, 0, 0⟩) (h6 0 _ _ rfl rfl)
          refine ⟨?_, h7.plain.2⟩
          rw [VT_part h7.plain.2, VP_cell h7.plain.1]
          exact h7
        · cases hz
    exact ⟨zv, h1, hv.1, fun hk => vt_toV hk hv.1, hv.2⟩
  · cases hz

theorem mapEs_rel (h : Rel X G s a w) {x : Operand} {d : D} {es : List (D × D)} (hx : lookO s x = some d) (he : mapEs s d = some es) :
    (a.eval x = .map none ∧ es = []) ∨ ∃ k b, d = .map k ∧ a.eval x = .map (some b) ∧ G.be k = some b ∧ MapV w b es := by
  unfold mapEs at he
  split at he
  · cases he
    exact .inl ⟨inv_nilmap (lookO_vt h hx (.air 0) rfl), rfl⟩
  · rename_i k
    split at he
    · rename_i es' hk
      cases he
      obtain ⟨b, hb, hv⟩ := inv_map (lookO_vt h hx (.air 0) rfl)
      obtain ⟨b', hb', _, _, hm⟩ := h.sto k _ hk
      rw [hb] at hb'
      cases hb'
      exact .inr ⟨k, b, rfl, hv, hb, hm⟩
    · cases he
  · cases he

theorem op_lookup (H : LyOK P L) (h : Rel X G s a w) (hn : c.n = X.n) {o : Oper} {t : Nat} {x y : Operand} {ok : Bool} (ho : o.op = .lookup t x y ok) (hs : opD L c X.ro s o = some s') : Yd2 P c X G o s a w s' := by
  simp only [opD, ho] at hs
  split at hs
  · rename_i d1 d2 h1 h2
    unfold lookupD at hs
    split at hs
    · rename_i kt e es hk hes
      rw [Option.ite_none_right_eq_some] at hs
      obtain ⟨hkt, hs⟩ := hs
      split at hs
      · rename_i r z hf hz
        have hu := H.map hk
        obtain ⟨hkc, hno⟩ := keyT_keyC hkt
        have hkv : toV d2 = some (a.eval y) := vt_toV hkc (lookO_vt h h2 (.air 0) hno)
        obtain ⟨zv, z1, z2, _, hzt⟩ := zero_vt (w := w) (G := G) H hz s.m (.air 0)
        have hrun : ∃ vv, (execOp a.eval o).run P w = .ok (.value (if ok then .tuple #[vv, .bool r.isSome] else vv)) w ∧ VT w G s.m (.air 0) (r.getD z) vv ∧ (∀ ds, r.getD z ≠ .tup ds) := by
          rcases mapEs_rel h h1 hes with ⟨e1, rfl⟩ | ⟨k, b, rfl, e1, hb, arr, clock, hh, hal, hent, _⟩
          · simp [findE] at hf
            subst hf
            refine ⟨zv, ?_, z2, hzt⟩
            have hck := run_checkKey (w := w) H hkt hkv true
            have hfk := (run_findKey (w := w) H hkt hkv (es := []) (arr := []) (r := none) rfl (by simp) rfl).1
            simp only [execOp, ho, e1, Instr.lookup, Sem.run_bind, run_underlying hu, Result.andThen_ok, Sem.run_pure]
            simp only [Array.isEmpty_empty, hck, Result.andThen_ok, hfk, z1, Sem.run_bind, Sem.run_pure]
            cases ok <;> simp [fndR, z1]
          · have hck := run_checkKey (w := w) H hkt hkv arr.isEmpty
            obtain ⟨f1, f2, _⟩ := run_findKey (w := w) H hkt hkv (arr := arr.toList) (by simpa using hal) (fun i x' e' hx' he' => by
              obtain ⟨q1, q2, _⟩ := hent i x' e' hx' (by simpa using he')
              exact ⟨q1, q2⟩) hf
            have hg : (getObj b).run P w = .ok (.map arr clock) w := by simp [getObj, Sem.run, hh]
            cases r with
            | none =>
              refine ⟨zv, ?_, z2, hzt⟩
              simp only [execOp, ho, e1, Instr.lookup, Sem.run_bind, run_underlying hu, Result.andThen_ok, Sem.run_pure, hg, hck, f1, z1]
              cases ok <;> simp [fndR, z1]
            | some dv =>
              obtain ⟨x', hx', e2⟩ := f2 dv rfl
              have hi : nrE L kt d2 es < arr.size := by rw [hal]; exact (List.getElem?_eq_some_iff.1 hx').1
              have hent' := hent _ x' arr[nrE L kt d2 es] hx' (by simp [hi])
              refine ⟨arr[nrE L kt d2 es].val, ?_, by rw [← e2] at *; exact toV_vt hent'.2.1, ?_⟩
              · have e3 : arr.toList[nrE L kt d2 es]? = some arr[nrE L kt d2 es] := by simp [hi]
                rw [e3] at f1
                simp only [execOp, ho, e1, Instr.lookup, Sem.run_bind, run_underlying hu, Result.andThen_ok, Sem.run_pure, hg, hck, f1, Option.map_some]
                cases ok <;> simp [fndR, z1]
              · intro ds e4
                simp only [Option.getD_some] at e4
                rw [← e2] at e4
                have := hent'.2.1
                rw [e4] at this
                simp [toV, toV1] at this
        obtain ⟨vv, r1, r2, r3⟩ := hrun
        cases ok with
        | false =>
          simp only [Bool.false_eq_true, if_false] at hs r1
          exact Yd2.put r1 hs 0 r2
        | true =>
          simp only [if_true] at hs r1
          refine Yd2.put r1 hs 0 ⟨[vv, .bool r.isSome], rfl, rfl, fun i d u hd hu' => ?_⟩
          match i, hd, hu' with
          | 0, hd, hu' =>
            simp at hd hu'
            subst hd; subst hu'
            rw [← VT_part r3]
            exact r2
          | 1, hd, hu' =>
            simp at hd hu'
            subst hd; subst hu'
            exact .bool _
          | n + 2, hd, hu' => simp at hd
      · cases hs
    · cases hs
  · cases hs

theorem op_len (H : LyOK P L) (h : Rel X G s a w) (hn : c.n = X.n) {o : Oper} {args : Array Operand} {tys : Array TypeId} (ho : o.op = .call { callee := .builtin .len, args, argTypes := tys }) (hs : opD L c X.ro s o = some s') : Yd2 P c X G o s a w s' := by
  simp only [opD, ho, builtinD] at hs
  unfold lenOp at hs
  split at hs
  · rename_i x t tr hargs htys
    split at hs
    · rename_i d hd
      have e1 : args = #[x] := by rw [← Array.toArray_toList (xs := args), hargs]
      have e2 : tys[0]? = some t := by
        have : tys.toList[0]? = some t := by rw [htys]; rfl
        simpa using this
      obtain ⟨r, hv⟩ := lookO_any h hd
      have hr : ∀ n : Nat, (Builtin.len_ tys o.type #[a.eval x]).run P w = .ok (goInt n) w → (execOp a.eval o).run P w = .ok (.value (.int .i64 n)) w := by
        intro n hl
        subst e1
        simp [execOp, ho, resolve, invoke, builtin, hl, goInt]
      split at hs
      · rename_i n hlen
        refine Yd2.put (hr n ?_) hs 0 (.int _ _)
        unfold lenD at hlen
        split at hlen
        · rename_i q xs hk
          cases hlen
          have hu := H.slice hk
          obtain ⟨A, cap, e3⟩ := inv_list hv
          simp [Builtin.len_, e2, e3, run_underlying hu]
        · rename_i b hk
          cases hlen
          have hu := H.str hk
          have e3 := inv_str hv
          simp [Builtin.len_, e2, e3, run_underlying hu]
        · rename_i hk
          obtain ⟨es, hes, rfl⟩ := Option.map_eq_some_iff.1 hlen
          have hu := H.map hk
          rcases mapEs_rel h hd hes with ⟨e3, rfl⟩ | ⟨k, b, rfl, e3, hb', arr, clock, hh, hal, _⟩
          · simp [Builtin.len_, e2, e3, run_underlying hu]
          · have hg : (getObj b).run P w = .ok (.map arr clock) w := by simp [getObj, Sem.run, hh]
            simp [Builtin.len_, e2, e3, run_underlying hu, hg, hal]
        · cases hlen
      · cases hs
    · cases hs
  · cases hs

theorem op_minmax (h : Rel X G s a w) (hn : c.n = X.n) {o : Oper} {b : Builtin} {f : Int → Int → Int} {args : Array Operand} {tys : Array TypeId} (hb : (b = .min ∧ f = min) ∨ (b = .max ∧ f = max)) (ho : o.op = .call { callee := .builtin b, args, argTypes := tys }) (hs : minmaxOp f c s o.dst args.toList = some s') : Yd2 P c X G o s a w s' := by
  unfold minmaxOp at hs
  split at hs
  · rename_i x y hargs
    have e1 : args = #[x, y] := by rw [← Array.toArray_toList (xs := args), hargs]
    subst e1
    split at hs
    · rename_i k p k' q h1 h2
      rw [Option.ite_none_right_eq_some] at hs
      obtain ⟨rfl, hs⟩ := hs
      have e2 := inv_int (lookO_vt h h1 (.air 0) rfl)
      have e3 := inv_int (lookO_vt h h2 (.air 0) rfl)
      refine Yd2.put ?_ hs 0 (.int _ _)
      rcases hb with ⟨rfl, rfl⟩ | ⟨rfl, rfl⟩
      · simp only [execOp, ho, resolve, invoke, builtin, Sem.run_bind, Sem.run_pure, Result.andThen_ok]
        simp only [List.map_toArray, List.map_cons, List.map_nil, e2, e3, run_min_int2, Result.andThen_ok]
        congr 3
        simp only [Int.min_def]
        split <;> split <;> omega
      · simp only [execOp, ho, resolve, invoke, builtin, Sem.run_bind, Sem.run_pure, Result.andThen_ok]
        simp only [List.map_toArray, List.map_cons, List.map_nil, e2, e3, run_max_int2, Result.andThen_ok]
        congr 3
        simp only [Int.max_def]
        split <;> split <;> omega
    · cases hs
  · cases hs
end

end Go.Lv

namespace Go.Lv

noncomputable def gset {α : Type} (f : Nat → α) (b : Nat) (x : α) : Nat → α := fun c => if c = b then x else f c
@[simp] theorem gset_same {α : Type} (f : Nat → α) (b : Nat) (x : α) : gset f b x b = x := by simp [gset]
theorem gset_ne {α : Type} (f : Nat → α) {b c : Nat} (x : α) (h : c ≠ b) : gset f b x c = f c := by simp [gset, h]

structure New (w w' : World) (o : Obj) : Prop where
  heap : w'.heap = w.heap.push o
  os : w'.os = w.os
  tape : w'.tape = w.tape
  output : w'.output = w.output

section
variable {w w' : World} {o : Obj} (N : New w w' o)
include N
theorem New.size : w'.heap.size = w.heap.size + 1 := by rw [N.heap]; simp
theorem New.old {b : Nat} (h : b < w.heap.size) : w'.heap[b]? = w.heap[b]? := by
  rw [N.heap, Array.getElem?_push, if_neg (by omega)]
theorem New.at_ : w'.heap[w.heap.size]? = some o := by rw [N.heap]; simp
theorem New.cell {b : Nat} (h : b < w.heap.size) (j : Nat) : w'.cell? ⟨b, j, none⟩ = w.cell? ⟨b, j, none⟩ := by
  unfold World.cell?
  rw [N.old h]
theorem New.frozen {b : Nat} (h : b < w.heap.size) (j : Nat) : w'.frozen? ⟨b, j, none⟩ = w.frozen? ⟨b, j, none⟩ := by
  unfold World.frozen?
  rw [N.old h]
end

section
variable {P : Program} {L : Ly} {X : Ctx} {G : Gh} {s s' : DS} {a : Act} {w w' : World} {c : FC}

theorem Rel.stLt (h : Rel X G s a w) {b n : Nat} (hs : G.st b n) : b < w.heap.size := by
  rcases Nat.lt_or_ge b w.heap.size with h1 | h1
  · exact h1
  · exact absurd hs ((h.new b h1).2 n)
theorem Rel.ownLt (h : Rel X G s a w) {b : Nat} {o : Owner} (hs : G.own b = some o) : b < w.heap.size := by
  rcases Nat.lt_or_ge b w.heap.size with h1 | h1
  · exact h1
  · rw [(h.new b h1).1] at hs; cases hs
theorem Rel.beLt (h : Rel X G s a w) {k b : Nat} (hs : G.be k = some b) : b < w.heap.size := by
  rcases Nat.lt_or_ge k s.sto.length with h1 | h1
  · obtain ⟨b', e, _, h2, _⟩ := h.sto k _ (List.getElem?_eq_getElem h1)
    rw [hs] at e
    cases e
    exact h2
  · rw [h.be k h1] at hs; cases hs

theorem Rel.newKeeps (h : Rel X G s a w) {o : Obj} (N : New w w' o) {G' : Gh} {m' : Mt} {kp : Place → Prop} (hbe : ∀ k b, G.be k = some b → G'.be k = some b) (hst : ∀ b n, G.st b n → G'.st b n) (hm : m'.ep = s.m.ep) (hrv : ∀ r, s.m.rv r ≤ m'.rv r) (hal : ∀ t, s.m.al t ≤ m'.al t) (hera : s.m.era ≤ m'.era)
    (hown : ∀ b, b < w.heap.size → G'.own b = G.own b) (hfin : ∀ b, b < w.heap.size → G'.fin b = G.fin b) (hpl : ∀ p, p.r.isAir = false → m'.rv p.r = s.m.rv p.r → G'.pl p = G.pl p) (hkp : ∀ p, kp p → G'.pl p = G.pl p) (hla : ∀ t, m'.al t = s.m.al t → G'.la t = G.la t) : Keeps w G s.m w' G' m' kp where
  be := hbe
  st := hst
  cell := fun b n j hs _ => N.cell (h.stLt hs) j
  ep := by omega
  rv := hrv
  al := hal
  era := hera
  rd := fun _ b n hr => by
    have hb : b < w.heap.size := by
      rcases hr with hr | ⟨⟨p, hp⟩, _⟩
      · exact h.stLt hr
      · exact h.ownLt hp
    refine ⟨?_, fun j _ => N.cell hb j⟩
    rcases hr with hr | ⟨⟨p, hp⟩, hn⟩
    · exact .inl (hst _ _ hr)
    · exact .inr ⟨⟨p, by rw [hown b hb]; exact hp⟩, by rw [hfin b hb]; exact hn⟩
  pl := hpl
  la := hla
  own := fun b p hk ho => by
    have hb := h.ownLt ho
    exact ⟨by rw [hown b hb]; exact ho, hfin b hb, fun j => ⟨N.cell hb j, N.frozen hb j⟩⟩
  opl := hkp
  mp := fun _ k b es clock hb hh => ⟨es, clock, by rw [N.old (h.beLt hb)]; exact hh, fun i x hx => ⟨x, hx, rfl⟩⟩

theorem Rel.newBlock (h : Rel X G s a w) {o : Obj} (N : New w w' o) {G' : Gh} {s' : DS} {a' : Act} {kp : Place → Prop} (K : Keeps w G s.m w' G' s'.m kp) (ho : ∀ b, b < w.heap.size → G'.own b = G.own b) (hnew : ∀ e, ¬ G'.st w.heap.size e) (hgt : ∀ b, w.heap.size < b → G'.own b = none) (hst : ∀ b e, G'.st b e → G.st b e)
    (hsize : a'.tmps.size = X.n) (hdef : a'.defers = [])
    (henv : ∀ t d, lk t s'.env = some d → VT w' G' s'.m (.slot t) d (a'.tmps.getD t undef))
    (hloc : ∀ t cs, lk t s'.loc = some cs → G'.own (G'.la t) = some (.box (.lbox t)) ∧ BoxV w' G' s'.m (.lbox t) (G'.la t) cs)
    (hsto : ∀ k o, s'.sto[k]? = some o → ∃ b, G'.be k = some b ∧ (if k < X.ro then G'.own b = none else G'.own b = some (.box (.gbox k))) ∧ b < w'.heap.size ∧ ObV w' G' s'.m X.ro k b o)
    (hbe : ∀ k, s'.sto.length ≤ k → G'.be k = none) (hlen : s.sto.length ≤ s'.sto.length) (hro : s'.m.ro = s.m.ro) (hbe0 : ∀ k, k < s.sto.length → G'.be k = G.be k) (hla0 : ∀ t, t ∈ X.kp → G'.la t = G.la t) : Rel X G' s' a' w' where
  size := hsize
  defers := hdef
  env := henv
  loc := hloc
  sto := hsto
  be := hbe
  new := fun b hb => by
    rw [N.size] at hb
    refine ⟨hgt b (by omega), fun e he => ?_⟩
    exact (h.new b (by omega)).2 e (hst b e he)
  stow := fun b e he => by
    have h1 := hst b e he
    rw [ho b (h.stLt h1)]
    exact h.stow b e h1
  std := fun b e e' he hee => K.st b e' (h.std b e e' (hst b e he) hee)
  old := fun b hb h0 => by
    obtain ⟨h1, h2, h3⟩ := h.old b hb h0
    have hb' : b < w.heap.size := Nat.lt_of_lt_of_le hb h.grow
    exact ⟨(N.old hb').trans h1, by rw [ho b hb']; exact h2, fun e he => h3 e (hst b e he)⟩
  os := N.os.trans h.os
  tape := N.tape.trans h.tape
  output := N.output.trans h.output
  grow := by have := h.grow; rw [N.size]; omega
  ro := Nat.le_trans h.ro hlen
  rom := hro.trans h.rom
  be0 := fun k hk => by rw [hbe0 k (Nat.lt_of_lt_of_le hk h.n0)]; exact h.be0 k hk
  n0 := Nat.le_trans h.n0 hlen
  la0 := fun t ht => by rw [hla0 t ht]; exact h.la0 t ht

noncomputable def Gh.add (G : Gh) (b : Nat) (o : Owner) (n : Nat) (p : Place) (x : Nat × Nat) : Gh := { G with own := gset G.own b (some o), fin := gset G.fin b n, pl := fun q => if q = p then x else G.pl q }
theorem add_ne {b c' : Nat} {o : Owner} {n : Nat} {p : Place} {x : Nat × Nat} (h : c' ≠ b) : (G.add b o n p x).own c' = G.own c' ∧ (G.add b o n p x).fin c' = G.fin c' := ⟨gset_ne _ _ h, gset_ne _ _ h⟩
theorem add_eq {b : Nat} {o : Owner} {n : Nat} {p : Place} {x : Nat × Nat} : (G.add b o n p x).own b = some o ∧ (G.add b o n p x).fin b = n ∧ (G.add b o n p x).pl p = x := by simp [Gh.add]

theorem Rel.newList (h : Rel X G s a w) {cells : Array Value} {e : TypeId} {fr : Nat × Nat} (N : New w w' (.cells cells e fr)) (n : Nat) {xs : List (List D)} {sz cap : Nat} (hz : 0 < sz) (hlen : xs.length ≤ cap) (hc : cap * sz ≤ cells.size) (hfr : ∀ o, o < cells.size → ¬ (fr.1 ≤ o ∧ o < fr.2))
    (hrow : ∀ r, r ∈ xs → r.length = sz) (hv : ∀ (j c' : Nat) (r : List D) (d : D) (u : Value), xs[j]? = some r → r[c']? = some d → cells[j * sz + c']? = some u → Imm w G.be G.st d u) :
    ∃ G', Rel X G' s a w' ∧ VT w' G' s.m (.air n) (.list (.own sz) xs) (.slice (some ⟨w.heap.size, 0, none⟩) xs.length cap) ∧ Keeps w G s.m w' G' s.m (fun p => p.r ≠ .air n) := by
  have K : Keeps w G s.m w' (G.add w.heap.size (.lst ⟨.air n, 0, 0⟩) (xs.length * sz) ⟨.air n, 0, 0⟩ (w.heap.size, 0)) s.m (fun p => p.r ≠ .air n) := by
    refine h.newKeeps N (fun _ _ h => h) (fun _ _ h => h) rfl (fun _ => Nat.le_refl _) (fun _ => Nat.le_refl _) (Nat.le_refl _) (fun b hb => (add_ne (by omega)).1) (fun b hb => (add_ne (by omega)).2) (fun p hp _ => if_neg (by rintro rfl; cases hp)) (fun p hp => if_neg (by rintro rfl; exact hp rfl)) (fun _ _ => rfl)
  refine ⟨_, ?_, .inr ⟨hz, w.heap.size, 0, cap, rfl, hlen, add_eq.1, by rw [add_eq.2.1, Nat.zero_add], add_eq.2.2, fun i hi => ?_, hrow, fun j c' r d hr hd => ?_⟩, K⟩
  · refine h.newBlock N K (fun b hb => (add_ne (by omega)).1) (fun e he => (h.new _ (Nat.le_refl _)).2 e he) (fun b hb => by rw [(add_ne (by omega)).1]; exact (h.new b (by omega)).1) (fun _ _ h => h) h.size h.defers (fun u e hu => K.vt (fun i q j c _ _ _ => by simp) (h.env u e hu)) (fun u cs hu => ?_) (fun k o hk => ?_) h.be (Nat.le_refl _) rfl (fun _ _ => rfl) (fun _ _ => rfl)
    · obtain ⟨h1, h2⟩ := h.loc u cs hu
      have hb := h.ownLt h1
      exact ⟨by rw [← h1]; exact (add_ne (show G.la u ≠ _ by omega)).1, K.box (fun j c _ _ => by simp) (fun j => ⟨N.cell hb j, N.frozen hb j⟩) h2⟩
    · obtain ⟨b, h1, h2, h3, h4⟩ := h.sto k o hk
      refine ⟨b, h1, ?_, by rw [N.size]; omega, ?_⟩
      · rw [(add_ne (show b ≠ w.heap.size by omega)).1]
        exact h2
      · cases o with
        | map es =>
          obtain ⟨arr, clock, q1, q2⟩ := h4
          exact ⟨arr, clock, by rw [N.old h3]; exact q1, q2⟩
        | box cs =>
          simp only [ObV] at h4 ⊢
          split <;> rename_i hr
          · simp only [hr, if_true] at h4
            intro j d hd
            obtain ⟨u, h5, h6⟩ := h4 j d hd
            exact ⟨u, by rw [N.cell h3]; exact h5, K.imm h6⟩
          · simp only [hr, if_false] at h4
            exact K.box (fun j c _ _ => by simp) (fun j => ⟨N.cell h3 j, N.frozen h3 j⟩) h4
  · have hi' : i < cells.size := by omega
    rw [Nat.zero_add]
    unfold World.cell? World.frozen?
    simp only [N.at_]
    refine ⟨⟨cells[i], by simp [hi']⟩, ?_⟩
    have := hfr i hi'
    simp only [decide_eq_true_eq, Bool.and_eq_false_iff, decide_eq_false_iff_not] at *
    omega
  · have hj : j < xs.length := (List.getElem?_eq_some_iff.1 hr).1
    have hcz : c' < sz := by
      have h8 := (List.getElem?_eq_some_iff.1 hd).1
      rwa [hrow r (List.mem_of_getElem? hr)] at h8
    have hlt : j * sz + c' < cells.size := by
      have h1 := mul_lt (sz := sz) hj
      have h2 : xs.length * sz ≤ cap * sz := Nat.mul_le_mul_right _ hlen
      omega
    refine ⟨cells[j * sz + c'], ?_, K.imm (hv j c' r d _ hr hd (by simp [hlt]))⟩
    rw [Nat.zero_add]
    unfold World.cell?
    simp only [N.at_]
    simp [hlt]
end

end Go.Lv

namespace Go.Lv

section
variable {P : Program} {L : Ly} {X : Ctx} {G : Gh} {s s' : DS} {a : Act} {w w' : World} {c : FC}

theorem takeL_rel : ∀ {xs : List Operand} {ds : List D} {G : Gh} {s s1 : DS}, Rel X G s a w → takeL s xs = some (ds, s1) → ∀ n : Nat,
    ∃ G1, Rel X G1 s1 a w ∧ ds.length = xs.length ∧ (∀ d, d ∈ ds → ∀ es, d ≠ .tup es) ∧ (∀ (k : Nat) (d : D) (x : Operand), ds[k]? = some d → xs[k]? = some x → VT w G1 s1.m (.air (n + k)) d (a.eval x)) ∧ Keeps w G s.m w G1 s1.m (fun p => ∃ j, p.r = .air j ∧ (j < n ∨ n + xs.length ≤ j)) ∧ s1.sto = s.sto ∧ s1.loc = s.loc ∧ s1.m.ep = s.m.ep ∧ s1.m.al = s.m.al ∧ s1.m.era = s.m.era
  | [], ds, G, s, s1, h, ht, n => by
    simp [takeL] at ht
    obtain ⟨rfl, rfl⟩ := ht
    exact ⟨G, h, rfl, fun d hd => (nomatch hd), fun k d x hd => by simp at hd, Keeps.refl _ _ _ _, rfl, rfl, rfl, rfl, rfl⟩
  | x :: xs, ds, G, s, s1, h, ht, n => by
    simp only [takeL] at ht
    split at ht
    · rename_i d s2 h1
      rw [Option.ite_none_left_eq_some] at ht
      obtain ⟨hnt, ht⟩ := ht
      split at ht
      · rename_i ds' s3 h2
        cases ht
        obtain ⟨G1, r1, v1, k1, e1, e2, e3, e4, e5⟩ := takeO_rel h h1 n
        obtain ⟨G2, r2, l2, t2, v2, k2, f1, f2, f3, f4, f5⟩ := takeL_rel r1 h2 (n + 1)
        refine ⟨G2, r2, by simp [l2], fun d' hd' => ?_, fun k d' x' hd hx => ?_, ?_, f1.trans e1, f2.trans e2, f3.trans e3, f4.trans e4, f5.trans e5⟩
        · rcases List.mem_cons.1 hd' with rfl | hd'
          · intro es he
            rw [he] at hnt
            exact hnt rfl
          · exact t2 d' hd'
        · cases k with
          | zero =>
            simp at hd hx
            subst hd; subst hx
            exact k2.vt (fun i q j c _ _ _ => ⟨n, rfl, .inl (by omega)⟩) v1
          | succ k =>
            simp at hd hx
            have := v2 k d' x' hd hx
            rwa [show n + 1 + k = n + (k + 1) by omega] at this
        · refine (k1.trans k2).weaken fun p hp => ?_
          obtain ⟨j, hj, hjn⟩ := hp
          refine ⟨⟨by rw [hj]; intro e; cases e; simp at hjn; omega, fun t _ => by rw [hj]; simp⟩, j, hj, ?_⟩
          simp at hjn
          omega
      · cases ht
    · cases ht

theorem vp_cells {m : Mt} {r : Root} {i : Nat} {d : D} {v : Value} (h : VP w G m r i d v) : v.cells.size = (cellsD d).length ∧ ∀ (j : Nat) (e : D) (u : Value), (cellsD d)[j]? = some e → v.cells[j]? = some u → VC w G m ⟨r, i, j⟩ e u := by
  have key : (∀ cs, d ≠ .agg cs) → v.cells.size = (cellsD d).length ∧ ∀ (j : Nat) (e : D) (u : Value), (cellsD d)[j]? = some e → v.cells[j]? = some u → VC w G m ⟨r, i, j⟩ e u := by
    intro hd
    rw [VP_cell hd] at h
    have h1 := vc_one h
    have h2 : v.cells = #[v] := by cases v <;> first | rfl | simp [Value.oneCell'] at h1
    have h3 : cellsD d = [d] := by cases d <;> first | rfl | exact absurd rfl (hd _)
    rw [h2, h3]
    refine ⟨rfl, fun j e u he hu => ?_⟩
    cases j with
    | zero => simp at he hu; subst he; subst hu; exact h
    | succ j => simp at he
  cases d with
  | agg cs =>
    obtain ⟨vs, rfl, hl, h1⟩ := h
    exact ⟨by simpa [Value.cells, cellsD] using hl, fun j e u he hu => h1 j e u he (by simpa [Value.cells] using hu)⟩
  | _ => exact key (by intro cs h; cases h)

theorem foldl_set : ∀ (l : List Value) (k off : Nat) (cs : Array Value), off + k + l.length ≤ cs.size → ((l.zipIdx k).foldl (fun (cs : Array Value) (x : Value × Nat) => cs.setIfInBounds (off + x.2) x.1) cs).toList = splice cs.toList (off + k) l
  | [], k, off, cs, h => by
    simp [splice]
  | v :: l, k, off, cs, h => by
    simp only [List.length_cons] at h
    simp only [List.zipIdx_cons, List.foldl_cons]
    have hs : (cs.setIfInBounds (off + k) v).size = cs.size := by simp
    have h2 := foldl_set l (k + 1) off (cs.setIfInBounds (off + k) v) (by rw [hs]; omega)
    rw [h2]
    apply List.ext_getElem?
    intro j
    have hs3 : (cs.setIfInBounds (off + k) v).toList.length = cs.size := by simp
    have hA : off + (k + 1) + l.length ≤ (cs.setIfInBounds (off + k) v).toList.length := by rw [hs3]; omega
    have hB : off + k + (v :: l).length ≤ cs.toList.length := by simp; omega
    rw [getElem?_splice _ _ _ hA, getElem?_splice _ _ _ hB]
    simp only [List.length_cons, Array.toList_setIfInBounds]
    by_cases h3 : j = off + k
    · subst h3
      rw [if_neg (by omega), if_pos (by omega)]
      have hB' : off + k < cs.toList.length := by simp; omega
      rw [List.getElem?_set_self hB']
      simp
    · by_cases h4 : off + k ≤ j ∧ j < off + k + (l.length + 1)
      · rw [if_pos (by omega), if_pos (by omega)]
        obtain ⟨q, rfl⟩ : ∃ q, j = off + k + 1 + q := ⟨j - (off + k + 1), by omega⟩
        rw [show off + k + 1 + q - (off + k) = q + 1 by omega, show off + k + 1 + q - (off + (k + 1)) = q by omega]
        rfl
      · rw [if_neg (by omega), if_neg (by omega), List.getElem?_set_ne (by omega)]

theorem fill_step (h : Rel X G s a w) {k N off : Nat} {d : D} {v : Value} {cs : List D} {vs : List Value} (hkN : k ≠ N) (hp : VP w G s.m (.air k) 0 d v) (hl : vs.length = cs.length) (hc : ∀ (j : Nat) (e : D) (u : Value), cs[j]? = some e → vs[j]? = some u → VC w G s.m ⟨.air N, 0, j⟩ e u) (hoff : off + (cellsD d).length ≤ cs.length) :
    ∃ G1, Rel X G1 s a w ∧ (∀ (j : Nat) (e : D) (u : Value), (splice cs off (cellsD d))[j]? = some e → (splice vs off v.cells.toList)[j]? = some u → VC w G1 s.m ⟨.air N, 0, j⟩ e u) ∧ Keeps w G s.m w G1 s.m (fun p => p.r ≠ .air k ∧ p.r ≠ .air N) := by
  obtain ⟨hsz, hcell⟩ := vp_cells hp
  have hsz' : v.cells.toList.length = (cellsD d).length := by simpa using hsz
  have K : Keeps w G s.m w (G.mv (fun p => if p.r = .air k ∧ p.i = 0 ∧ p.j < (cellsD d).length then some ⟨.air N, 0, off + p.j⟩ else none) (fun q => if q.r = .air N ∧ q.i = 0 ∧ off ≤ q.j ∧ q.j < off + (cellsD d).length then some ⟨.air k, 0, q.j - off⟩ else none)) s.m
      (fun p => (if p.r = .air k ∧ p.i = 0 ∧ p.j < (cellsD d).length then some (⟨.air N, 0, off + p.j⟩ : Place) else none) = none ∧ (if p.r = .air N ∧ p.i = 0 ∧ off ≤ p.j ∧ p.j < off + (cellsD d).length then some (⟨.air k, 0, p.j - off⟩ : Place) else none) = none) := by
    refine mv_keeps rfl (fun _ => Nat.le_refl _) (fun _ => Nat.le_refl _) (Nat.le_refl _) (fun q p hq => .inl ?_)
    simp only [Option.ite_none_right_eq_some] at hq
    rw [hq.1.1]
    rfl
  refine ⟨_, ?_, fun j e u he hu => ?_, K.weaken fun p hp => ⟨by rw [if_neg (fun h => hp.1 h.1)], by rw [if_neg (fun h => hp.2 h.1)]⟩⟩
  · exact h.re (fun b hb => mv_own_other hb) rfl rfl (fun b e he => .inl he) (mv_stow h.stow) h.std (fun u e hu => K.vt (fun i q j c _ _ _ => ⟨by simp, by simp⟩) (h.env u e hu)) (fun u cs hu => ⟨⟨cs, hu⟩, h.locK K (fun t j => ⟨by simp, by simp⟩) hu⟩) rfl rfl (fun k o b hk hb => h.stoK K (fun t j => ⟨by simp, by simp⟩) hk hb)
  · rw [getElem?_splice _ _ _ hoff] at he
    rw [getElem?_splice _ _ _ (by omega), hsz'] at hu
    split at he
    · rename_i hj
      rw [if_pos hj] at hu
      refine VC.mv K (p := ⟨.air k, 0, j - off⟩) ?_ ?_ (hcell (j - off) e u he (by simpa using hu))
      · rw [if_pos ⟨rfl, rfl, show j - off < (cellsD d).length by omega⟩]
        congr 2
        show off + (j - off) = j
        omega
      · rw [if_pos ⟨rfl, rfl, hj.1, hj.2⟩]
    · rename_i hj
      rw [if_neg hj] at hu
      refine K.vc (fun _ => ⟨by rw [if_neg]; rintro ⟨e1, _⟩; simp at e1; exact hkN e1.symm, by rw [if_neg]; rintro ⟨_, _, q1, q2⟩; exact hj ⟨q1, q2⟩⟩) (hc j e u he hu)

theorem fill_rel {pl place : Nat → Option (Nat × Nat)} (hpl : ∀ i, pl i = place i) : ∀ (is : List Nat) (ds : List D) (us : List Value) (k N : Nat) (G : Gh) (cs : List D) (vs : List Value) (cs' : List D), Rel X G s a w → is.length = ds.length → us.length = ds.length → k + ds.length ≤ N →
    (∀ (j : Nat) (d : D) (u : Value), ds[j]? = some d → us[j]? = some u → VT w G s.m (.air (k + j)) d u ∧ ∀ es, d ≠ .tup es) → vs.length = cs.length → (∀ (j : Nat) (e : D) (u : Value), cs[j]? = some e → vs[j]? = some u → VC w G s.m ⟨.air N, 0, j⟩ e u) → fillD pl cs (is.zip ds) = some cs' →
    ∃ (vs' : List Value) (G' : Gh), Instr.fill place vs.toArray (is.zip us) = some vs'.toArray ∧ Rel X G' s a w ∧ vs'.length = cs'.length ∧ cs'.length = cs.length ∧ (∀ (j : Nat) (e : D) (u : Value), cs'[j]? = some e → vs'[j]? = some u → VC w G' s.m ⟨.air N, 0, j⟩ e u)
  | [], [], [], k, N, G, cs, vs, cs', h, _, _, _, _, hl, hc, hf => by
    simp [fillD] at hf
    subst hf
    exact ⟨vs, G, by simp [Instr.fill], h, hl, rfl, hc⟩
  | i :: is, d :: ds, u :: us, k, N, G, cs, vs, cs', h, h1, h2, h3, hv, hl, hc, hf => by
    simp only [List.zip_cons_cons, fillD] at hf
    obtain ⟨hv0, hnt⟩ := hv 0 d u rfl rfl
    rw [VT_part hnt] at hv0
    obtain ⟨hsz, _⟩ := vp_cells hv0
    have hsz2 : u.cells.toList.length = (cellsD d).length := by rw [Array.length_toList]; exact hsz
    simp only [List.length_cons] at h3
    split at hf
    · cases hf
    · rename_i off n hpl'
      rw [Option.ite_none_right_eq_some] at hf
      obtain ⟨⟨hn, hoff⟩, hf⟩ := hf
      obtain ⟨G1, r1, c1, K⟩ := fill_step h (k := k) (N := N) (off := off) (by omega) hv0 hl hc (by omega)
      have hl' : (splice vs off u.cells.toList).length = (splice cs off (cellsD d)).length := by
        rw [length_splice _ _ _ (by omega), length_splice _ _ _ (by omega), hl]
      obtain ⟨vs', G', f1, f2, f3, f4, f5⟩ := fill_rel hpl is ds us (k + 1) N G1 (splice cs off (cellsD d)) (splice vs off u.cells.toList) cs' r1 (by simpa using h1) (by simpa using h2) (by omega) (fun j d' u' hd hu => by
        obtain ⟨q1, q2⟩ := hv (j + 1) d' u' (by simpa using hd) (by simpa using hu)
        refine ⟨?_, q2⟩
        rw [show k + 1 + j = k + (j + 1) by omega]
        exact K.vt (fun i q j' c _ _ _ => ⟨by simp, by
          have hd' : ds[j]? = some d' := by simpa using hd
          have := (List.getElem?_eq_some_iff.1 hd').1
          simp
          omega⟩) q1) hl' c1 hf
      refine ⟨vs', G', ?_, f2, f3, ?_, f5⟩
      · rw [← f1]
        simp only [List.zip_cons_cons, Instr.fill, ← hpl, hpl']
        have g1 : u.cells.size = n := by omega
        have g2 : ¬ (off + u.cells.size > vs.length) := by omega
        simp only [g1, ne_eq, not_true, decide_false, Bool.false_or, List.size_toArray]
        rw [if_neg (by simp; omega)]
        congr 1
        apply Array.ext'
        rw [← Array.foldl_toList, Array.toList_zipIdx]
        have := foldl_set u.cells.toList 0 off vs.toArray (by simp; omega)
        simpa using this
      · rw [f4, length_splice _ _ _ (by omega)]
  | [], _ :: _, _, _, _, _, _, _, _, _, h, _, _, _, _, _, _ => by simp at h
  | _ :: _, [], _, _, _, _, _, _, _, _, h, _, _, _, _, _, _ => by simp at h
  | [], [], _ :: _, _, _, _, _, _, _, _, _, h, _, _, _, _, _ => by simp at h
  | _ :: _, _ :: _, [], _, _, _, _, _, _, _, _, h, _, _, _, _, _ => by simp at h
end

end Go.Lv
