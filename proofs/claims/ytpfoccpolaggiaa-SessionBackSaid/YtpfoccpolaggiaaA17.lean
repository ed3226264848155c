/-
  A17: the operations that make, store to, and take from variables in memory.
-/
import Derived.Test.YtpfoccpolaggiaaA16
set_option linter.all false
namespace Go.Lv

section
variable {P : Program} {L : Ly} {X : Ctx} {G G' : Gh} {s s' s1 : DS} {a a' : Act} {w w' : World} {c : FC} {b : Nat} {m m' : Mt}

theorem Rel.voidO (h : Rel X G s a w) (hn : c.n = X.n) {dst : Option Nat} {v : Value} (hv : voidS c dst s = some s') : Rel X G s' (a.put dst v) w := by
  unfold voidS at hv
  cases dst with
  | none => cases hv; exact h
  | some t =>
    simp only [Option.ite_none_right_eq_some] at hv
    obtain ⟨ht, hv⟩ := hv
    cases hv
    refine h.void _ ?_ ?_ ?_ ?_ ?_ (by omega) <;> split <;> first | rfl | exact bS_rv _ _ | exact fun _ => Nat.le_refl _ | exact Nat.le_refl _

theorem run_storeAt (H : LyOK P L) {t off : Nat} {v : Value} (ht : t < L.length) (hs : v.cells.size = L.size t) (hc : ∀ j, j < v.cells.size → (w.cell? ⟨b, off + j, none⟩).isSome = true) (hf : ∀ j, j < v.cells.size → w.frozen? ⟨b, off + j, none⟩ = false) (h1 : ∀ u ∈ v.cells.toList, u.oneCell' = true) :
    (Instr.storeAt t (.pointer (some ⟨b, off, none⟩)) v).run P w = .ok () (w.setCells b off v.cells.toList) := by
  have hst := run_storeCells_cells (P := P) b off v.cells.toList 0 w (by simpa using hc) (by simpa using hf) h1
  simp only [Nat.add_zero] at hst
  unfold Instr.storeAt Instr.sureAddr storeVar
  simp only [Sem.run_bind, Sem.run_pure, Result.andThen_ok, H.sizeOf' (List.getElem?_eq_getElem ht)]
  rw [if_neg (by simp [hs])]
  simp [hst]

theorem stoC_notTup {d : D} (h : (cellsD d).all stoC = true) : ∀ es, d ≠ .tup es := by
  rintro es rfl
  simp [cellsD, stoC, rowC] at h
theorem locC_notTup {d : D} (h : (cellsD d).all locC = true) : ∀ es, d ≠ .tup es := by
  rintro es rfl
  simp [cellsD, locC, rowC] at h
theorem locC_fz_notTup {d : D} (h : ((cellsD d).map fz).all locC = true) : ∀ es, d ≠ .tup es := by
  rintro es rfl
  simp [cellsD, locC, rowC, fz] at h
theorem rowC_fz_notTup {d : D} (h : ((cellsD d).map fz).all rowC = true) : ∀ es, d ≠ .tup es := by
  rintro es rfl
  simp [cellsD, rowC, fz] at h

/-- What is under way as cells; those of one's own frozen, if so it is asked. -/
theorem Rel.cellsAir (h : Rel X G s a w) {N : Nat} {d : D} {v : Value} (hv : VT w G s.m (.air N) d v) (hnt : ∀ es, d ≠ .tup es) (keep : Bool) :
    ∃ G', Rel X G' s a w ∧ v.cells.toList.length = (cellsD d).length ∧ (∀ (j : Nat) (e : D) (u : Value), (if keep then cellsD d else (cellsD d).map fz)[j]? = some e → v.cells.toList[j]? = some u → VC w G' s.m ⟨.air N, 0, j⟩ e u) ∧ (∀ u ∈ v.cells.toList, u.oneCell' = true) ∧ Keeps w G s.m w G' s.m (fun p => p.r ≠ .air N) := by
  rw [VT_part hnt] at hv
  obtain ⟨h1, h2⟩ := vp_cells hv
  have h1' : v.cells.toList.length = (cellsD d).length := by simpa using h1
  have h3 : ∀ u ∈ v.cells.toList, u.oneCell' = true := by
    intro u hu
    obtain ⟨j, hj⟩ := List.mem_iff_getElem?.1 hu
    have hlt : j < (cellsD d).length := by rw [← h1']; exact (List.getElem?_eq_some_iff.1 hj).1
    exact vc_one (h2 j _ u (List.getElem?_eq_getElem hlt) (by simpa using hj))
  cases keep with
  | true => exact ⟨G, h, h1', fun j e u he hu => h2 j e u (by simpa using he) (by simpa using hu), h3, Keeps.refl _ _ _ _⟩
  | false =>
    obtain ⟨r1, K1⟩ := h.freeze N
    refine ⟨_, r1, h1', fun j e u he hu => ?_, h3, K1⟩
    simp only [Bool.false_eq_true, if_false, List.getElem?_map] at he
    obtain ⟨e0, he0, rfl⟩ := Option.map_eq_some_iff.1 he
    exact VC.fz (p := ⟨.air N, 0, j⟩) rfl (h2 j e0 u he0 (by simpa using hu))

theorem any_fz (cs : List D) : (cs.map fz).any isOwn = false := by
  refine List.any_eq_false.2 fun x hx => ?_
  obtain ⟨d, _, rfl⟩ := List.mem_map.1 hx
  simp [fz_own]

theorem boxV_cells {r : Root} {bs : List D} (h : BoxV w G m r b bs) {j : Nat} (hj : j < bs.length) : (w.cell? ⟨b, j, none⟩).isSome = true ∧ w.frozen? ⟨b, j, none⟩ = false := by
  obtain ⟨u, h1, h2, _⟩ := h j _ (List.getElem?_eq_getElem hj)
  exact ⟨by rw [h1]; rfl, h2⟩

theorem ups_or (m : Mt) (x : Bool) (r : Root) : Ups m (if x = true then m.bR r else m) := by
  split
  · exact bR_ups _ _
  · exact Ups.refl _
theorem lt_or (m : Mt) (x : Bool) {y : Bool} {r : Root} (hr : r.isAir = false) : (if (x || y) = true then m.bR r else m).rv r ≠ m.rv r ∨ y = false := by
  cases x <;> cases y <;> simp <;> exact bR_lt m hr

theorem lt_or1 (m : Mt) {y : Bool} {r : Root} (hr : r.isAir = false) : (if y = true then m.bR r else m).rv r ≠ m.rv r ∨ y = false := by
  cases y <;> simp <;> exact bR_lt m hr

theorem op_store (H : LyOK P L) (h : Rel X G s a w) (hn : c.n = X.n) {o : Oper} {t : Nat} {x y : Operand} (ho : o.op = .store t x y) (hs : opD L c X.ro s o = some s') : Yd P X o a w s' := by
  simp only [opD, ho] at hs
  split at hs
  · rename_i d s1 htk
    split at hs
    · rename_i ad had
      split at hs
      · rename_i s2 hst
        obtain ⟨G0, r0, v0, K0, _⟩ := takeO_rel h htk 0
        obtain ⟨G1, r1, v1⟩ : ∃ G1, Rel X G1 s1 a w ∧ VT w G1 s1.m (.air 0) (if fsO c y = true then fzTop d else d) (a.eval y) := by
          split
          · obtain ⟨r1, K1⟩ := r0.freeze 0
            exact ⟨_, r1, VT.fz v0⟩
          · exact ⟨_, r0, v0⟩
        generalize (if fsO c y = true then fzTop d else d) = d at *
        have fin : ∀ G' w', (Instr.storeAt t (a.eval x) (a.eval y)).run P w = .ok () w' → Rel X G' s2 a w' → Yd P X o a w s' := by
          intro G' w' hr hR
          refine ⟨undef, w', G', .inr ⟨?_, rfl⟩, hR.voidO hn hs⟩
          simp only [execOp, ho, Sem.run_bind, hr, Result.andThen_ok, Sem.run_pure]
        unfold storeD at hst
        simp only at hst
        rw [Option.ite_none_right_eq_some] at hst
        obtain ⟨⟨hsz, htl⟩, hst⟩ := hst
        split at hst
        · rename_i u ver off
          rw [Option.ite_none_right_eq_some] at hst
          obtain ⟨hver, hst⟩ := hst
          split at hst
          · rename_i bs hbs
            rw [Option.ite_none_right_eq_some] at hst
            obtain ⟨hoff, hst⟩ := hst
            rw [Option.ite_none_right_eq_some] at hst
            obtain ⟨hall, hst⟩ := hst
            cases hst
            have hnt : ∀ es, d ≠ .tup es := by
              cases hk : c.kb.contains u with
              | true => rw [hk] at hall; exact locC_notTup (by simpa using hall)
              | false => rw [hk] at hall; exact locC_fz_notTup (by simpa using hall)
            obtain ⟨G2, r2, l2, c2, o2, K2⟩ := r1.cellsAir v1 hnt (c.kb.contains u)
            have hlen : (if c.kb.contains u = true then cellsD d else (cellsD d).map fz).length = (cellsD d).length := by split <;> simp
            obtain ⟨ad, hp, _, hq⟩ := (lookO_vt r1 had (.air 0) rfl : LpV G1 s1.m u ver off (a.eval x))
            have hla : G2.la u = G1.la u := K2.la u rfl
            obtain ⟨q1, q2⟩ := r2.loc u bs hbs
            refine fin _ _ ?_ (r2.storeLoc (N := 0) (off := off) (vs := (a.eval y).cells.toList) (ys := if c.kb.contains u = true then cellsD d else (cellsD d).map fz) hbs ?_ ?_ (by rw [hlen]; exact l2) (by rw [hlen]; exact hoff) c2).choose_spec
            · rw [hp, hq hver, ← hla]
              refine run_storeAt H htl (by simpa [hsz] using l2) (fun j hj => (boxV_cells q2 ?_).1) (fun j hj => (boxV_cells q2 ?_).2) o2
              all_goals
                rw [← Array.length_toList, l2] at hj
                omega
            · exact ups_or _ _ (.lbox u)
            · exact lt_or1 s1.m (r := .lbox u) rfl
          · cases hst
        · rename_i k off
          rw [Option.ite_none_right_eq_some] at hst
          obtain ⟨hkr, hst⟩ := hst
          split at hst
          · rename_i bs hbs
            rw [Option.ite_none_right_eq_some] at hst
            obtain ⟨hcond, hst⟩ := hst
            cases hst
            simp only [Bool.and_eq_true, decide_eq_true_eq] at hcond
            obtain ⟨hoff, hall⟩ := hcond
            obtain ⟨G2, r2, l2, c2, o2, K2⟩ := r1.cellsAir v1 (stoC_notTup hall) true
            obtain ⟨bb, hb, hp⟩ := inv_gptr (lookO_vt r1 had (.air 0) rfl)
            obtain ⟨G3, b3, e3, x3, r3⟩ := r2.storeSto (N := 0) (off := off) (vs := (a.eval y).cells.toList) (ys := cellsD d) (m' := if (cellsD d).any isOwn = true then s1.m.bG else s1.m) hbs hkr (ups_or _ _ (.gbox k)) (lt_or1 s1.m (r := .gbox k) rfl) l2 hoff c2
            have hbb := K2.be k bb hb
            rw [e3] at hbb
            cases hbb
            refine fin _ _ ?_ r3
            rw [hp]
            refine run_storeAt H htl (by simpa [hsz] using l2) (fun j hj => (boxV_cells x3 ?_).1) (fun j hj => (boxV_cells x3 ?_).2) o2
            all_goals
              rw [← Array.length_toList, l2] at hj
              omega
          · cases hst
        · rename_i e p ver i row off
          rw [Option.ite_none_right_eq_some] at hst
          obtain ⟨⟨hver, hok⟩, hst⟩ := hst
          split at hst
          · rename_i sz ys hpl
            split at hst
            · rename_i r hr
              rw [Option.ite_none_right_eq_some] at hst
              obtain ⟨hcond, hst⟩ := hst
              cases hst
              simp only [Bool.and_eq_true, decide_eq_true_eq, List.length_map, beq_iff_eq] at hcond
              obtain ⟨⟨hoff, hall⟩, hrl⟩ := hcond
              obtain ⟨G2, r2, l2, c2, o2, K2⟩ := r1.cellsAir v1 (rowC_fz_notTup hall) false
              have hev := K2.vt (r := .air 1) (fun _ _ _ _ h1 h2 h3 => by have := hasOwn_part h1 h2 h3; cases this) (lookO_vt r1 had (.air 1) rfl)
              obtain ⟨bb, oo, hp, _, _, _, hq⟩ := (hev : EpV w G2 s1.m e (some (p, ver)) i row off (a.eval x))
              obtain ⟨hair, _, hq⟩ := hq p ver rfl
              obtain ⟨hb1, hb2⟩ := hq hver
              obtain ⟨v, hown⟩ := getPl_own r2 hpl hok
              have hne : ys ≠ [] := by rintro rfl; simp at hr
              rcases hown with ⟨q, _⟩ | ⟨hz, b, o1, cap, hv, hcap, hown, hfin, hGpl, hcell, hrows⟩
              · exact absurd q hne
              · rw [hGpl] at hb1 hb2
                simp only at hb1 hb2
                subst hb1
                have hrs : r.length = sz := hrows.1 r (List.mem_of_getElem? hr)
                have hi : i < ys.length := (List.getElem?_eq_some_iff.1 hr).1
                rw [← hrl, hrs] at hb2
                have hmul := mul_lt (sz := sz) hi
                have hmul2 : ys.length * sz ≤ cap * sz := Nat.mul_le_mul_right _ hcap
                have hin : ∀ j, j < (cellsD d).length → oo + off + j = o1 + (i * sz + off + j) ∧ i * sz + off + j < cap * sz := fun j hj => by omega
                have hW := Wr.of_setCells w bb (oo + off) (a.eval y).cells.toList
                have hcs : ∀ j, j < (a.eval y).cells.toList.length → (w.cell? ⟨bb, oo + off + j, none⟩).isSome = true := fun j hj => by
                  rw [l2] at hj
                  obtain ⟨i1, i2⟩ := hin j hj
                  obtain ⟨⟨u, hu⟩, _⟩ := hcell _ i2
                  rw [i1, hu]; rfl
                refine fin G2 _ ?_ (r2.writeOwn hpl hok hW hown (fun v' hv' => ?_))
                · rw [hp]
                  refine run_storeAt H htl (by simpa [hsz] using l2) (fun j hj => hcs j (by simpa using hj)) (fun j hj => ?_) o2
                  rw [← Array.length_toList, l2] at hj
                  obtain ⟨i1, i2⟩ := hin j hj
                  rw [i1]
                  exact (hcell _ i2).2
                · have hsl : (splice r off ((cellsD d).map fz)).length = sz := by rw [length_splice _ _ _ (by simpa using hoff), hrs]
                  rcases hv' with ⟨q, _⟩ | ⟨_, b', o1', cap', rfl, hcap', hown', hfin', hGpl', hcell', hrows'⟩
                  · exact absurd q hne
                  · rw [hGpl] at hGpl'
                    cases hGpl'
                    have K := hW.ownKeeps hown r2.stow s1.m
                    refine .inr ⟨hz, bb, o1, cap', by simp, by simpa using hcap', hown, by simpa using hfin, hGpl, fun q hq => ?_, fun r' hr' => ?_, fun j c' r' d' hr' hd' => ?_⟩
                    · obtain ⟨⟨u, hu⟩, hf⟩ := hcell' q hq
                      refine ⟨?_, by rw [hW.frozen]; exact hf⟩
                      by_cases hin2 : oo + off ≤ o1 + q ∧ o1 + q < oo + off + (a.eval y).cells.toList.length
                      · obtain ⟨z, hz⟩ : ∃ z, (a.eval y).cells.toList[o1 + q - (oo + off)]? = some z := ⟨_, List.getElem?_eq_getElem (by omega)⟩
                        have := setCells_at hcs hz
                        rw [show oo + off + (o1 + q - (oo + off)) = o1 + q by omega] at this
                        exact ⟨z, this⟩
                      · exact ⟨u, by rw [World.cell?_setCells_out bb _ _ _ _ (fun _ _ => by show o1 + q < _ ∨ _ ≤ o1 + q; omega)]; exact hu⟩
                    · rcases List.mem_or_eq_of_mem_set hr' with h1 | rfl
                      · exact hrows.1 r' h1
                      · exact hsl
                    · have hc' : c' < sz := by
                        have h8 := (List.getElem?_eq_some_iff.1 hd').1
                        rcases List.mem_or_eq_of_mem_set (List.mem_of_getElem? hr') with h1 | rfl
                        · rwa [hrows.1 r' h1] at h8
                        · rwa [hsl] at h8
                      by_cases hji : j = i
                      · subst hji
                        rw [List.getElem?_set_self hi] at hr'
                        cases hr'
                        rw [getElem?_splice _ _ _ (by simpa using hoff), List.length_map] at hd'
                        split at hd'
                        · rename_i hin2
                          obtain ⟨z, hz⟩ : ∃ z, (a.eval y).cells.toList[c' - off]? = some z := ⟨_, List.getElem?_eq_getElem (by omega)⟩
                          have h7 := setCells_at hcs hz
                          rw [show oo + off + (c' - off) = o1 + (j * sz + c') by omega] at h7
                          refine ⟨z, h7, K.imm (vc_rowC (c2 (c' - off) d' z (by simpa using hd') hz) ?_)⟩
                          exact List.all_eq_true.1 hall d' (List.mem_of_getElem? hd')
                        · rename_i hin2
                          obtain ⟨u, hu, hi'⟩ := hrows.2 j c' r d' hr hd'
                          exact ⟨u, by rw [World.cell?_setCells_out bb _ _ _ _ (fun _ _ => by show o1 + (j * sz + c') < _ ∨ _ ≤ o1 + (j * sz + c'); omega)]; exact hu, K.imm hi'⟩
                      · rw [List.getElem?_set_ne (fun q => hji q.symm)] at hr'
                        obtain ⟨u, hu, hi'⟩ := hrows.2 j c' r' d' hr' hd'
                        refine ⟨u, ?_, K.imm hi'⟩
                        rw [World.cell?_setCells_out bb _ _ _ _ (fun _ _ => ?_)]
                        · exact hu
                        · show o1 + (j * sz + c') < _ ∨ _ ≤ o1 + (j * sz + c')
                          rcases Nat.lt_or_ge j i with hlt | hge
                          · have := mul_lt (sz := sz) hlt
                            omega
                          · have := mul_lt (sz := sz) (show i < j by omega)
                            omega
            · cases hst
          · cases hst
        · cases hst
      · cases hs
    · cases hs
  · cases hs

/-! ### Loads -/
theorem Rel.takeOut (h : Rel X G s a w) {r : Root} {off n N : Nat} (hm : Ups s.m m') : 
    Keeps w G s.m w (G.mv (fromB N r off n) (inB N r off n)) m' (fun p => fromB N r off n p = none ∧ inB N r off n p = none) :=
  mv_keeps hm.ep hm.rv hm.al hm.era (fun q p hq => by
    left
    unfold inB at hq
    rw [Option.ite_none_right_eq_some] at hq
    rw [hq.1.1]
    rfl)

theorem op_loadAll (H : LyOK P L) (h : Rel X G s a w) (hn : c.n = X.n) {o : Oper} {t : Nat} {x : Operand} (ho : o.op = .load t x) (hs : opD L c X.ro s o = some s') : Yd2 P c X G o s a w s' := by
  by_cases hx : ∀ ad cs dst, lookO s x = some ad → readD X.ro s ad (L.size t) = some cs → cs.any isOwn = true → o.dst = some dst → c.xf.contains dst = false
  · exact op_load H h hn ho hs hx
  · simp only [Classical.not_forall] at hx
    obtain ⟨ad, cs, dst, had, hcs, hown, hdst, hxf⟩ := hx
    have hxf : c.xf.contains dst = true := by simpa using hxf
    simp only [opD, ho, had, loadD, hcs, hown, if_true, hdst] at hs
    have hao : hasOwn ad = false := by
      unfold readD at hcs
      split at hcs <;> first | rfl | cases hcs
    have hva := lookO_vt h had (.air 0) hao
    obtain ⟨b, off, hv, hlen, hcell⟩ := readD_rel h hva hcs
    have hr : ∀ {cs' d}, ofCells L t cs' = some d → (execOp a.eval o).run P w = .ok (.value (mkV L t (cellsAt w b off (L.size t)))) w := by
      intro cs' d hof
      obtain ⟨_, td, ht⟩ := ofCells_has hof
      simp only [execOp, ho, hv]
      rw [Sem.run_bind, run_loadAt H ht (fun j hj => ?_) (ofCells_one hof)]
      · rfl
      · obtain ⟨u, hu, _⟩ := hcell j (cs[j]'(by omega)) (List.getElem?_eq_getElem (by omega))
        exact ⟨u, hu⟩
    have hcell' : ∀ j d u, cs[j]? = some d → (cellsAt w b off (L.size t))[j]? = some u → VC w G s.m (srcP s ad j) d u := by
      intro j d u hd hu
      obtain ⟨u', hu', hc⟩ := hcell j d hd
      have hj : j < L.size t := by rw [← hlen]; exact (List.getElem?_eq_some_iff.1 hd).1
      rw [cellsAt_get hj hu'] at hu
      cases hu
      exact hc
    split at hs
    · rename_i r off' y hroot hy
      cases hy
      rw [if_pos hxf] at hs
      have fin : ∀ (G1 : Gh) (s1 : DS) (d : D), ofCells L t cs = some d → Rel X G1 s1 a w → put c (some dst) d s1 = some s' → (∀ j d u, cs[j]? = some d → (cellsAt w b off (L.size t))[j]? = some u → VC w G1 s1.m ⟨.air 0, 0, j⟩ d u) → Yd2 P c X G o s a w s' := by
        intro G1 s1 d hof r1 hp hc
        rw [← hdst] at hp
        exact Yd2.tk (.inr ⟨dst, hdst, hxf⟩) r1 (hr hof) hp 0 (ofCells_vt hof (by rw [cellsAt_length, hlen]) hc)
      split at hs
      · rename_i u
        split at hs
        · rename_i bs hbs
          split at hs
          · rename_i d hof
            have hro : ∃ ver, ad = .lptr u ver off' := by
              unfold rootOf at hroot
              split at hroot <;> first | (cases hroot; exact ⟨_, rfl⟩) | cases hroot
            obtain ⟨ver, rfl⟩ := hro
            simp only [readD] at hcs
            rw [Option.ite_none_right_eq_some] at hcs
            obtain ⟨hver, hcs⟩ := hcs
            rw [hbs] at hcs
            simp only at hcs
            obtain ⟨z1, z2, z3⟩ := sliceL_get hcs
            have K := h.takeOut (r := .lbox u) (off := off') (n := cs.length) (N := 0) (m' := s.m.bL u) (bR_ups _ (.lbox u))
            have r1 : Rel X (G.mv (fromB 0 (.lbox u) off' cs.length) (inB 0 (.lbox u) off' cs.length)) { s with loc := insL u (splice bs off' (cs.map (leftC s.m.ep))) s.loc, m := s.m.bL u } a w := by
              refine h.re (fun b hb => mv_own_other hb) rfl rfl (fun b e he => .inl he) (mv_stow h.stow) h.std (fun u' e hu => K.vt (fun i q j c _ _ _ => ⟨fromB_no (.inl (by simp)), inB_no (by simp)⟩) (h.env u' e hu)) (fun u' bs' hu => ?_) rfl rfl (fun k o b hk hb => h.stoK K (fun t j => ⟨fromB_no (.inl (by simp)), inB_no (by simp)⟩) hk hb)
              have hu' : lk u' (insL u (splice bs off' (cs.map (leftC s.m.ep))) s.loc) = some bs' := hu
              rw [lk_insL] at hu'
              by_cases e : u' = u
              · subst e
                simp at hu'
                subst hu'
                refine ⟨⟨bs, hbs⟩, fun j d hd => ?_⟩
                rw [getElem?_splice _ _ _ (by simp; omega), List.length_map] at hd
                obtain ⟨_, hbx⟩ := h.loc u' bs hbs
                split at hd
                · rename_i hj
                  rw [List.getElem?_map] at hd
                  obtain ⟨d0, hd0, rfl⟩ := Option.map_eq_some_iff.1 hd
                  rw [z3 (j - off') (by omega), show off' + (j - off') = j by omega] at hd0
                  obtain ⟨v, v1, v2, v3⟩ := hbx j d0 hd0
                  exact ⟨v, v1, v2, VC.left K rfl v3⟩
                · rename_i hj
                  obtain ⟨v, v1, v2, v3⟩ := hbx j d hd
                  exact ⟨v, v1, v2, K.vc (fun _ => ⟨fromB_no (.inr hj), inB_no (by simp)⟩) v3⟩
              · simp only [e, if_false] at hu'
                exact ⟨⟨bs', hu'⟩, K.box (fun j c _ _ => ⟨fromB_no (.inl (by simp [e])), inB_no (by simp)⟩) (fun _ => ⟨rfl, rfl⟩) (h.loc u' bs' hu').2⟩
            refine fin _ _ d hof r1 hs (fun j d u' hd hu => ?_)
            have hj : j < cs.length := (List.getElem?_eq_some_iff.1 hd).1
            have h1 := hcell' j d u' hd hu
            simp only [srcP, rootOf] at h1
            refine VC.mv K ?_ ?_ h1
            · have := fromB_at (N := 0) (r := .lbox u) (off := off') (n := cs.length) (j := off' + j) (by omega) (by omega)
              rwa [show off' + j - off' = j by omega] at this
            · have := inB_at (N := 0) (r := .lbox u) (off := off') (n := cs.length) (j := off' + j) (by omega) (by omega)
              rwa [show off' + j - off' = j by omega] at this
          · cases hs
        · cases hs
      · rename_i k
        split at hs
        · rename_i bs hbs
          split at hs
          · rename_i d hof
            have hro : ad = .gptr k off' := by
              unfold rootOf at hroot
              split at hroot <;> first | (cases hroot; rfl) | cases hroot
            subst hro
            simp only [readD, hbs] at hcs
            split at hcs
            · rename_i ds hds
              cases hcs
              obtain ⟨z1, z2, z3⟩ := sliceL_get hds
              have hkr : X.ro ≤ k := by
                refine Nat.le_of_not_lt fun hk => ?_
                obtain ⟨y, hy, hyo⟩ := List.any_eq_true.1 hown
                obtain ⟨y0, _, rfl⟩ := List.mem_map.1 hy
                rw [fz_seeC hk, fz_own] at hyo
                cases hyo
              have hsee : ds.map (seeC X.ro k) = ds := by
                have : (seeC X.ro k) = id := by
                  funext y
                  simp [seeC, Nat.not_lt.2 hkr]
                rw [this, List.map_id]
              rw [hsee] at hs hof hlen hcell hown hcell' fin
              have K := h.takeOut (r := .gbox k) (off := off') (n := ds.length) (N := 0) (m' := s.m.bG) (bR_ups _ (.gbox k))
              have r1 : Rel X (G.mv (fromB 0 (.gbox k) off' ds.length) (inB 0 (.gbox k) off' ds.length)) { s with sto := s.sto.set k (.box (splice bs off' (ds.map fun x => if isOwn x then .dead else x))), m := s.m.bG } a w := by
                refine h.re (fun b hb => mv_own_other hb) rfl rfl (fun b e he => .inl he) (mv_stow h.stow) h.std (fun u' e hu => K.vt (fun i q j c _ _ _ => ⟨fromB_no (.inl (by simp)), inB_no (by simp)⟩) (h.env u' e hu)) (fun u' bs' hu => ⟨⟨bs', hu⟩, h.locK K (fun t j => ⟨fromB_no (.inl (by simp)), inB_no (by simp)⟩) hu⟩) rfl (by simp) (fun k' o b' hk' hb' => ?_)
                have hk2 : (s.sto.set k (.box (splice bs off' (ds.map fun x => if isOwn x then .dead else x))))[k']? = some o := hk'
                by_cases e : k' = k
                · subst e
                  rw [List.getElem?_set_self (List.getElem?_eq_some_iff.1 hbs).1] at hk2
                  cases hk2
                  obtain ⟨b'', h1, h2, h3, h4⟩ := h.sto k' _ hbs
                  rw [hb'] at h1
                  cases h1
                  simp only [ObV] at h4 ⊢
                  rw [if_neg (by omega)] at h4 ⊢
                  intro j d hd
                  rw [getElem?_splice _ _ _ (by simp; omega), List.length_map] at hd
                  split at hd
                  · rename_i hj
                    rw [List.getElem?_map] at hd
                    obtain ⟨d0, hd0, rfl⟩ := Option.map_eq_some_iff.1 hd
                    rw [z3 (j - off') (by omega), show off' + (j - off') = j by omega] at hd0
                    obtain ⟨v, v1, v2, v3⟩ := h4 j d0 hd0
                    refine ⟨v, v1, v2, ?_⟩
                    split
                    · exact vc_one v3
                    · rename_i ho
                      exact K.vc (fun q => absurd q ho) v3
                  · rename_i hj
                    obtain ⟨v, v1, v2, v3⟩ := h4 j d hd
                    exact ⟨v, v1, v2, K.vc (fun _ => ⟨fromB_no (.inr hj), inB_no (by simp)⟩) v3⟩
                · rw [List.getElem?_set_ne (fun q => e q.symm)] at hk2
                  obtain ⟨b'', h1, h2, h3, h4⟩ := h.sto k' _ hk2
                  rw [hb'] at h1
                  cases h1
                  cases o with
                  | map es => exact h4
                  | box cs' =>
                    simp only [ObV] at h4 ⊢
                    split <;> rename_i hr'
                    · simp only [hr', if_true] at h4
                      intro j d hd
                      obtain ⟨u, h5, h6⟩ := h4 j d hd
                      exact ⟨u, h5, K.imm h6⟩
                    · simp only [hr', if_false] at h4
                      exact K.box (fun j c _ _ => ⟨fromB_no (.inl (by simp [e])), inB_no (by simp)⟩) (fun _ => ⟨rfl, rfl⟩) h4
              refine fin _ _ d hof r1 hs (fun j d u' hd hu => ?_)
              have hj : j < ds.length := (List.getElem?_eq_some_iff.1 hd).1
              have h1 := hcell' j d u' hd hu
              simp only [srcP, rootOf] at h1
              refine VC.mv K ?_ ?_ h1
              · have := fromB_at (N := 0) (r := .gbox k) (off := off') (n := ds.length) (j := off' + j) (by omega) (by omega)
                rwa [show off' + j - off' = j by omega] at this
              · have := inB_at (N := 0) (r := .gbox k) (off := off') (n := ds.length) (j := off' + j) (by omega) (by omega)
                rwa [show off' + j - off' = j by omega] at this
            · cases hcs
          · cases hs
        · cases hs
      · cases hs
    · cases hs
end

end Go.Lv
