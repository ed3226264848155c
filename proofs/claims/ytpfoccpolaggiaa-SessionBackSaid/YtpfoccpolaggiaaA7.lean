/-
  A7: loads, addresses, parts, elements, cuts, lengths, conversions, look-ups.
-/
import Derived.Test.YtpfoccpolaggiaaA6
set_option linter.all false
namespace Go.Lv

section
variable {P : Program} {L : Ly} {X : Ctx} {G : Gh} {s s' : DS} {a : Act} {w : World} {c : FC}

/-- A value of a type out of its cells. -/
noncomputable def mkV (L : Ly) (t : Nat) (us : List Value) : Value := if L.agg t then .agg us.toArray else us.headD undef

theorem ofCells_has {t : Nat} {cs : List D} {d : D} (h : ofCells L t cs = some d) : cs.length = L.size t ∧ ∃ td, L[t]? = some td := by
  unfold ofCells at h
  rw [Option.ite_none_right_eq_some] at h
  obtain ⟨h1, h⟩ := h
  refine ⟨h1, ?_⟩
  split at h
  · rename_i ha
    unfold Ly.agg Ly.tk at ha
    cases ht : L[t]? with
    | none => simp [ht] at ha
    | some td => exact ⟨td, rfl⟩
  · split at h
    · obtain ⟨d, hd, _⟩ := size_has (L := L) (t := t) (by rw [← h1]; simp)
      exact ⟨d, hd⟩
    · cases h

theorem ofCells_vt {m : Mt} {r : Root} {t : Nat} {cs : List D} {d : D} {us : List Value} (h : ofCells L t cs = some d) (hl : us.length = cs.length) (hv : ∀ j d u, cs[j]? = some d → us[j]? = some u → VC w G m ⟨r, 0, j⟩ d u) : VT w G m r d (mkV L t us) := by
  unfold ofCells at h
  rw [Option.ite_none_right_eq_some] at h
  obtain ⟨_, h⟩ := h
  unfold mkV
  split at h
  · rename_i ha
    cases h
    rw [if_pos ha]
    exact ⟨us, rfl, hl, hv⟩
  · rename_i ha
    rw [if_neg ha]
    split at h
    · cases h
      cases us with
      | nil => simp at hl
      | cons u rest =>
        have h1 := hv 0 _ u rfl rfl
        rw [VT_part h1.plain.2, VP_cell h1.plain.1]
        exact h1
    · cases h

theorem vc_one {m : Mt} {p : Place} {d : D} {u : Value} (h : VC w G m p d u) : u.oneCell' = true := by
  have key : ∀ {d u}, Imm w G.be G.st d u → u.oneCell' = true := by
    intro d u h
    cases h <;> rfl
  cases d with
  | list q xs =>
    cases q with
    | own sz =>
      rcases h with ⟨_, rfl⟩ | ⟨_, b, off, cap, rfl, _⟩ <;> rfl
    | cp e p =>
      obtain ⟨A, cap, rfl, _⟩ := h
      rfl
    | imm => exact key h
  | lptr => obtain ⟨ad, rfl, _⟩ := h; rfl
  | eptr => obtain ⟨b, o, rfl, _⟩ := h; rfl
  | stamp => obtain ⟨n, rfl, _⟩ := h; rfl
  | dead => exact h
  | agg => exact h.elim
  | tup => exact h.elim
  | int => exact key h
  | bool => exact key h
  | str => exact key h
  | nil => exact key h
  | gptr => exact key h
  | nilmap => exact key h
  | map => exact key h
  | fn => exact key h
  | nilfn => exact key h

/-- The n cells of a block from o on. -/
noncomputable def cellsAt (w : World) (b o n : Nat) : List Value := (List.range n).map fun j => (w.cell? ⟨b, o + j, none⟩).getD undef
theorem cellsAt_length (b o n : Nat) : (cellsAt w b o n).length = n := by simp [cellsAt]
theorem cellsAt_get {b o n j : Nat} (hj : j < n) {u : Value} (h : w.cell? ⟨b, o + j, none⟩ = some u) : (cellsAt w b o n)[j]? = some u := by
  simp [cellsAt, hj, h]

theorem run_loadAt (H : LyOK P L) {t b o : Nat} {td : Td} (ht : L[t]? = some td) (hc : ∀ j, j < L.size t → ∃ u, w.cell? ⟨b, o + j, none⟩ = some u) (h1 : L.agg t = false → L.size t = 1) :
    (Instr.loadAt t (.pointer (some ⟨b, o, none⟩))).run P w = .ok (mkV L t (cellsAt w b o (L.size t))) w := by
  unfold Instr.loadAt Instr.sureAddr
  simp only [Sem.run_bind, Sem.run_pure, Result.andThen_ok, loadVar, H.isAgg ht]
  cases ha : L.agg t with
  | true =>
    simp only [if_true, Sem.run_bind, H.sizeOf' ht, Result.andThen_ok]
    have := run_loadCells_list (P := P) (w := w) ⟨b, o, none⟩ (cellsAt w b o (L.size t)) (fun j v hv => by
      have hj : j < L.size t := by
        have := (List.getElem?_eq_some_iff.1 hv).1
        rwa [cellsAt_length] at this
      obtain ⟨u, hu⟩ := hc j hj
      rw [cellsAt_get hj hu] at hv
      cases hv
      rw [add_none]
      exact hu)
    rw [cellsAt_length] at this
    simp only [this, Result.andThen_ok, Sem.run_pure, mkV, ha, if_true]
  | false =>
    obtain ⟨u, hu⟩ := hc 0 (by rw [h1 ha]; omega)
    simp only [Bool.false_eq_true, if_false, mkV, ha]
    have e : (cellsAt w b o (L.size t)).headD undef = u := by
      have := cellsAt_get (w := w) (n := L.size t) (j := 0) (by rw [h1 ha]; omega) hu
      cases hl : cellsAt w b o (L.size t) with
      | nil => simp [hl] at this
      | cons x r => simp [hl] at this; simp [this]
    rw [e]
    rw [Nat.add_zero] at hu
    simp [hu]

theorem ofCells_one {t : Nat} {cs : List D} {d : D} (h : ofCells L t cs = some d) : L.agg t = false → L.size t = 1 := by
  intro ha
  unfold ofCells at h
  rw [Option.ite_none_right_eq_some] at h
  obtain ⟨h1, h⟩ := h
  simp only [ha, Bool.false_eq_true, if_false] at h
  split at h
  · rw [← h1]; rfl
  · cases h

theorem rootOf_air {ad : D} {r : Root} {off : Nat} (h : rootOf s ad = some (r, off)) : r.isAir = false := by
  unfold rootOf at h
  split at h <;> first | (cases h; rfl) | cases h

theorem op_load (H : LyOK P L) (h : Rel X G s a w) (hn : c.n = X.n) {o : Oper} {t : Nat} {x : Operand} (ho : o.op = .load t x) (hs : opD L c X.ro s o = some s')
    (hx : ∀ ad cs dst, lookO s x = some ad → readD X.ro s ad (L.size t) = some cs → cs.any isOwn = true → o.dst = some dst → c.xf.contains dst = false) : Yd2 P c X G o s a w s' := by
  simp only [opD, ho] at hs
  split at hs
  · rename_i ad had
    unfold loadD at hs
    split at hs
    · cases hs
    · rename_i cs hcs
      have hao : hasOwn ad = false := by
        unfold readD at hcs
        split at hcs <;> first | rfl | cases hcs
      obtain ⟨b, off, hv, hlen, hcell⟩ := readD_rel h (lookO_vt h had (.air 0) hao) hcs
      have hr : ∀ {cs' d}, ofCells L t cs' = some d → (execOp a.eval o).run P w = .ok (.value (mkV L t (cellsAt w b off (L.size t)))) w := by
        intro cs' d hof
        obtain ⟨_, td, ht⟩ := ofCells_has hof
        simp only [execOp, ho, hv]
        rw [Sem.run_bind, run_loadAt H ht (fun j hj => ?_) (ofCells_one hof)]
        · rfl
        · obtain ⟨u, hu, _⟩ := hcell j (cs[j]'(by omega)) (List.getElem?_eq_getElem (by omega))
          exact ⟨u, hu⟩
      have hcell' : ∀ j d u, cs[j]? = some d → (cellsAt w b off (L.size t))[j]? = some u → VC w G s.m (srcP s ad j) d u := by
        intro j d u hd hu
        obtain ⟨u', hu', hc⟩ := hcell j d hd
        have hj : j < L.size t := by rw [← hlen]; exact (List.getElem?_eq_some_iff.1 hd).1
        rw [cellsAt_get hj hu'] at hu
        cases hu
        exact hc
      split at hs
      · rename_i hown
        split at hs
        · rename_i r off' y hroot hdst
          rw [hx ad cs y had hcs hown hdst] at hs
          simp only [Bool.false_eq_true, if_false] at hs
          split at hs
          · rename_i d hof
            refine Yd2.put (hr hof) hs 0 (ofCells_vt hof ?_ fun j d u hd hu => ?_)
            · rw [mapIx_length, cellsAt_length, hlen]
            · rw [mapIx_get] at hd
              obtain ⟨d0, hd0, rfl⟩ := Option.map_eq_some_iff.1 hd
              have h1 := hcell' j d0 u hd0 hu
              simp only [srcP, hroot] at h1
              exact VC.look (Keeps.refl _ _ _ (fun _ => True)) rfl (p := ⟨r, 0, off' + j⟩) (rootOf_air hroot) trivial h1
          · cases hs
        · cases hs
      · rename_i hown
        split at hs
        · rename_i d hof
          refine Yd2.put (hr hof) hs 0 (ofCells_vt hof ?_ fun j d u hd hu => ?_)
          · rw [cellsAt_length, hlen]
          · refine (hcell' j d u hd hu).any ?_
            have := List.any_eq_false.1 (by simpa using hown) d (List.mem_of_getElem? hd)
            simpa using this
        · cases hs
  · cases hs

/-! ### Addresses -/
theorem offD_rel {r : Root} {x d : D} {v : Value} {n : Nat} (hv : VT w G s.m r x v) (hd : offD x n = some d) : ∃ ad, v = .pointer (some ad) ∧ VT w G s.m r d (.pointer (some (ad.add n))) ∧ hasOwn x = false ∧ hasOwn d = false := by
  unfold offD at hd
  split at hd
  · rename_i t ver off
    cases hd
    obtain ⟨ad, rfl, h1, h2⟩ := (hv : LpV G s.m t ver off v)
    refine ⟨ad, rfl, ⟨ad.add n, rfl, h1, fun he => ?_⟩, rfl, rfl⟩
    rw [h2 he, add_none]
  · rename_i k off
    cases hd
    obtain ⟨b, hb, rfl⟩ := inv_gptr hv
    exact ⟨_, rfl, by rw [add_none]; exact .gptr _ _ _ hb, rfl, rfl⟩
  · rename_i e p i row off
    cases hd
    obtain ⟨b, o, rfl, h1⟩ := (hv : EpV w G s.m e p i row off v)
    exact ⟨_, rfl, ⟨b, o, by rw [add_none, Nat.add_assoc], h1⟩, rfl, rfl⟩
  · cases hd

theorem op_fieldAddr (H : LyOK P L) (h : Rel X G s a w) (hn : c.n = X.n) {o : Oper} {t f : Nat} {x : Operand} (ho : o.op = .fieldAddr t x f) (hs : opD L c X.ro s o = some s') : Yd2 P c X G o s a w s' := by
  simp only [opD, ho] at hs
  split at hs
  · rename_i off u ad hf had
    rw [Option.ite_none_right_eq_some] at hs
    obtain ⟨hu, hs⟩ := hs
    split at hs
    · rename_i d hd
      have hao : hasOwn ad = false := by unfold offD at hd; split at hd <;> first | rfl | cases hd
      obtain ⟨ad', e1, h2, _, _⟩ := offD_rel (lookO_vt h had (.air 0) hao) hd
      refine Yd2.put ?_ hs 0 h2
      unfold fieldOf at hf
      split at hf
      · rename_i fs hk
        obtain ⟨gs, h3, rfl⟩ := H.struct hk
        rw [List.getElem?_map] at hf
        obtain ⟨g, hg, hg'⟩ := Option.map_eq_some_iff.1 hf
        cases hg'
        have hg2 : gs[f]? = some g := by simpa using hg
        have hsz := H.sizeOf hu w
        have hne : L.size g.type ≠ 0 := by omega
        simp [execOp, ho, e1, Instr.fieldAt, run_underlying h3, hg2, Instr.sureAddr, fieldPlace, hsz, hne]
      · cases hf
    · cases hs
  · cases hs

theorem idxD_inv {d : D} {n k : Nat} (h : idxD d n = some k) : ∃ kd, d = .int kd k ∧ k < n := by
  unfold idxD at h
  split at h
  · rename_i kd i
    rw [Option.ite_none_right_eq_some] at h
    obtain ⟨h1, h⟩ := h
    cases h
    exact ⟨kd, by rw [Int.toNat_of_nonneg h1.1], by omega⟩
  · cases h

theorem rowsAt_row {b off sz i : Nat} {ys : List (List D)} {row : List D} (h : RowsAt w G.be G.st b off sz ys) (hi : ys[i]? = some row) : row.length = sz ∧ ∀ c d, row[c]? = some d → ∃ u, w.cell? ⟨b, off + i * sz + c, none⟩ = some u ∧ Imm w G.be G.st d u :=
  ⟨h.1 row (List.mem_of_getElem? hi), fun c d hd => by
    obtain ⟨u, hu, hi'⟩ := h.2 i c row d hi hd
    exact ⟨u, by rw [Nat.add_assoc]; exact hu, hi'⟩⟩

theorem rd_down (h : Rel X G s a w) {b n n' : Nat} (hr : G.rd b n) (hn : n' ≤ n) : G.rd b n' := by
  rcases hr with hr | ⟨hp, hr⟩
  · exact .inl (h.std _ _ _ hr hn)
  · exact .inr ⟨hp, by omega⟩

theorem mul_lt {i n sz : Nat} (hi : i < n) : i * sz + sz ≤ n * sz := by
  have : (i + 1) * sz ≤ n * sz := Nat.mul_le_mul_right _ hi
  rwa [Nat.succ_mul] at this

theorem run_indexAt (H : LyOK P L) {t e : Nat} (hk : L.tk t = .slice e) (he : 0 < L.size e) {b off len cap k : Nat} {kd : IntKind} (hl : k < len) :
    (Instr.indexAt t (.slice (some ⟨b, off, none⟩) len cap) (.int kd k)).run P w = .ok (.pointer (some ⟨b, off + k * L.size e, none⟩)) w := by
  have hu := H.slice hk
  have h1 : (0 : Int) ≤ (k : Int) ∧ (k : Int) < (len : Int) := by omega
  simp only [Instr.indexAt, Sem.run_bind, asIntOf, Sem.run_pure, Result.andThen_ok, run_underlying hu]
  have hne : ((decide (len ≤ 1)) && (match (TypeDesc.slice e) with | .array .. => true | _ => false)) = false := by simp
  simp [h1, H.sizeOf he w, add_none]

theorem op_indexAddr (H : LyOK P L) (h : Rel X G s a w) (hn : c.n = X.n) {o : Oper} {t : Nat} {x y : Operand} (ho : o.op = .indexAddr t x y) (hs : opD L c X.ro s o = some s') : Yd2 P c X G o s a w s' := by
  simp only [opD, ho] at hs
  split at hs
  · rename_i d1 d2 h1 h2
    split at hs
    · rename_i d hd
      unfold indexAddrD at hd
      split at hd
      · rename_i e hk
        split at hd
        · rename_i q xs0 ys hls
          split at hd
          · rename_i k hidx
            obtain ⟨kd, rfl, hkn⟩ := idxD_inv hidx
            split at hd
            · rename_i row hrow
              rw [Option.ite_none_right_eq_some] at hd
              obtain ⟨⟨hlen, he⟩, hd⟩ := hd
              have e2 := inv_int (lookO_vt h h2 (.air 0) rfl)
              have hx' := lookO_any h h1
              obtain ⟨r, hx'⟩ := hx'
              obtain ⟨A, cap, hv, hor⟩ := lsD_rel h hx' hls
              rcases hor with rfl | ⟨b, off, sz, rfl, hz, hc, hrd, hrows⟩
              · simp at hkn
              obtain ⟨hl, hcells⟩ := rowsAt_row hrows hrow
              have hsz : sz = L.size e := by omega
              subst hsz
              have hr : (execOp a.eval o).run P w = .ok (.value (.pointer (some ⟨b, off + k * L.size e, none⟩))) w := by
                simp only [execOp, ho, hv, e2]
                rw [Sem.run_bind, run_indexAt H hk he hkn]
                rfl
              have hend : off + k * L.size e + row.length ≤ off + ys.length * L.size e := by
                have := mul_lt (sz := L.size e) hkn
                omega
              have hrd' : G.rd b (off + k * L.size e + row.length) := rd_down h hrd hend
              split at hd
              · cases hd
                refine Yd2.put hr hs 0 ⟨b, off + k * L.size e, rfl, fun n hn => (nomatch hn), fun _ => ?_, fun _ => ⟨hrd', hcells⟩, fun p n hq => (nomatch hq)⟩
                simp only [lsD] at hls
                cases hls
                have hi : Imm w G.be G.st (.list .imm xs0) (a.eval x) := hx'
                rw [hv] at hi
                rcases imm_list.1 hi with ⟨rfl, _⟩ | ⟨b', off', cap', sz', e1, q1, q2, q3, q4, q5⟩
                · simp at hkn
                · cases e1
                  have : sz' = L.size e := by rw [← q5.1 row (List.mem_of_getElem? hrow)]; exact hlen
                  subst this
                  exact h.std _ _ _ q4 hend
              · rename_i e0 p0
                cases hd
                have hi : CpL w G s.m e0 p0 xs0 (a.eval x) := hx'
                refine Yd2.put hr hs 0 ⟨b, off + k * L.size e, rfl, fun n hn => by cases hn; exact Nat.le_refl _, fun hn => (nomatch hn), fun _ => ⟨hrd', hcells⟩, fun p n hq => ?_⟩
                obtain ⟨A', cap', e1, _, _, h5⟩ := hi
                obtain ⟨h6, h7, h8⟩ := h5 p n hq
                refine ⟨h6, h7, fun hvv => ?_⟩
                rw [hv] at e1
                have e1' : (some (⟨b, off, none⟩ : Addr)) = A' ∧ ys.length = xs0.length := by
                  injection e1 with e3 e4 e5
                  exact ⟨e3, e4⟩
                rcases h8 hvv with h9 | ⟨h9, _⟩
                · exfalso
                  have e6 := e1'.2
                  rw [h9, List.length_nil] at e6
                  omega
                · rw [h9] at e1'
                  have e3 := e1'.1
                  injection e3 with e3
                  injection e3 with e4 e5
                  subst e4
                  exact ⟨rfl, by rw [← e5, hlen]⟩
              · rename_i sz0
                split at hd
                · rename_i u
                  cases hd
                  simp only [lsD] at hls
                  cases hls
                  have hi : OwnL w G ⟨.slot u, 0, 0⟩ sz0 xs0 (a.eval (.tmp u)) := h.env u _ h1
                  refine Yd2.put hr hs 0 ⟨b, off + k * L.size e, rfl, fun n hn => by cases hn; exact Nat.le_refl _, fun hn => (nomatch hn), fun _ => ⟨hrd', hcells⟩, fun p n hq => ?_⟩
                  cases hq
                  refine ⟨rfl, Nat.le_refl _, fun _ => ?_⟩
                  rcases hi with ⟨rfl, _⟩ | ⟨hz', b', off', cap', e1, _, _, _, hpl, _⟩
                  · simp at hkn
                  · rw [hv] at e1
                    cases e1
                    rw [hpl]
                    exact ⟨rfl, by rw [hlen]⟩
                · cases hd
            · cases hd
          · cases hd
        · cases hd
      · rename_i n e hk
        split at hd
        · rename_i k hidx
          obtain ⟨kd, rfl, hkn⟩ := idxD_inv hidx
          rw [Option.ite_none_right_eq_some] at hd
          obtain ⟨hsz, hd⟩ := hd
          have hao : hasOwn d1 = false := by unfold offD at hd; split at hd <;> first | rfl | cases hd
          obtain ⟨ad', e1, h3, _, _⟩ := offD_rel (lookO_vt h h1 (.air 0) hao) hd
          have e2 := inv_int (lookO_vt h h2 (.air 0) rfl)
          have hu := H.array hk
          have hb : (0 : Int) ≤ (k : Int) ∧ (k : Int) < (n : Int) := by omega
          refine Yd2.put ?_ hs 0 h3
          simp [execOp, ho, e1, e2, Instr.indexAt, asIntOf, run_underlying hu, Instr.sureAddr, hb, H.sizeOf hsz w]
          intro hc
          omega
        · cases hd
      · cases hd
    · cases hs
  · cases hs
end

end Go.Lv
