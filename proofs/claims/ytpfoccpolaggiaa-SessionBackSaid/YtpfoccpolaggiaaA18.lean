/-
  A18: variables made in memory.
-/
import Derived.Test.YtpfoccpolaggiaaA17
set_option linter.all false
namespace Go.Lv

section
variable {P : Program} {L : Ly} {X : Ctx} {G G' : Gh} {s s' s1 : DS} {a a' : Act} {w w' : World} {c : FC} {b : Nat} {m m' : Mt}

/-- Cells under way become a place's (that no one has). -/
theorem mvIn {N n : Nat} {r : Root} (hm : Ups m m') (hr : m'.rv r ≠ m.rv r) : Keeps w G m w (G.mv (inB N r 0 n) (fromB N r 0 n)) m' (fun p => inB N r 0 n p = none ∧ fromB N r 0 n p = none) :=
  mv_keeps hm.ep hm.rv hm.al hm.era (fun q p hq => by
    right
    unfold fromB at hq
    rw [Option.ite_none_right_eq_some] at hq
    rw [hq.1.1]
    exact hr)

theorem mvIn_vc {N n : Nat} {r : Root} (K : Keeps w G m w (G.mv (inB N r 0 n) (fromB N r 0 n)) m' (fun p => inB N r 0 n p = none ∧ fromB N r 0 n p = none)) {j : Nat} (hj : j < n) {d : D} {u : Value} (h : VC w G m ⟨.air N, 0, j⟩ d u) : VC w (G.mv (inB N r 0 n) (fromB N r 0 n)) m' ⟨r, 0, j⟩ d u := by
  refine VC.mv K ?_ ?_ h
  · have := inB_at (N := N) (r := r) (off := 0) (n := n) (j := j) (by omega) (by omega)
    simpa using this
  · have := fromB_at (N := N) (r := r) (off := 0) (n := n) (j := j) (by omega) (by omega)
    simpa using this

theorem New.boxCells {us : List Value} {t : Nat} (N : New w w' (.cells us.toArray t (0, 0))) {j : Nat} {u : Value} (h : us[j]? = some u) : w'.cell? ⟨w.heap.size, j, none⟩ = some u ∧ w'.frozen? ⟨w.heap.size, j, none⟩ = false := by
  unfold World.cell? World.frozen?
  simp only [N.at_]
  exact ⟨by simpa using h, by simp⟩

noncomputable def Gh.nloc (G : Gh) (t b : Nat) : Gh := { G with la := gset G.la t b, own := gset G.own b (some (.box (.lbox t))) }

theorem box_rel (h : Rel X G s a w) (hn : c.n = X.n) (hkp : c.kp = X.kp) {N t : Nat} {cs : List D} {us : List Value} (hl : us.length = cs.length) (hv : ∀ (j : Nat) (d : D) (u : Value), cs[j]? = some d → us[j]? = some u → VC w G s.m ⟨.air N, 0, j⟩ d u)
    (W : New w w' (.cells us.toArray t (0, 0))) {dst : Option Nat} (hs : boxD c s dst cs = some s') : ∃ G', Rel X G' s' (a.put dst (.pointer (some ⟨w.heap.size, 0, none⟩))) w' := by
  unfold boxD at hs
  cases dst with
  | none => cases hs
  | some x =>
    simp only at hs
    split at hs
    · rw [Option.ite_none_right_eq_some] at hs
      obtain ⟨hall, hs⟩ := hs
      have key0 : ∀ (G : Gh) (cs : List D), us.length = cs.length → Rel X G s a w → (∀ (j : Nat) (d : D) (u : Value), cs[j]? = some d → us[j]? = some u → VC w G s.m ⟨.air N, 0, j⟩ d u) → put c (some x) (.gptr s.sto.length 0) { s with sto := s.sto ++ [.box cs], m := if cs.any isOwn = true then s.m.bG else s.m } = some s' → ∃ G', Rel X G' s' (a.put (some x) (.pointer (some ⟨w.heap.size, 0, none⟩))) w' := by
        clear hl hv h cs hall hs
        intro G cs hl h hv hs
        have key : ∀ (G1 : Gh) (m1 : Mt), Rel X G1 { s with m := m1 } a w → (∀ (j : Nat) (d : D) (u : Value), cs[j]? = some d → us[j]? = some u → VC w G1 m1 ⟨.gbox s.sto.length, 0, j⟩ d u) → put c (some x) (.gptr s.sto.length 0) { s with sto := s.sto ++ [.box cs], m := m1 } = some s' → ∃ G', Rel X G' s' (a.put (some x) (.pointer (some ⟨w.heap.size, 0, none⟩))) w' := by
          intro G1 m1 r1 v1 hp
          have K1 := r1.nstoKeeps W
          have r2 := r1.newSto W (ob := .box cs) (by
            simp only [ObV]
            rw [if_neg (by have := h.ro; show ¬ s.sto.length < X.ro; omega)]
            intro j d hd
            obtain ⟨u, hu⟩ : ∃ u, us[j]? = some u := ⟨_, List.getElem?_eq_getElem (by have := (List.getElem?_eq_some_iff.1 hd).1; omega)⟩
            obtain ⟨c1, c2⟩ := W.boxCells hu
            exact ⟨u, c1, c2, K1.vc (fun _ => trivial) (v1 j d u hd hu)⟩)
          exact r2.putO hn hp 0 (Imm.gptr _ _ _ (gset_same _ _ _))
        by_cases ho : cs.any isOwn = true
        · rw [if_pos ho] at hs
          have K := mvIn (w := w) (G := G) (N := N) (n := cs.length) (bR_ups s.m (.gbox s.sto.length)) (bR_lt s.m (r := .gbox s.sto.length) rfl)
          refine key (G.mv (inB N (.gbox s.sto.length) 0 cs.length) (fromB N (.gbox s.sto.length) 0 cs.length)) _ ?_ (fun j d u hd hu => mvIn_vc K (List.getElem?_eq_some_iff.1 hd).1 (hv j d u hd hu)) hs
          refine h.re (fun b hb => mv_own_other hb) rfl rfl (fun b e he => .inl he) (mv_stow h.stow) h.std (fun u' e hu => K.vt (fun i q j c _ _ _ => ⟨inB_no (by simp), fromB_no (.inl (by simp))⟩) (h.env u' e hu)) (fun u' bs' hu => ⟨⟨bs', hu⟩, h.locK K (fun t j => ⟨inB_no (by simp), fromB_no (.inl (by simp))⟩) hu⟩) rfl rfl (fun k' o b' hk' hb' => ?_)
          obtain ⟨b'', h1, h2, h3, h4⟩ := h.sto k' o hk'
          have hlt := (List.getElem?_eq_some_iff.1 hk').1
          rw [hb'] at h1
          cases h1
          cases o with
          | map es => exact h4
          | box cs' =>
            simp only [ObV] at h4 ⊢
            split <;> rename_i hr'
            · simp only [hr', if_true] at h4
              intro j d hd
              obtain ⟨u, h5, h6⟩ := h4 j d hd
              exact ⟨u, h5, K.imm h6⟩
            · simp only [hr', if_false] at h4
              exact K.box (fun j c _ _ => ⟨inB_no (by simp), fromB_no (.inl (by show Root.gbox k' ≠ _; simp; have hk2 : k' < s.sto.length := hlt; omega))⟩) (fun _ => ⟨rfl, rfl⟩) h4
        · rw [if_neg ho] at hs
          refine key G _ h (fun j d u hd hu => (hv j d u hd hu).any ?_) hs
          have := List.any_eq_false.1 (by simpa using ho) d (List.mem_of_getElem? hd)
          simpa using this
      cases hk : c.kb.contains x with
      | true =>
        rw [hk] at hs
        exact key0 G cs hl h hv hs
      | false =>
        rw [hk] at hs
        obtain ⟨r1, K1⟩ := h.freeze N
        refine key0 _ (cs.map fz) (by simpa using hl) r1 (fun j d u hd hu => ?_) hs
        rw [List.getElem?_map] at hd
        obtain ⟨d0, hd0, rfl⟩ := Option.map_eq_some_iff.1 hd
        exact VC.fz (p := ⟨.air N, 0, j⟩) rfl (hv j d0 u hd0 hu)
    · rw [Option.ite_none_right_eq_some] at hs
      obtain ⟨hall, hs⟩ := hs
      have key : ∀ (G1 : Gh) (ys : List D), ys.length = cs.length → Rel X G1 s a w → (∀ (j : Nat) (d : D) (u : Value), ys[j]? = some d → us[j]? = some u → VC w G1 s.m ⟨.air N, 0, j⟩ d u) → put c (some x) (.lptr x (s.m.al x + 1) 0) { s with loc := insL x ys s.loc, m := s.m.bA x } = some s' → ∃ G', Rel X G' s' (a.put (some x) (.pointer (some ⟨w.heap.size, 0, none⟩))) w' := by
        intro G1 ys hyl r1 v1 hp
        have K := mvIn (w := w) (G := G1) (N := N) (n := ys.length) (bR_ups s.m (.lbox x)) (bR_lt s.m (r := .lbox x) rfl)
        have r2 : Rel X (G1.mv (inB N (.lbox x) 0 ys.length) (fromB N (.lbox x) 0 ys.length)) { s with loc := del x s.loc, m := s.m.bL x } a w := by
          refine r1.re (fun b hb => mv_own_other hb) rfl rfl (fun b e he => .inl he) (mv_stow r1.stow) r1.std (fun u' e hu => K.vt (fun i q j c _ _ _ => ⟨inB_no (by simp), fromB_no (.inl (by simp))⟩) (r1.env u' e hu)) (fun u' bs' hu => ?_) rfl rfl (fun k o b hk hb => r1.stoK K (fun t j => ⟨inB_no (by simp), fromB_no (.inl (by simp))⟩) hk hb)
          have hu' : lk u' (del x s.loc) = some bs' := hu
          rw [lk_del] at hu'
          by_cases e : u' = x
          · simp [e] at hu'
          · simp only [e, if_false] at hu'
            exact ⟨⟨bs', hu'⟩, K.box (fun j c _ _ => ⟨inB_no (by simp), fromB_no (.inl (by simp [e]))⟩) (fun _ => ⟨rfl, rfl⟩) (r1.loc u' bs' hu').2⟩
        have v2 : ∀ (j : Nat) (d : D) (u : Value), ys[j]? = some d → us[j]? = some u → VC w (G1.mv (inB N (.lbox x) 0 ys.length) (fromB N (.lbox x) 0 ys.length)) (s.m.bL x) ⟨.lbox x, 0, j⟩ d u := fun j d u hd hu => mvIn_vc K (List.getElem?_eq_some_iff.1 hd).1 (v1 j d u hd hu)
        generalize G1.mv (inB N (.lbox x) 0 ys.length) (fromB N (.lbox x) 0 ys.length) = G2 at *
        have K3 : Keeps w G2 (s.m.bL x) w' (G2.nloc x w.heap.size) (s.m.bA x) (fun _ => True) := by
          refine r2.newKeeps W (fun _ _ h => h) (fun _ _ h => h) rfl (fun r => ?_) (fun t => ?_) (Nat.le_refl _) (fun b hb => gset_ne _ _ (by omega)) (fun _ _ => rfl) (fun _ _ _ => rfl) (fun _ _ => rfl) (fun t ht => ?_)
          · cases r <;> exact Nat.le_refl _
          · exact up_le _ _ _
          · refine gset_ne _ _ ?_
            rintro rfl
            simp [Mt.bA, Mt.bL] at ht
        have r3 : Rel X (G2.nloc x w.heap.size) { s with loc := insL x ys s.loc, m := s.m.bA x } a w' := by
          refine r2.newBlock W K3 (fun b hb => gset_ne _ _ (by omega)) (fun e he => (r2.new _ (Nat.le_refl _)).2 e he) (fun b hb => ?_) (fun _ _ h => h) r2.size r2.defers (fun u e hu => K3.vt (fun i q j c _ _ _ => trivial) (r2.env u e hu)) (fun u cs' hu => ?_) (fun k ob' hk => ?_) r2.be (Nat.le_refl _) rfl (fun _ _ => rfl) (fun t ht => gset_ne _ _ (by
            rintro rfl
            simp only [Bool.and_eq_true, Bool.not_eq_true'] at hall
            rw [hkp, List.contains_iff_mem.2 ht] at hall
            cases hall.2))
          · simp only [Gh.nloc]
            rw [gset_ne _ _ (by omega)]
            exact (r2.new b (by omega)).1
          · have hu' : lk u (insL x ys s.loc) = some cs' := hu
            rw [lk_insL] at hu'
            by_cases e : u = x
            · subst e
              simp at hu'
              subst hu'
              simp only [Gh.nloc, gset_same, true_and]
              intro j d hd
              obtain ⟨v, hv⟩ : ∃ v, us[j]? = some v := ⟨_, List.getElem?_eq_getElem (by have := (List.getElem?_eq_some_iff.1 hd).1; omega)⟩
              obtain ⟨c1, c2⟩ := W.boxCells hv
              exact ⟨v, c1, c2, K3.vc (fun _ => trivial) (v2 j d v hd hv)⟩
            · simp only [e, if_false] at hu'
              obtain ⟨h1, h2⟩ := r2.loc u cs' (by show lk u (del x s.loc) = _; rw [lk_del, if_neg e]; exact hu')
              have hb := r2.ownLt h1
              have hla : (G2.nloc x w.heap.size).la u = G2.la u := gset_ne _ _ e
              rw [hla]
              refine ⟨?_, K3.box (fun j c _ _ => trivial) (fun j => ⟨W.cell hb j, W.frozen hb j⟩) h2⟩
              simp only [Gh.nloc]
              rw [gset_ne _ _ (by omega)]
              exact h1
          · obtain ⟨b, h1, h2, h3, h4⟩ := r2.sto k ob' hk
            refine ⟨b, h1, ?_, by rw [W.size]; omega, ?_⟩
            · simp only [Gh.nloc]
              rw [gset_ne _ _ (by omega)]
              exact h2
            · cases ob' with
              | map es =>
                obtain ⟨arr, clock, q1, q2⟩ := h4
                exact ⟨arr, clock, by rw [W.old h3]; exact q1, q2⟩
              | box cs =>
                simp only [ObV] at h4 ⊢
                split <;> rename_i hr
                · simp only [hr, if_true] at h4
                  intro j d hd
                  obtain ⟨u, h5, h6⟩ := h4 j d hd
                  exact ⟨u, by rw [W.cell h3]; exact h5, K3.imm h6⟩
                · simp only [hr, if_false] at h4
                  exact K3.box (fun j c _ _ => trivial) (fun j => ⟨W.cell h3 j, W.frozen h3 j⟩) h4
        refine r3.putO hn hp 0 ⟨_, rfl, ?_, fun _ => ?_⟩
        · simp [Mt.bA]
        · simp [Gh.nloc]
      cases hk : c.kb.contains x with
      | true =>
        rw [hk] at hs
        exact key G cs rfl h hv hs
      | false =>
        rw [hk] at hs
        obtain ⟨r1, K1⟩ := h.freeze N
        refine key _ (cs.map fz) (by simp) r1 (fun j d u hd hu => ?_) hs
        rw [List.getElem?_map] at hd
        obtain ⟨d0, hd0, rfl⟩ := Option.map_eq_some_iff.1 hd
        exact VC.fz (p := ⟨.air N, 0, j⟩) rfl (hv j d0 u hd0 hu)

theorem op_alloc (H : LyOK P L) (h : Rel X G s a w) (hn : c.n = X.n) (hkp : c.kp = X.kp) {o : Oper} {t : Nat} (ho : o.op = .alloc t) (hs : opD L c X.ro s o = some s') : Yd P X o a w s' := by
  simp only [opD, ho] at hs
  split at hs
  · rename_i cs hz
    obtain ⟨i, zv, hi, hzv, hi2, hi3, hzc, hzl⟩ := H.zeroI hz
    obtain ⟨z1, z2⟩ := dOfL_get hzc
    have W : New w (w.alloc (.cells zv.cells t)) (.cells zv.cells.toList.toArray t (0, 0)) := ⟨rfl, rfl, rfl, rfl⟩
    obtain ⟨G', r1⟩ := box_rel h hn hkp (N := 0) z1 (fun j d u hd hu => dOf1_imm (z2 j d u hd hu)) W hs
    refine ⟨_, _, G', .inl ?_, r1⟩
    simp [execOp, ho, Instr.alloc, zeroValue, typeInfo, hi, hzv, newVar, newRow]
  · cases hs

theorem op_box (h : Rel X G s a w) (hn : c.n = X.n) (hkp : c.kp = X.kp) {o : Oper} {t : Nat} {x : Operand} (ho : o.op = .box t x) (hs : opD L c X.ro s o = some s') : Yd P X o a w s' := by
  simp only [opD, ho] at hs
  split at hs
  · rename_i d s1 htk
    rw [Option.ite_none_right_eq_some] at hs
    obtain ⟨hsz, hs⟩ := hs
    obtain ⟨G1, r1, v1, K1, _⟩ := takeO_rel h htk 0
    have hnt : ∀ es, d ≠ .tup es := by
      rintro es rfl
      unfold boxD at hs
      split at hs
      · cases hs
      · simp only [cellsD] at hs
        split at hs
        · split at hs <;> simp [stoC, rowC, fz] at hs
        · split at hs <;> simp [locC, rowC, fz] at hs
    obtain ⟨G2, r2, l2, c2, o2, K2⟩ := r1.cellsAir v1 hnt true
    have W : New w (w.alloc (.cells (a.eval x).cells t)) (.cells (a.eval x).cells.toList.toArray t (0, 0)) := ⟨rfl, rfl, rfl, rfl⟩
    obtain ⟨G', r3⟩ := box_rel r2 hn hkp (N := 0) l2 c2 W hs
    refine ⟨_, _, G', .inl ?_, r3⟩
    simp [execOp, ho, Instr.box, newVar, newRow]
  · cases hs
end

end Go.Lv
