/-
  Part 5 of the texts under the proof: an abstract run of loaded code on data, and what the functions do. No condition.
-/
import Derived.Test.YtmbkdljolcmmiaaGreatM4
import Derived.Laws.Tables
import Derived.Laws.MakeOwn
set_option linter.all false
set_option maxRecDepth 100000
namespace Go.Lv

section
variable {P : Program} {L : Ly} {X : Ctx} {G : Gh} {s s' : DS} {a : Act} {w w' : World} {c : FC}

theorem LyOK.zeroI (H : LyOK P L) {t : Nat} {cs : List D} (h : L.zero t = some cs) : ∃ i z, P.info? t = some i ∧ i.zero = some z ∧ i.size = L.size t ∧ i.bytes = L.bytes t ∧ dOfL z.cells.toList = some cs ∧ cs.length = L.size t := by
  unfold Ly.zero at h
  split at h
  · rename_i d hd
    split at h
    · rename_i hl
      cases h
      obtain ⟨i, u, h1, _, _, _, h6, h7, h2, _⟩ := H t d hd
      obtain ⟨z, h3, h4, h5⟩ := h2 hl
      exact ⟨i, z, h1, h3, by simp [Ly.size, hd, h6], by simp [Ly.bytes, hd, h7], h4, by simp [Ly.size, hd, hl]⟩
    · cases h
  · cases h

theorem LyOK.infoLt (H : LyOK P L) {t : Nat} (h : t < L.length) : ∃ i, P.info? t = some i ∧ i.size = L.size t ∧ i.bytes = L.bytes t := by
  obtain ⟨i, h1, h2, h3⟩ := H.info (List.getElem?_eq_getElem h)
  exact ⟨i, h1, by simp [Ly.size, h, h2], by simp [Ly.bytes, h, h3]⟩

theorem zipParts_zip : ∀ (ps : List (Nat × Operand)) (ds : List D), zipParts ps ds = (ps.map (·.1)).zip ds
  | [], ds => by cases ds <;> rfl
  | p :: ps, [] => by simp [zipParts]
  | p :: ps, d :: ds => by simp [zipParts, zipParts_zip ps ds]

theorem parts_zip (ps : List (Nat × Operand)) (f : Operand → Value) : ps.map (fun x => (x.1, f x.2)) = (ps.map (·.1)).zip ((ps.map (·.2)).map f) := by
  induction ps with
  | nil => rfl
  | cons p ps ih => simp [ih]

theorem takeL_noOwn : ∀ {xs : List Operand} {ds : List D} {s s1 : DS}, (∀ x, x ∈ xs → ∀ d, lookO s x = some d → hasOwn d = false) → takeL s xs = some (ds, s1) → s1 = s ∧ ds.length = xs.length ∧ (∀ d, d ∈ ds → ∀ es, d ≠ .tup es) ∧ ∀ (j : Nat) (d : D) (x : Operand), ds[j]? = some d → xs[j]? = some x → lookO s x = some d ∧ hasOwn d = false
  | [], ds, s, s1, _, h => by
    simp [takeL] at h
    obtain ⟨rfl, rfl⟩ := h
    exact ⟨rfl, rfl, fun d hd => (nomatch hd), fun j d x hd => by simp at hd⟩
  | x :: xs, ds, s, s1, hno, h => by
    simp only [takeL] at h
    split at h
    · rename_i d s2 h1
      rw [Option.ite_none_left_eq_some] at h
      obtain ⟨hnt, h⟩ := h
      split at h
      · rename_i ds' s3 h2
        cases h
        have h3 : s2 = s ∧ lookO s x = some d := by
          unfold takeO at h1
          split at h1
          · rename_i t
            split at h1
            · rename_i d' hd'
              have := hno (.tmp t) (by simp) d' hd'
              rw [if_neg (by rw [this]; simp)] at h1
              cases h1
              exact ⟨rfl, hd'⟩
            · cases h1
          · split at h1
            · rename_i d' hd'
              cases h1
              exact ⟨rfl, hd'⟩
            · cases h1
        obtain ⟨rfl, hd⟩ := h3
        obtain ⟨q1, q2, q3, q4⟩ := takeL_noOwn (fun y hy => hno y (by simp [hy])) h2
        refine ⟨q1, by simp [q2], fun d' hd' => ?_, fun j d' y hd' hy => ?_⟩
        · rcases List.mem_cons.1 hd' with rfl | hd'
          · rintro es rfl
            exact hnt rfl
          · exact q3 d' hd'
        · cases j with
          | zero => simp at hd' hy; subst hd'; subst hy; exact ⟨hd, hno x (by simp) _ hd⟩
          | succ j => exact q4 j d' y (by simpa using hd') (by simpa using hy)
      · cases h
    · cases h

theorem fill_any {m : Mt} {pl place : Nat → Option (Nat × Nat)} (hpl : ∀ i, pl i = place i) : ∀ (is : List Nat) (ds : List D) (us : List Value) (cs : List D) (vs : List Value) (cs' : List D), is.length = ds.length → us.length = ds.length →
    (∀ (j : Nat) (d : D) (u : Value), ds[j]? = some d → us[j]? = some u → (∃ r, VT w G m r d u) ∧ hasOwn d = false ∧ ∀ es, d ≠ .tup es) → vs.length = cs.length → (∀ (j : Nat) (e : D) (u : Value), cs[j]? = some e → vs[j]? = some u → ∀ p, VC w G m p e u) → fillD pl cs (is.zip ds) = some cs' →
    ∃ (vs' : List Value), Instr.fill place vs.toArray (is.zip us) = some vs'.toArray ∧ vs'.length = cs'.length ∧ (∀ (j : Nat) (e : D) (u : Value), cs'[j]? = some e → vs'[j]? = some u → ∀ p, VC w G m p e u)
  | [], [], [], cs, vs, cs', _, _, _, hl, hc, hf => by
    simp [fillD] at hf
    subst hf
    exact ⟨vs, by simp [Instr.fill], hl, hc⟩
  | i :: is, d :: ds, u :: us, cs, vs, cs', h1, h2, hv, hl, hc, hf => by
    simp only [List.zip_cons_cons, fillD] at hf
    obtain ⟨⟨r, hv0⟩, hno, hnt⟩ := hv 0 d u rfl rfl
    rw [VT_part hnt] at hv0
    obtain ⟨hsz, hcl⟩ := vp_cells hv0
    have hsz2 : u.cells.toList.length = (cellsD d).length := by rw [Array.length_toList]; exact hsz
    split at hf
    · cases hf
    · rename_i off n hpl'
      rw [Option.ite_none_right_eq_some] at hf
      obtain ⟨⟨hn, hoff⟩, hf⟩ := hf
      have hl' : (splice vs off u.cells.toList).length = (splice cs off (cellsD d)).length := by
        rw [length_splice _ _ _ (by omega), length_splice _ _ _ (by omega), hl]
      obtain ⟨vs', f1, f3, f5⟩ := fill_any hpl is ds us (splice cs off (cellsD d)) (splice vs off u.cells.toList) cs' (by simpa using h1) (by simpa using h2) (fun j d' u' hd hu => hv (j + 1) d' u' (by simpa using hd) (by simpa using hu)) hl' (fun j e v he hv' p => by
        rw [getElem?_splice _ _ _ (by omega)] at he hv'
        rw [hsz2] at hv'
        split at he
        · rename_i hj
          rw [if_pos hj] at hv'
          have he' : isOwn e = false := by
            have : anyAt isOwn d = false := by
              cases d with
              | tup ds => exact absurd rfl (hnt ds)
              | _ => exact hno
            cases d with
            | agg cs => have := List.any_eq_false.1 this e (List.mem_of_getElem? he); simpa using this
            | _ =>
              simp only [cellsD] at he
              have : j - off = 0 := by
                have := (List.getElem?_eq_some_iff.1 he).1
                simpa using this
              rw [this] at he
              simp at he
              subst he
              assumption
          exact (hcl _ e v he (by simpa using hv')).any he'
        · rename_i hj
          rw [if_neg hj] at hv'
          exact hc j e v he hv' p) hf
      refine ⟨vs', ?_, f3, f5⟩
      rw [← f1]
      simp only [List.zip_cons_cons, Instr.fill, ← hpl, hpl']
      have g1 : u.cells.size = n := by omega
      have g2 : ¬ (off + u.cells.size > vs.length) := by omega
      simp only [g1, ne_eq, not_true, decide_false, Bool.false_or, List.size_toArray]
      rw [if_neg (by simp; omega)]
      congr 1
      apply Array.ext'
      rw [← Array.foldl_toList, Array.toList_zipIdx]
      have := foldl_set u.cells.toList 0 off vs.toArray (by simp; omega)
      simpa using this
  | [], _ :: _, _, _, _, _, h, _, _, _, _, _ => by simp at h
  | _ :: _, [], _, _, _, _, h, _, _, _, _, _ => by simp at h
  | [], [], _ :: _, _, _, _, _, h, _, _, _, _ => by simp at h
  | _ :: _, _ :: _, [], _, _, _, _, h, _, _, _, _ => by simp at h

theorem op_build (H : LyOK P L) (h : Rel X G s a w) (hn : c.n = X.n) {o : Oper} {t : Nat} {ps : Array (Nat × Operand)} (ho : o.op = .build t ps) (hs : opD L c X.ro s o = some s') : Yd2 P c X G o s a w s' := by
  simp only [opD, ho] at hs
  split at hs
  · rename_i pl z ds s1 hpl hz ht
    split at hs
    · rename_i cs hf
      obtain ⟨i, zv, hi, hzv, _, _, hzc, hzl⟩ := H.zeroI hz
      obtain ⟨z1, z2⟩ := dOfL_get hzc
      rw [zipParts_zip] at hf
      have key : ∀ place : Nat → Option (Nat × Nat), (∀ i, pl i = place i) → ∃ (vs' : List Value), Instr.fill place zv.cells (ps.toList.map (fun x => (x.1, a.eval x.2))) = some vs'.toArray ∧ ((execOp a.eval o).run P w = .ok (.value (.agg vs'.toArray)) w → Yd2 P c X G o s a w s') := by
        intro place hp
        rw [parts_zip]
        by_cases hown : ∃ x, x ∈ ps.toList.map (·.2) ∧ ∃ d, lookO s x = some d ∧ hasOwn d = true
        · obtain ⟨G1, r1, l1, t1, v1, K1, _⟩ := takeL_rel h ht 0
          have := fill_rel (pl := pl) (place := place) hp (ps.toList.map (·.1)) ds ((ps.toList.map (·.2)).map a.eval) 0 ds.length G1 z zv.cells.toList cs r1 (by simpa using l1.symm) (by simpa using l1.symm) (by omega) (fun j d u hd hu => by
              simp only [List.map_map, List.getElem?_map] at hu
              obtain ⟨x, hx, rfl⟩ := Option.map_eq_some_iff.1 hu
              exact ⟨v1 j d x.2 hd (by simp [hx]), t1 d (List.mem_of_getElem? hd)⟩) z1 (fun j e u he hu => dOf1_imm (z2 j e u he hu)) hf
          obtain ⟨vs', G', q1, q2, q3, _, q5⟩ := this
          refine ⟨vs', by simpa using q1, fun hr => ?_⟩
          obtain ⟨x, hx, d, hd, hdo⟩ := hown
          refine Yd2.tk (Takes.own (x := x) (d0 := d) ?_ hd hdo (by rw [ho]; rfl)) q2 hr hs ds.length ⟨vs', rfl, q3, q5⟩
          rw [ho]
          simpa [Op.operands] using hx
        · obtain ⟨rfl, l1, t1, v1⟩ := takeL_noOwn (fun x hx d hd => by
            cases hh : hasOwn d with
            | false => rfl
            | true => exact absurd ⟨x, hx, d, hd, hh⟩ hown) ht
          have := fill_any (w := w) (G := G) (m := s1.m) (pl := pl) (place := place) hp (ps.toList.map (·.1)) ds ((ps.toList.map (·.2)).map a.eval) z zv.cells.toList cs (by simpa using l1.symm) (by simpa using l1.symm) (fun j d u hd hu => by
              rw [List.getElem?_map] at hu
              obtain ⟨x, hx, rfl⟩ := Option.map_eq_some_iff.1 hu
              obtain ⟨q1, q2⟩ := v1 j d x hd hx
              exact ⟨⟨.air 0, lookO_vt h q1 (.air 0) q2⟩, q2, t1 d (List.mem_of_getElem? hd)⟩) z1 (fun j e u he hu p => dOf1_imm (z2 j e u he hu)) hf
          obtain ⟨vs', q1, q3, q5⟩ := this
          refine ⟨vs', by simpa using q1, fun hr => Yd2.put hr hs 0 ⟨vs', rfl, q3, fun j e u he hu => q5 j e u he hu _⟩⟩
      have fin : ∀ (vs' : List Value), P.built t (ps.map fun (i, x) => (i, a.eval x)).toList = some vs'.toArray → ((execOp a.eval o).run P w = .ok (.value (.agg vs'.toArray)) w → Yd2 P c X G o s a w s') → Yd2 P c X G o s a w s' := by
        intro vs' hb hk
        refine hk ?_
        simp only [execOp, ho, Sem.run_bind, run_build w t _ _ hb, Result.andThen_ok, Sem.run_pure]
      unfold placeOf at hpl
      split at hpl
      · rename_i fs hk
        rw [Option.ite_none_right_eq_some] at hpl
        obtain ⟨hall, hpl⟩ := hpl
        cases hpl
        obtain ⟨gs, hu, rfl⟩ := H.struct hk
        have hm : ∀ l : List Field, (∀ f ∈ l, f.type < L.length) → l.mapM (fun f => (P.info? f.type).map fun i => (f.offset, i.size)) = some (l.map fun f => (f.offset, L.size f.type)) := by
          intro l
          induction l with
          | nil => intro _; rfl
          | cons f l ih =>
            intro hl
            obtain ⟨i, hi, hi2, _⟩ := H.infoLt (hl f (by simp))
            simp [List.mapM_cons, hi, hi2, ih (fun f hf => hl f (by simp [hf]))]
        obtain ⟨vs', q1, q2⟩ := key ((gs.toList.map fun f => (f.offset, L.size f.type)).toArray[·]?) (fun i => by
          simp only [List.getElem?_toArray, List.getElem?_map, Option.map_map]
          rfl)
        refine fin vs' ?_ q2
        have hm' := hm gs.toList (fun f hf => by
          have := List.all_eq_true.1 hall (f.offset, f.type) (List.mem_map.2 ⟨f, hf, rfl⟩)
          simpa using this)
        simp only [Program.built, hi, hu, hzv, hm', Array.toList_map]
        exact q1
      · rename_i n e hk
        rw [Option.ite_none_right_eq_some] at hpl
        obtain ⟨hlt, hpl⟩ := hpl
        cases hpl
        obtain ⟨ie, hie, hie2, _⟩ := H.infoLt hlt
        obtain ⟨vs', q1, q2⟩ := key (fun i => some (i * L.size e, L.size e)) (fun i => rfl)
        refine fin vs' ?_ q2
        simp only [Program.built, hi, H.array hk, hzv, hie, hie2, Array.toList_map]
        exact q1
      · cases hpl
    · cases hs
  · cases hs

theorem fzTop_noOwn (d : D) : hasOwn (fzTop d) = false := by
  have h0 : ∀ d, anyAt isOwn (mapAt (fun _ c => fz c) d) = false := by
    intro d
    cases d with
    | agg cs =>
      refine List.any_eq_false.2 fun x hx => ?_
      obtain ⟨j, hj⟩ := List.mem_iff_getElem?.1 hx
      rw [mapIx_get] at hj
      obtain ⟨c, _, rfl⟩ := Option.map_eq_some_iff.1 hj
      simp [fz_own]
    | list q xs => cases q <;> rfl
    | _ => rfl
  cases d with
  | tup ds =>
    refine List.any_eq_false.2 fun x hx => ?_
    obtain ⟨j, hj⟩ := List.mem_iff_getElem?.1 hx
    rw [mapIx_get] at hj
    obtain ⟨c, _, rfl⟩ := Option.map_eq_some_iff.1 hj
    simp [h0]
  | list q xs => cases q <;> rfl
  | agg cs => exact h0 (.agg cs)
  | _ => rfl

theorem fzTop_notTup {d : D} (h : ∀ es, d ≠ .tup es) : ∀ es, fzTop d ≠ .tup es := by
  intro es
  cases d with
  | tup ds => exact absurd rfl (h ds)
  | list q xs => cases q <;> (intro h; cases h)
  | _ => intro h; cases h

theorem freezeL : ∀ (ds : List D) (us : List Value) (G : Gh) (n : Nat), Rel X G s a w → (∀ (j : Nat) (d : D) (u : Value), ds[j]? = some d → us[j]? = some u → VT w G s.m (.air (n + j)) d u) →
    ∃ G', Rel X G' s a w ∧ (∀ (j : Nat) (d : D) (u : Value) (r : Root), ds[j]? = some d → us[j]? = some u → VT w G' s.m r (fzTop d) u) ∧ Keeps w G s.m w G' s.m (fun p => ∀ j, p.r = .air j → j < n)
  | [], us, G, n, h, _ => ⟨G, h, fun j d u r hd => by simp at hd, Keeps.refl _ _ _ _⟩
  | d :: ds, [], G, n, h, _ => ⟨G, h, fun j d u r _ hu => by simp at hu, Keeps.refl _ _ _ _⟩
  | d :: ds, u :: us, G, n, h, hv => by
    obtain ⟨r1, K1⟩ := h.freeze n
    have hv0 := hv 0 d u rfl rfl
    obtain ⟨G', r2, v2, K2⟩ := freezeL ds us _ (n + 1) r1 (fun j d' u' hd hu => by
      have := hv (j + 1) d' u' (by simpa using hd) (by simpa using hu)
      rw [show n + (j + 1) = n + 1 + j by omega] at this
      exact K1.vt (fun i q j' c _ _ _ => by simp; omega) this)
    refine ⟨G', r2, fun j d' u' r hd hu => ?_, (K1.trans K2).weaken fun p hp => ⟨fun e => by have := hp n e; omega, fun j e => by have := hp j e; omega⟩⟩
    cases j with
    | zero =>
      simp at hd hu
      subst hd; subst hu
      have := VT.fz (r' := r) hv0
      exact K2.vt (fun i q j c h1 h2 h3 => by
        have := hasOwn_part h1 h2 h3
        rw [fzTop_noOwn] at this
        cases this) this
    | succ j => exact v2 j d' u' r (by simpa using hd) (by simpa using hu)

theorem vc_rowC {m : Mt} {p : Place} {d : D} {v : Value} (h : VC w G m p d v) (hd : rowC d = true) : Imm w G.be G.st d v := by
  cases d with
  | list q xs => cases q <;> first | exact h | simp [rowC] at hd
  | _ => first | exact h | simp [rowC] at hd

theorem flat_get {α : Type} (z : List α) : ∀ (n j : Nat), ((List.replicate n z).flatten)[j]? = if j < n * z.length then z[j % z.length]? else none
  | 0, j => by simp
  | n + 1, j => by
    rw [List.replicate_succ, List.flatten_cons, List.getElem?_append]
    by_cases h : j < z.length
    · rw [if_pos h, if_pos (by rw [Nat.succ_mul]; omega), Nat.mod_eq_of_lt h]
    · rw [if_neg h, flat_get z n]
      by_cases h2 : j < (n + 1) * z.length
      · rw [if_pos h2, if_pos (by rw [Nat.succ_mul] at h2; omega)]
        congr 1
        rw [← Nat.mod_eq_sub_mod (by omega)]
      · rw [if_neg h2, if_neg (by rw [Nat.succ_mul] at h2; omega)]
theorem flat_len {α : Type} (z : List α) (n : Nat) : ((List.replicate n z).flatten).length = n * z.length := by simp

theorem rowsOf_len (n : Nat) : ∀ (m : Nat) (cs : List D), (rowsOf n m cs).length = m
  | 0, _ => rfl
  | m + 1, cs => by simp [rowsOf, rowsOf_len n m]
theorem rowsOf_get (n : Nat) : ∀ (m : Nat) (cs : List D) (j : Nat) (r : List D), (rowsOf n m cs)[j]? = some r → r = (cs.drop (j * n)).take n
  | 0, cs, j, r, h => by simp [rowsOf] at h
  | m + 1, cs, 0, r, h => by simp [rowsOf] at h; simp [h]
  | m + 1, cs, j + 1, r, h => by
    simp only [rowsOf, List.getElem?_cons_succ] at h
    rw [rowsOf_get n m _ j r h, List.drop_drop]
    congr 2
    rw [Nat.succ_mul]; omega

noncomputable def zerosA (z : Array Value) (n : Nat) : Array Value := (Array.range n).map (z[· % z.size]!)
theorem zerosA_get (z : Array Value) (n i : Nat) (u : Value) (h : (zerosA z n)[i]? = some u) (hz : 0 < z.size) : z[i % z.size]? = some u := by
  unfold zerosA at h
  simp only [Array.getElem?_map, Array.getElem?_range] at h
  by_cases hi : i < n
  · simp only [hi, if_true, Option.map_some, Option.some.injEq] at h
    have hlt : i % z.size < z.size := Nat.mod_lt _ hz
    rw [← h, Array.getElem?_eq_getElem hlt, getElem!_pos z _ hlt]
  · simp [hi] at h
theorem zerosA_size (z : Array Value) (n : Nat) : (zerosA z n).size = n := by simp [zerosA]

theorem zero_fz {m : Mt} {p : Place} {d : D} {v : Value} (h : dOf1 v = some d) : VC w G m p (fz d) v := by
  unfold dOf1 at h
  split at h <;> first | (cases h; first | exact .int _ _ | exact .bool _ | exact .str _ | exact .nil | exact .nilmap | exact .nilfn | exact .nils _ _) | simp at h

theorem op_buildSlice (H : LyOK P L) (h : Rel X G s a w) (hn : c.n = X.n) {o : Oper} {t n : Nat} {ps : Array (Nat × Operand)} (ho : o.op = .buildSlice t n ps) (hs : opD L c X.ro s o = some s') : Yd P X o a w s' := by
  simp only [opD, ho] at hs
  split at hs
  · rename_i e hk
    split at hs
    · rename_i z ds s1 hz ht
      rw [Option.ite_none_right_eq_some] at hs
      obtain ⟨⟨hsz, hmax⟩, hs⟩ := hs
      split at hs
      · rename_i cs hf
        rw [Option.ite_none_right_eq_some] at hs
        obtain ⟨hrc, hs⟩ := hs
        obtain ⟨G1, r1, l1, t1, v1, K1, _⟩ := takeL_rel h ht 0
        obtain ⟨i, zv, hi, hzv, hi2, _, hzc, hzl⟩ := H.zeroI hz
        obtain ⟨z1, z2⟩ := dOfL_get hzc
        obtain ⟨G2, r2, v2, K2⟩ := freezeL ds ((ps.toList.map (·.2)).map a.eval) G1 0 r1 (fun j d u hd hu => by
          simp only [List.map_map, List.getElem?_map] at hu
          obtain ⟨x, hx, rfl⟩ := Option.map_eq_some_iff.1 hu
          exact v1 j d x.2 hd (by simp [hx]))
        rw [zipParts_zip] at hf
        have hzs : zv.cells.size = L.size e := by rw [← Array.length_toList, z1, hzl]
        obtain ⟨vs', G', q1, q2, q3, q5, q4⟩ := fill_rel (pl := fun i => some (i * L.size e, L.size e)) (place := fun i => some (i * L.size e, L.size e)) (fun _ => rfl) (ps.toList.map (·.1)) (ds.map fzTop) ((ps.toList.map (·.2)).map a.eval) 0 ds.length G2 _ (zerosA zv.cells (n * L.size e)).toList cs r2 (by simpa using l1.symm) (by simpa using l1.symm) (by simp) (fun j d u hd hu => by
            simp only [List.getElem?_map] at hd
            obtain ⟨d', hd', rfl⟩ := Option.map_eq_some_iff.1 hd
            exact ⟨v2 j d' u _ hd' (by simpa using hu), fzTop_notTup (t1 d' (List.mem_of_getElem? hd'))⟩) (by rw [flat_len]; simp [zerosA_size, hzl]) (fun j e' u he hu => by
            rw [flat_get, Option.ite_none_right_eq_some] at he
            obtain ⟨_, he⟩ := he
            rw [List.getElem?_map, List.length_map] at he
            obtain ⟨d0, hd0, rfl⟩ := Option.map_eq_some_iff.1 he
            have := zerosA_get _ _ _ u (by simpa using hu) (by omega)
            refine zero_fz (z2 (j % z.length) d0 u hd0 ?_)
            rw [Array.getElem?_toList, hzl, ← hzs]
            exact this) hf
        have hcl : cs.length = n * L.size e := by rw [q5, flat_len]; simp [hzl]
        have N : New w (w.alloc (.cells vs'.toArray e)) (.cells vs'.toArray e (0, 0)) := ⟨rfl, rfl, rfl, rfl⟩
        obtain ⟨G3, r3, v3, K3⟩ := q2.newList N 0 (xs := rowsOf (L.size e) n cs) (sz := L.size e) (cap := n) hsz (by rw [rowsOf_len]; exact Nat.le_refl _) (by simp [q3, hcl]) (fun o _ => by simp) (fun r hr => by
            obtain ⟨j, hj⟩ := List.mem_iff_getElem?.1 hr
            have hjn : j < n := by have := (List.getElem?_eq_some_iff.1 hj).1; rwa [rowsOf_len] at this
            have := mul_lt (sz := L.size e) hjn
            rw [rowsOf_get _ _ _ _ _ hj, List.length_take, List.length_drop, hcl]
            omega) (fun j c' r d u hr hd hu => by
            rw [rowsOf_get _ _ _ _ _ hr] at hd
            rw [List.getElem?_take, Option.ite_none_right_eq_some] at hd
            obtain ⟨_, hd⟩ := hd
            rw [List.getElem?_drop] at hd
            exact vc_rowC (q4 _ d u hd (by simpa using hu)) (List.all_eq_true.1 hrc d (List.mem_of_getElem? hd)))
        obtain ⟨G4, r4⟩ := r3.putO hn hs 0 v3
        refine ⟨_, _, G4, .inl ?_, r4⟩
        have hu := H.slice hk
        have hfill : Instr.fill (fun i => some (i * L.size e, L.size e)) (zerosA zv.cells (n * L.size e)) (ps.toList.map fun x => (x.1, a.eval x.2)) = some vs'.toArray := by
          rw [parts_zip]
          simpa using q1
        rw [rowsOf_len]
        by_cases hn0 : n * L.size e = 0
        · have hf0 : Instr.fill (fun i => some (i * L.size e, L.size e)) #[] (ps.toList.map fun x => (x.1, a.eval x.2)) = some vs'.toArray := by
            rw [← hfill, hn0, Array.eq_empty_of_size_eq_zero (zerosA_size zv.cells 0)]
          simp [execOp, ho, Instr.buildSlice, run_underlying hu, sizeOf, typeInfo, hi, hi2, hn0, newRow]
          rw [show (Array.map (fun x => (default : Value)) (Array.range 0)) = #[] from Array.eq_empty_of_size_eq_zero (by simp), hf0]
          simp
        · have hmax' : ¬ (16777216 < n * L.size e) := by omega
          simp only [zerosA] at hfill
          simp [execOp, ho, Instr.buildSlice, run_underlying hu, sizeOf, typeInfo, zeroValue, hi, hi2, hzv, hn0, hmax', hfill, newRow]
      · cases hs
    · cases hs
  · cases hs
end

end Go.Lv
