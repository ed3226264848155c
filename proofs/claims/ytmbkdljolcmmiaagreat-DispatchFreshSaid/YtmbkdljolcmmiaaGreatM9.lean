/-
  Part 9 of the texts under the proof: an abstract run of loaded code on data, and what the functions do. No condition.
-/
import Derived.Test.YtmbkdljolcmmiaaGreatM8
import Derived.MapKept
set_option linter.all false
set_option maxRecDepth 100000
namespace Go.Lv

section
variable {P : Program} {L : Ly} {X : Ctx} {G G' : Gh} {s s' s1 : DS} {a a' : Act} {w w' : World} {c : FC} {b : Nat} {m m' : Mt}

theorem eqS_eq {x y : D} (h : eqS x y = some true) : x = y := by
  cases x <;> cases y <;> simp [eqS] at h
  · obtain ⟨rfl, rfl⟩ := h; rfl
  · subst h; rfl
  · subst h; rfl
theorem eqL_eq : ∀ {x y : List D}, eqL x y = some true → x = y
  | [], [], _ => rfl
  | [], _ :: _, h => by simp [eqL] at h
  | _ :: _, [], h => by simp [eqL] at h
  | a :: x, b :: y, h => by
    simp only [eqL] at h
    split at h
    · rename_i p q h1 h2
      simp only [Option.some.injEq, Bool.and_eq_true] at h
      obtain ⟨rfl, rfl⟩ := h
      rw [eqS_eq h1, eqL_eq h2]
    · cases h
theorem eqD_eq {t : Nat} {x y : D} (hk : keyT L t x = true) (h : eqD L t x y = some true) : x = y := by
  unfold eqD at h
  split at h
  · rw [Option.ite_none_right_eq_some] at h
    obtain ⟨rfl, h⟩ := h
    simp at h
    rw [h]
  · simp at h
    rw [h]
  · simp at h
    rw [h]
  · rename_i e hk'; simp [keyT, hk'] at hk
  · rename_i hk' _; simp [keyT, hk'] at hk
  · rename_i e hk' _; simp [keyT, hk'] at hk
  · rw [Option.ite_none_right_eq_some] at h
    rw [eqL_eq h.2]
  · cases h

theorem toV_bits {d : D} {v : Value} (h : toV d = some v) : Instr.sameBits 10000 v v = true := by
  have key : ∀ (n : Nat) {d v}, toV1 d = some v → Instr.sameBits n v v = true := by
    intro n d v h
    cases d <;> simp [toV1] at h <;> subst h <;> (cases n <;> unfold Instr.sameBits <;> first | (simp; done) | exact (MapKept.bytes_beq _ _).2 rfl)
  cases d with
  | agg cs =>
    simp only [toV] at h
    obtain ⟨vs, hvs, rfl⟩ := Option.map_eq_some_iff.1 h
    obtain ⟨h1, h2⟩ := toVL_get hvs
    unfold Instr.sameBits
    simp only [beq_self_eq_true, Bool.true_and]
    refine List.all_eq_true.2 fun p hp => ?_
    obtain ⟨j, hj⟩ := List.mem_iff_getElem?.1 hp
    have hz : ∃ u, vs[j]? = some u ∧ p = (u, u) := by
      simp only [List.getElem?_zip_eq_some] at hj
      exact ⟨p.1, hj.1, by rw [Prod.ext_iff]; simp; have := hj.1.symm.trans hj.2; simpa using this.symm⟩
    obtain ⟨u, hu, rfl⟩ := hz
    have hlt : j < cs.length := by rw [← h1]; exact (List.getElem?_eq_some_iff.1 hu).1
    exact key _ (h2 j _ u (List.getElem?_eq_getElem hlt) hu)
  | int => exact key 10000 (d := .int _ _) h
  | bool => exact key 10000 (d := .bool _) h
  | str => exact key 10000 (d := .str _) h
  | _ => simp [toV, toV1] at h

theorem findE_key {t : Nat} {k v : D} (hk : keyT L t k = true) : ∀ {es : List (D × D)}, findE L t k es = some (some v) → es[nrE L t k es]? = some (k, v)
  | [], h => by simp [findE] at h
  | x :: r, h => by
    simp only [findE] at h
    split at h
    · rename_i hq
      cases h
      have hn : nrE L t k (x :: r) = 0 := by simp [nrE, hq]
      rw [hn, eqD_eq hk hq]
      rfl
    · rename_i hq
      simp [nrE, hq, findE_key hk h]
    · cases h

theorem setE_find {t : Nat} {k v : D} (hk : keyT L t k = true) : ∀ {es es' : List (D × D)}, setE L t k v es = some es' → (∃ d, findE L t k es = some (some d) ∧ es' = es.set (nrE L t k es) (k, v)) ∨ (findE L t k es = some none ∧ es' = es ++ [(k, v)])
  | [], es', h => by
    simp [setE] at h
    subst h
    exact .inr ⟨rfl, rfl⟩
  | x :: r, es', h => by
    simp only [setE] at h
    split at h
    · rename_i hq
      cases h
      refine .inl ⟨x.2, by simp [findE, hq], ?_⟩
      have hn : nrE L t k (x :: r) = 0 := by simp [nrE, hq]
      rw [hn, eqD_eq hk hq]
      rfl
    · rename_i hq
      split at h
      · rename_i r' hr
        cases h
        rcases setE_find hk hr with ⟨d, h1, rfl⟩ | ⟨h1, rfl⟩
        · exact .inl ⟨d, by simp [findE, hq, h1], by simp [nrE, hq]⟩
        · exact .inr ⟨by simp [findE, hq, h1], rfl⟩
      · cases h
    · cases h

noncomputable def World.putMap (w : World) (b : Nat) (arr : Array MapEntry) (clock : Nat) : World := { w with heap := w.heap.setIfInBounds b (.map arr clock) }

theorem Rel.mapWrite (h : Rel X G s a w) {k : Nat} {es es' : List (D × D)} (hk : s.sto[k]? = some (.map es)) (hkr : X.ro ≤ k) (hb : G.be k = some b) {arr arr' : Array MapEntry} {clock clock' : Nat} (harr : w.heap[b]? = some (.map arr clock))
    (hM : arr'.size = es'.length ∧ (∀ (i : Nat) (x : D × D) (e : MapEntry), es'[i]? = some x → arr'[i]? = some e → toV x.1 = some e.key ∧ toV x.2 = some e.val ∧ e.born < clock') ∧ (∀ (i j : Nat) (x y : MapEntry), arr'[i]? = some x → arr'[j]? = some y → x.born = y.born → i = j))
    (hborn : ∀ (i : Nat) (x : MapEntry), arr[i]? = some x → ∃ y : MapEntry, arr'[i]? = some y ∧ y.born = x.born) :
    Rel X G { s with sto := s.sto.set k (.map es') } a (World.putMap w b arr' clock') ∧ Keeps w G s.m (World.putMap w b arr' clock') G s.m (fun _ => True) := by
  obtain ⟨hs1, hs2⟩ := MapKept.heap_set (o' := .map arr' clock') harr
  have hother : ∀ b', b' ≠ b → (World.putMap w b arr' clock').heap[b']? = w.heap[b']? := hs2
  have hself : (World.putMap w b arr' clock').heap[b]? = some (.map arr' clock') := hs1
  have hsize : (World.putMap w b arr' clock').heap.size = w.heap.size := by simp [World.putMap]
  have hcell : ∀ x, (World.putMap w b arr' clock').cell? x = w.cell? x := by
    intro x
    unfold World.cell?
    by_cases e : x.block = b
    · rw [e, hself, harr]
    · rw [hother _ e]
  have hfr : ∀ x, (World.putMap w b arr' clock').frozen? x = w.frozen? x := by
    intro x
    unfold World.frozen?
    by_cases e : x.block = b
    · rw [e, hself, harr]
    · rw [hother _ e]
  obtain ⟨b'', e1, ho, hlt, _⟩ := h.sto k _ hk
  rw [hb] at e1
  cases e1
  rw [if_neg (by omega)] at ho
  have K : Keeps w G s.m (World.putMap w b arr' clock') G s.m (fun _ => True) :=
    { be := fun _ _ h => h, st := fun _ _ h => h, cell := fun _ _ _ _ _ => hcell _, ep := Nat.le_refl _, rv := fun _ => Nat.le_refl _, al := fun _ => Nat.le_refl _, era := Nat.le_refl _, rd := fun _ _ _ h => ⟨h, fun _ _ => hcell _⟩, pl := fun _ _ _ => rfl, la := fun _ _ => rfl,
      own := fun _ _ _ h => ⟨h, rfl, fun _ => ⟨hcell _, hfr _⟩⟩, opl := fun _ _ => rfl, mp := fun _ k' b' es0 clock0 _ hh => by
        by_cases e : b' = b
        · subst e
          rw [harr] at hh
          cases hh
          exact ⟨_, _, hself, hborn⟩
        · exact ⟨es0, clock0, by rw [hother _ e]; exact hh, fun i x hx => ⟨x, hx, rfl⟩⟩ }
  refine ⟨?_, K⟩
  exact
    { size := h.size
      defers := h.defers
      env := fun t d ht => K.vt (fun _ _ _ _ _ _ _ => trivial) (h.env t d ht)
      loc := fun t cs ht => by
        obtain ⟨h1, h2⟩ := h.loc t cs ht
        exact ⟨h1, K.box (fun _ _ _ _ => trivial) (fun _ => ⟨hcell _, hfr _⟩) h2⟩
      sto := fun k' o hk' => by
        have hk2 : (s.sto.set k (.map es'))[k']? = some o := hk'
        by_cases e : k' = k
        · subst e
          rw [List.getElem?_set_self (List.getElem?_eq_some_iff.1 hk).1] at hk2
          cases hk2
          exact ⟨b, hb, by rw [if_neg (by omega)]; exact ho, by rw [hsize]; exact hlt, arr', clock', hself, hM⟩
        · rw [List.getElem?_set_ne (fun q => e q.symm)] at hk2
          obtain ⟨b', h1, h2, h3, h4⟩ := h.sto k' o hk2
          have hne : b' ≠ b := h.be_ne ho hk2 h1 (by simp; exact fun q => e q.symm)
          refine ⟨b', h1, h2, by rw [hsize]; exact h3, ?_⟩
          cases o with
          | map es0 =>
            obtain ⟨arr0, clock0, q1, q2⟩ := h4
            exact ⟨arr0, clock0, by rw [hother _ hne]; exact q1, q2⟩
          | box cs =>
            simp only [ObV] at h4 ⊢
            split <;> rename_i hr
            · simp only [hr, if_true] at h4
              intro j d hd
              obtain ⟨u, h5, h6⟩ := h4 j d hd
              exact ⟨u, by rw [hcell]; exact h5, K.imm h6⟩
            · simp only [hr, if_false] at h4
              exact K.box (fun _ _ _ _ => trivial) (fun _ => ⟨hcell _, hfr _⟩) h4
      be := fun k' hk' => h.be k' (by simpa using hk')
      new := fun b' hb' => h.new b' (by rw [hsize] at hb'; exact hb')
      stow := h.stow
      std := h.std
      old := fun b' hb' h0 => by
        obtain ⟨h1, h2, h3⟩ := h.old b' hb' h0
        exact ⟨(hother b' (by rintro rfl; rw [ho] at h2; cases h2)).trans h1, h2, h3⟩
      os := h.os
      tape := h.tape
      output := h.output
      grow := by rw [hsize]; exact h.grow
      ro := by show _ ≤ (s.sto.set k _).length; simpa using h.ro
      rom := h.rom
      be0 := h.be0
      n0 := by show _ ≤ (s.sto.set k _).length; simpa using h.n0
      la0 := h.la0 }

theorem mapOf (h : Rel X G s a w) {x : Operand} {k : Nat} {es : List (D × D)} (hx : lookO s x = some (.map k)) (hk : s.sto[k]? = some (.map es)) : ∃ b arr clock, a.eval x = .map (some b) ∧ G.be k = some b ∧ w.heap[b]? = some (.map arr clock) ∧ arr.size = es.length ∧
    (∀ (i : Nat) (x : D × D) (e : MapEntry), es[i]? = some x → arr[i]? = some e → toV x.1 = some e.key ∧ toV x.2 = some e.val ∧ e.born < clock) ∧
    (∀ (i j : Nat) (x y : MapEntry), arr[i]? = some x → arr[j]? = some y → x.born = y.born → i = j) := by
  rcases mapEs_rel h hx (es := es) (by simp [mapEs, hk]) with ⟨e1, _⟩ | ⟨k', b, e0, e1, hb, arr, clock, h1⟩
  · obtain ⟨b, hb, hv⟩ := inv_map (lookO_vt h hx (.air 0) rfl)
    rw [hv] at e1; cases e1
  · cases e0
    exact ⟨b, arr, clock, e1, hb, h1⟩

theorem ents_set {es : List (D × D)} {arr : Array MapEntry} {clock i : Nat} {k v : D} {kv vv : Value} {f : MapEntry → MapEntry} (h1 : arr.size = es.length) (h2 : ∀ (i : Nat) (x : D × D) (e : MapEntry), es[i]? = some x → arr[i]? = some e → toV x.1 = some e.key ∧ toV x.2 = some e.val ∧ e.born < clock)
    (h3 : ∀ (i j : Nat) (x y : MapEntry), arr[i]? = some x → arr[j]? = some y → x.born = y.born → i = j) (hi : i < es.length) (hf : ∀ e, arr[i]? = some e → toV k = some (f e).key ∧ toV v = some (f e).val) (hb : ∀ e, (f e).born = e.born) :
    (arr.modify i f).size = (es.set i (k, v)).length ∧ (∀ (j : Nat) (x : D × D) (e : MapEntry), (es.set i (k, v))[j]? = some x → (arr.modify i f)[j]? = some e → toV x.1 = some e.key ∧ toV x.2 = some e.val ∧ e.born < clock) ∧
    (∀ (j j' : Nat) (x y : MapEntry), (arr.modify i f)[j]? = some x → (arr.modify i f)[j']? = some y → x.born = y.born → j = j') ∧ (∀ (j : Nat) (x : MapEntry), arr[j]? = some x → ∃ y : MapEntry, (arr.modify i f)[j]? = some y ∧ y.born = x.born) := by
  have hget : ∀ j, (arr.modify i f)[j]? = if i = j then (arr[j]?).map f else arr[j]? := fun j => by rw [Array.getElem?_modify]
  refine ⟨by simp [h1], fun j x e hx he => ?_, fun j j' x y hx hy hxy => ?_, fun j x hx => ?_⟩
  · rw [hget] at he
    by_cases e1 : i = j
    · subst e1
      rw [List.getElem?_set_self hi] at hx
      cases hx
      rw [if_pos rfl] at he
      obtain ⟨e0, he0, rfl⟩ := Option.map_eq_some_iff.1 he
      have := h2 i _ e0 (List.getElem?_eq_getElem hi) he0
      exact ⟨(hf e0 he0).1, (hf e0 he0).2, by rw [hb]; exact this.2.2⟩
    · rw [if_neg e1] at he
      rw [List.getElem?_set_ne e1] at hx
      exact h2 j x e hx he
  · have key : ∀ (j : Nat) (x : MapEntry), (arr.modify i f)[j]? = some x → ∃ x0 : MapEntry, arr[j]? = some x0 ∧ x0.born = x.born := by
      intro j x hx
      rw [hget] at hx
      split at hx
      · obtain ⟨e0, he0, rfl⟩ := Option.map_eq_some_iff.1 hx
        exact ⟨e0, he0, (hb e0).symm⟩
      · exact ⟨x, hx, rfl⟩
    obtain ⟨x0, a1, a2⟩ := key j x hx
    obtain ⟨y0, b1, b2⟩ := key j' y hy
    exact h3 j j' x0 y0 a1 b1 (by rw [a2, b2, hxy])
  · rw [hget]
    split
    · exact ⟨f x, by rw [hx]; rfl, hb x⟩
    · exact ⟨x, hx, rfl⟩

theorem ents_push {es : List (D × D)} {arr : Array MapEntry} {clock : Nat} {k v : D} {kv vv : Value} (h1 : arr.size = es.length) (h2 : ∀ (i : Nat) (x : D × D) (e : MapEntry), es[i]? = some x → arr[i]? = some e → toV x.1 = some e.key ∧ toV x.2 = some e.val ∧ e.born < clock)
    (h3 : ∀ (i j : Nat) (x y : MapEntry), arr[i]? = some x → arr[j]? = some y → x.born = y.born → i = j) (hk : toV k = some kv) (hv : toV v = some vv) :
    (arr.push { key := kv, val := vv, born := clock }).size = (es ++ [(k, v)]).length ∧ (∀ (j : Nat) (x : D × D) (e : MapEntry), (es ++ [(k, v)])[j]? = some x → (arr.push { key := kv, val := vv, born := clock })[j]? = some e → toV x.1 = some e.key ∧ toV x.2 = some e.val ∧ e.born < clock + 1) ∧
    (∀ (j j' : Nat) (x y : MapEntry), (arr.push { key := kv, val := vv, born := clock })[j]? = some x → (arr.push { key := kv, val := vv, born := clock })[j']? = some y → x.born = y.born → j = j') ∧ (∀ (j : Nat) (x : MapEntry), arr[j]? = some x → ∃ y : MapEntry, (arr.push { key := kv, val := vv, born := clock })[j]? = some y ∧ y.born = x.born) := by
  have hold : ∀ (j : Nat) (e : MapEntry), arr[j]? = some e → e.born < clock := fun j e he => by
    have hj : j < es.length := by rw [← h1]; exact (Array.getElem?_eq_some_iff.1 he).1
    exact (h2 j _ e (List.getElem?_eq_getElem hj) he).2.2
  refine ⟨by simp [h1], fun j x e hx he => ?_, fun j j' x y hx hy hxy => ?_, fun j x hx => ?_⟩
  · rw [Array.getElem?_push] at he
    split at he
    · rename_i hj
      cases he
      rw [List.getElem?_append_right (by omega), hj, h1] at hx
      simp at hx
      subst hx
      exact ⟨hk, hv, by simp⟩
    · have hj : j < es.length := by rw [← h1]; exact (Array.getElem?_eq_some_iff.1 he).1
      rw [List.getElem?_append_left hj] at hx
      obtain ⟨q1, q2, q3⟩ := h2 j x e hx he
      exact ⟨q1, q2, by omega⟩
  · rw [Array.getElem?_push] at hx hy
    split at hx <;> split at hy
    · omega
    · cases hx
      have := hold _ _ hy
      simp only at hxy
      omega
    · cases hy
      have := hold _ _ hx
      simp only at hxy
      omega
    · exact h3 j j' x y hx hy hxy
  · have hj := (Array.getElem?_eq_some_iff.1 hx).1
    exact ⟨x, by rw [Array.getElem?_push, if_neg (by omega)]; exact hx, rfl⟩

theorem op_mapUpdate (H : LyOK P L) (h : Rel X G s a w) (hn : c.n = X.n) {o : Oper} {t : Nat} {mo ko xo : Operand} (ho : o.op = .mapUpdate t mo ko xo) (hs : opD L c X.ro s o = some s') : Yd P X o a w s' := by
  simp only [opD, ho] at hs
  split at hs
  · rename_i d1 d2 d3 h1 h2 h3
    split at hs
    · rename_i s1 hmu
      unfold mapUpdateD at hmu
      split at hmu
      · rename_i kt e k hk
        rw [Option.ite_none_right_eq_some] at hmu
        obtain ⟨hc, hmu⟩ := hmu
        simp only [Bool.and_eq_true, decide_eq_true_eq] at hc
        obtain ⟨⟨hkr, hkt⟩, hkv⟩ := hc
        split at hmu
        · rename_i es hes
          split at hmu
          · rename_i es' hset
            cases hmu
            obtain ⟨b, arr, clock, e1, hb, hh, q1, q2, q3⟩ := mapOf h h1 hes
            obtain ⟨hkc, hno⟩ := keyT_keyC hkt
            have hkey : toV d2 = some (a.eval ko) := vt_toV hkc (lookO_vt h h2 (.air 0) hno)
            have hval : toV d3 = some (a.eval xo) := vt_toV hkv (lookO_vt h h3 (.air 0) (keyC_noOwn hkv))
            have hg : (getObj b).run P w = .ok (.map arr clock) w := by simp [getObj, Sem.run, hh]
            have hck := run_checkKey (w := w) H hkt hkey false
            have fin : ∀ arr' clock', (Instr.mapUpdate t (a.eval mo) (a.eval ko) (a.eval xo)).run P w = .ok () (World.putMap w b arr' clock') → Rel X G { s with sto := s.sto.set k (.map es') } a (World.putMap w b arr' clock') → Yd P X o a w s' := by
              intro arr' clock' hr hR
              refine ⟨undef, _, G, .inr ⟨?_, rfl⟩, hR.voidO hn hs⟩
              simp only [execOp, ho, Sem.run_bind, hr, Result.andThen_ok, Sem.run_pure]
            rcases setE_find hkt hset with ⟨d, hf, rfl⟩ | ⟨hf, rfl⟩
            · obtain ⟨f1, f2, _⟩ := run_findKey (w := w) H hkt hkey (arr := arr.toList) (by simpa using q1) (fun i x' e' hx' he' => by
                obtain ⟨q1, q2, _⟩ := q2 i x' e' hx' (by simpa using he')
                exact ⟨q1, q2⟩) hf
              have hent := findE_key hkt hf
              have hi : nrE L kt d2 es < es.length := (List.getElem?_eq_some_iff.1 hent).1
              have hi' : nrE L kt d2 es < arr.size := by omega
              have e3 : arr[nrE L kt d2 es]? = some arr[nrE L kt d2 es] := by simp [hi']
              obtain ⟨z1, z2, z3⟩ := q2 _ _ _ hent e3
              have hkk : arr[nrE L kt d2 es].key = a.eval ko := by
                simp only at z1
                rw [hkey] at z1
                exact (Option.some.inj z1).symm
              have hM := ents_set (f := fun e => { e with key := a.eval ko, val := a.eval xo }) (k := d2) (v := d3) (kv := a.eval ko) (vv := a.eval xo) q1 q2 q3 hi (fun e he => ⟨hkey, hval⟩) (fun e => rfl)
              obtain ⟨hR, K⟩ := h.mapWrite hes hkr hb hh ⟨hM.1, hM.2.1, hM.2.2.1⟩ hM.2.2.2
              refine fin _ clock ?_ hR
              have hso := MapKept.run_setObj_map (P := P) (w := w) (.map (arr.modify (nrE L kt d2 es) fun e => { e with key := a.eval ko, val := a.eval xo }) clock) hh
              rw [Array.getElem?_toList, e3] at f1
              simp only [e1, Instr.mapUpdate, Sem.run_bind, run_underlying (H.map hk), Result.andThen_ok, Sem.run_pure, hg, hck, f1, fndR, Option.isSome_some, if_true, Option.map_some, e3, Option.getD_some, hkk, Instr.keyThatStays, toV_bits hkey, hso]
              rfl
            · obtain ⟨f1, f2, _⟩ := run_findKey (w := w) H hkt hkey (arr := arr.toList) (by simpa using q1) (fun i x' e' hx' he' => by
                obtain ⟨q1, q2, _⟩ := q2 i x' e' hx' (by simpa using he')
                exact ⟨q1, q2⟩) hf
              have hM := ents_push (k := d2) (v := d3) (kv := a.eval ko) (vv := a.eval xo) q1 q2 q3 hkey hval
              obtain ⟨hR, K⟩ := h.mapWrite hes hkr hb hh ⟨hM.1, hM.2.1, hM.2.2.1⟩ hM.2.2.2
              refine fin _ (clock + 1) ?_ hR
              have hso := MapKept.run_setObj_map (P := P) (w := w) (.map (arr.push { key := a.eval ko, val := a.eval xo, born := clock }) (clock + 1)) hh
              simp only [e1, Instr.mapUpdate, Sem.run_bind, run_underlying (H.map hk), Result.andThen_ok, Sem.run_pure, hg, hck, f1, fndR, Option.isSome_none, Bool.false_eq_true, if_false, hso]
              rfl
          · cases hmu
        · cases hmu
      · cases hmu
    · cases hs
  · cases hs

theorem op_mapEntry (H : LyOK P L) (h : Rel X G s a w) (hn : c.n = X.n) {o : Oper} {t : Nat} {mo ko : Operand} (ho : o.op = .mapEntry t mo ko) (hs : opD L c X.ro s o = some s') : Yd P X o a w s' := by
  simp only [opD, ho] at hs
  split at hs
  · rename_i d1 d2 h1 h2
    unfold mapEntryD at hs
    split at hs
    · rename_i kt e k hk
      rw [Option.ite_none_right_eq_some] at hs
      obtain ⟨hc, hs⟩ := hs
      simp only [Bool.and_eq_true, decide_eq_true_eq] at hc
      obtain ⟨hkr, hkt⟩ := hc
      split at hs
      · rename_i es z hes hz
        obtain ⟨b, arr, clock, e1, hb, hh, q1, q2, q3⟩ := mapOf h h1 hes
        obtain ⟨hkc, hno⟩ := keyT_keyC hkt
        have hkey : toV d2 = some (a.eval ko) := vt_toV hkc (lookO_vt h h2 (.air 0) hno)
        have hg : (getObj b).run P w = .ok (.map arr clock) w := by simp [getObj, Sem.run, hh]
        have hck := run_checkKey (w := w) H hkt hkey false
        have tup : ∀ (W : World) (s2 : DS) (n i : Nat) (d : D) (v : Value), VT W G s2.m (.air 0) d v → (∀ ds, d ≠ .tup ds) → StV W G s2.m s.m.era k i (.int .i64 n) → VT W G s2.m (.air 0) (.tup [d, .stamp s.m.era k i]) (.tuple #[v, goInt n]) := by
          intro W s2 n i d v hv hnt hst
          refine ⟨[v, goInt n], rfl, rfl, fun j d' u hd hu' => ?_⟩
          match j, hd, hu' with
          | 0, hd, hu' =>
            simp at hd hu'
            subst hd; subst hu'
            rw [← VT_part hnt]
            exact hv
          | 1, hd, hu' =>
            simp at hd hu'
            subst hd; subst hu'
            exact hst
          | n + 2, hd, hu' => simp at hd
        split at hs
        · rename_i v hf
          obtain ⟨f1, f2, _⟩ := run_findKey (w := w) H hkt hkey (arr := arr.toList) (by simpa using q1) (fun i x' e' hx' he' => by
            obtain ⟨q1, q2, _⟩ := q2 i x' e' hx' (by simpa using he')
            exact ⟨q1, q2⟩) hf
          have hent := findE_key hkt hf
          have hi : nrE L kt d2 es < es.length := (List.getElem?_eq_some_iff.1 hent).1
          have hi' : nrE L kt d2 es < arr.size := by omega
          have e3 : arr[nrE L kt d2 es]? = some arr[nrE L kt d2 es] := by simp [hi']
          obtain ⟨z1, z2, z3⟩ := q2 _ _ _ hent e3
          have hkk : arr[nrE L kt d2 es].key = a.eval ko := by
            simp only at z1
            rw [hkey] at z1
            exact (Option.some.inj z1).symm
          have hM := ents_set (f := fun e => { e with key := a.eval ko }) (k := d2) (v := v) (kv := a.eval ko) (vv := a.eval ko) q1 q2 q3 hi (fun e he => ⟨hkey, by rw [e3] at he; cases he; exact z2⟩) (fun e => rfl)
          have hsame : es.set (nrE L kt d2 es) (d2, v) = es := by
            apply List.ext_getElem?
            intro j
            by_cases ej : nrE L kt d2 es = j
            · subst ej
              rw [List.getElem?_set_self hi, hent]
            · rw [List.getElem?_set_ne ej]
          obtain ⟨hR, K⟩ := h.mapWrite hes hkr hb hh ⟨hM.1, hM.2.1, hM.2.2.1⟩ hM.2.2.2
          rw [hsame] at hR
          have hset : s.sto.set k (.map es) = s.sto := by
            apply List.ext_getElem?
            intro j
            by_cases ej : k = j
            · subst ej
              rw [List.getElem?_set_self (List.getElem?_eq_some_iff.1 hes).1, hes]
            · rw [List.getElem?_set_ne ej]
          rw [hset] at hR
          have hso := MapKept.run_setObj_map (P := P) (w := w) (.map (arr.modify (nrE L kt d2 es) fun e => { e with key := a.eval ko }) clock) hh
          rw [Array.getElem?_toList, e3] at f1
          have hnt : ∀ ds, v ≠ .tup ds := by
            rintro ds rfl
            simp [toV, toV1] at z2
          have hst : StV (World.putMap w b (arr.modify (nrE L kt d2 es) fun e => { e with key := a.eval ko }) clock) G s.m s.m.era k (nrE L kt d2 es) (.int .i64 arr[nrE L kt d2 es].born) := by
            refine ⟨_, rfl, Nat.le_refl _, fun _ => ⟨b, _, clock, { arr[nrE L kt d2 es] with key := a.eval ko }, hb, (MapKept.heap_set hh).1, ?_, rfl⟩⟩
            rw [Array.getElem?_modify, if_pos rfl, e3]
            rfl
          obtain ⟨G4, r4⟩ := hR.putO hn hs 0 (v := .tuple #[arr[nrE L kt d2 es].val, goInt arr[nrE L kt d2 es].born]) (tup _ s _ _ _ _ (toV_vt z2) hnt hst)
          refine ⟨_, _, G4, .inl ?_, r4⟩
          simp only [execOp, ho, e1, Instr.mapEntry, Sem.run_bind, run_underlying (H.map hk), Result.andThen_ok, Sem.run_pure, hg, hck, f1, fndR, Option.isSome_some, if_true, Option.map_some, e3, Option.getD_some, hkk, Instr.keyThatStays, toV_bits hkey, hso]
          rfl
        · rename_i hf
          rw [Option.ite_none_right_eq_some] at hs
          obtain ⟨hzk, hs⟩ := hs
          obtain ⟨zv, z1, z2, z3, hzt⟩ := zero_vt (w := w) (G := G) H hz s.m (.air 0)
          obtain ⟨f1, f2, _⟩ := run_findKey (w := w) H hkt hkey (arr := arr.toList) (by simpa using q1) (fun i x' e' hx' he' => by
            obtain ⟨q1, q2, _⟩ := q2 i x' e' hx' (by simpa using he')
            exact ⟨q1, q2⟩) hf
          have hM := ents_push (k := d2) (v := z) (kv := a.eval ko) (vv := zv) q1 q2 q3 hkey (z3 hzk)
          obtain ⟨hR, K⟩ := h.mapWrite hes hkr hb hh ⟨hM.1, hM.2.1, hM.2.2.1⟩ hM.2.2.2
          have hso := MapKept.run_setObj_map (P := P) (w := w) (.map (arr.push { key := a.eval ko, val := zv, born := clock }) (clock + 1)) hh
          have hst : StV (World.putMap w b (arr.push { key := a.eval ko, val := zv, born := clock }) (clock + 1)) G s.m s.m.era k es.length (.int .i64 clock) := by
            refine ⟨_, rfl, Nat.le_refl _, fun _ => ⟨b, _, _, { key := a.eval ko, val := zv, born := clock }, hb, (MapKept.heap_set hh).1, ?_, rfl⟩⟩
            rw [← q1]
            simp
          obtain ⟨G4, r4⟩ := hR.putO hn hs 0 (v := .tuple #[zv, goInt clock]) (tup _ { s with sto := s.sto.set k (.map (es ++ [(d2, z)])) } _ _ _ _ (toV_vt (z3 hzk)) hzt hst)
          refine ⟨_, _, G4, .inl ?_, r4⟩
          simp only [execOp, ho, e1, Instr.mapEntry, Sem.run_bind, run_underlying (H.map hk), Result.andThen_ok, Sem.run_pure, hg, hck, f1, fndR, Option.isSome_none, Bool.false_eq_true, if_false, z1, hso]
          rfl
        · cases hs
      · cases hs
    · cases hs
  · cases hs

theorem op_entryStore (h : Rel X G s a w) (hn : c.n = X.n) {o : Oper} {t : Nat} {mo so xo : Operand} (ho : o.op = .entryStore t mo so xo) (hs : opD L c X.ro s o = some s') : Yd P X o a w s' := by
  simp only [opD, ho] at hs
  split at hs
  · rename_i d1 d2 d3 h1 h2 h3
    split at hs
    · rename_i s1 hmu
      unfold entryStoreD at hmu
      split at hmu
      · rename_i k er k' i
        rw [Option.ite_none_right_eq_some] at hmu
        obtain ⟨hc, hmu⟩ := hmu
        simp only [Bool.and_eq_true, decide_eq_true_eq, beq_iff_eq] at hc
        obtain ⟨⟨⟨hkr, rfl⟩, rfl⟩, hkv⟩ := hc
        split at hmu
        · rename_i es hes
          split at hmu
          · rename_i x hx
            cases hmu
            obtain ⟨b, arr, clock, e1, hb, hh, q1, q2, q3⟩ := mapOf h h1 hes
            have hval : toV d3 = some (a.eval xo) := vt_toV hkv (lookO_vt h h3 (.air 0) (keyC_noOwn hkv))
            obtain ⟨n, hv, _, hst⟩ := (lookO_vt h h2 (.air 0) rfl : StV w G s.m s.m.era k i (a.eval so))
            obtain ⟨b', es0, clock0, x0, g1, g2, g3, g4⟩ := hst rfl
            rw [hb] at g1
            cases g1
            rw [hh] at g2
            cases g2
            have hi : i < es.length := (List.getElem?_eq_some_iff.1 hx).1
            obtain ⟨z1, z2, z3⟩ := q2 i x x0 hx g3
            have hM := ents_set (f := fun e => { e with val := a.eval xo }) (k := x.1) (v := d3) (kv := a.eval xo) (vv := a.eval xo) q1 q2 q3 hi (fun e he => by rw [g3] at he; cases he; exact ⟨z1, hval⟩) (fun e => rfl)
            obtain ⟨hR, K⟩ := h.mapWrite hes hkr hb hh ⟨hM.1, hM.2.1, hM.2.2.1⟩ hM.2.2.2
            have hfi : arr.findIdx? (fun e => ((e.born : Int) == (n : Int))) = some i := by
              rw [Array.findIdx?_eq_some_iff_getElem]
              have hi' : i < arr.size := by omega
              refine ⟨hi', ?_, fun j hj => ?_⟩
              · have : arr[i] = x0 := by rw [Array.getElem?_eq_getElem hi'] at g3; exact Option.some.inj g3
                rw [this, g4]
                simp
              · intro e
                simp at e
                have hj' : j < arr.size := by omega
                have := q3 j i arr[j] x0 (by simp [hj']) g3 (by omega)
                omega
            have hso := MapKept.run_setObj_map (P := P) (w := w) (.map (arr.modify i fun e => { e with val := a.eval xo }) clock) hh
            have hg : (getObj b).run P w = .ok (.map arr clock) w := by simp [getObj, Sem.run, hh]
            refine ⟨undef, _, G, .inr ⟨?_, rfl⟩, hR.voidO hn hs⟩
            simp only [execOp, ho, e1, hv, Instr.entryStore, asInt, asIntOf, Sem.run_bind, Result.andThen_ok, Sem.run_pure, hg, hfi, hso]
            rfl
          · cases hmu
        · cases hmu
      · cases hmu
    · cases hs
  · cases hs
end

end Go.Lv

namespace Go.Lv

section
variable {P : Program} {L : Ly} {X : Ctx} {G G' : Gh} {s s' s1 : DS} {a a' : Act} {w w' : World} {c : FC} {b : Nat} {m m' : Mt}

noncomputable def StA (P : Program) (w w' : World) (l : List Value) : Option Addr → Prop
  | some ad => (storeCells ad l).run P w = .ok () w'
  | none => w' = w

theorem op_copy (H : LyOK P L) (h : Rel X G s a w) (hn : c.n = X.n) {o : Oper} {args : Array Operand} {tys : Array TypeId} (ho : o.op = .call { callee := .builtin .copy, args, argTypes := tys }) (hs : copyOp L X.ro c s o.dst args.toList tys.toList = some s') : Yd P X o a w s' := by
  unfold copyOp at hs
  split at hs
  · rename_i x y t trest ea et
    have ea' : args = #[x, y] := by rw [← Array.toArray_toList (xs := args), ea]
    have et' : tys[0]? = some t := by rw [← Array.getElem?_toList, et]; rfl
    split at hs
    · rename_i e hk
      unfold copyD at hs
      split at hs
      · rename_i ee p v xs ys hx hy
        rw [Option.ite_none_right_eq_some] at hs
        obtain ⟨⟨⟨hv, hok⟩, hsz, hal⟩, hs⟩ := hs
        split at hs
        · rename_i sz zs hpl
          rw [Option.ite_none_right_eq_some] at hs
          obtain ⟨⟨hlen, rfl⟩, hs⟩ := hs
          obtain ⟨news, hsrc⟩ := src_look (P := P) h hy hsz hal
          obtain ⟨A, cap, hxv, _, _, hq⟩ := (lookO_vt h hx (.air 0) rfl : CpL w G s.m ee (some (p, v)) xs (a.eval x))
          obtain ⟨hair, _, hq⟩ := hq p v rfl
          have hq := hq hv
          have hso := H.sizeOf hsz w
          have hu := H.slice hk
          have hrl : ∀ r, r ∈ ys → r.length = L.size e := fun r hr => by simpa using List.all_eq_true.1 hal r hr
          obtain ⟨u, hown⟩ := getPl_own h hpl hok
          have hcs := hsrc.cells (min ys.length zs.length) w (Nat.min_le_left _ _) (fun _ => rfl)
          have hrun : ∀ w' : World, StA P w w' (news.extract 0 (min ys.length zs.length * L.size e)).toList A → (execOp a.eval o).run P w = .ok (.value (.int .i64 ((min ys.length zs.length : Nat) : Int))) w' := by
            intro w' hw
            subst ea'
            have e1 : Nat.min ys.length xs.length = min ys.length zs.length := by rw [hlen]
            cases A with
            | none =>
              simp only [StA] at hw
              subst hw
              simp [execOp, ho, resolve, invoke, builtin, hxv, Builtin.copy_, et', run_underlying hu, hsrc.len, hso, e1, hcs, goInt]
            | some ad =>
              simp only [StA] at hw
              simp [execOp, ho, resolve, invoke, builtin, hxv, Builtin.copy_, et', run_underlying hu, hsrc.len, hso, e1, hcs, goInt] at hw ⊢
              rw [hw]
              rfl
          split at hs
          · rename_i h0
            rw [h0, Nat.zero_mul] at hrun
            refine Yd.put h hn (hrun w ?_) hs 0 (.int _ _)
            cases A <;> simp [StA, storeCells]
          · rename_i h0
            have hzs : zs ≠ [] := by rintro rfl; simp at h0
            rcases hown with ⟨q, _⟩ | ⟨_, b, off, cap', rfl, hcap, ho1, hfin, hGpl, hcell, hrows⟩
            · exact absurd q hzs
            · rcases hq with rfl | ⟨rfl, _⟩
              · simp at hlen
                exact absurd hlen hzs
              · rw [hGpl] at hrun
                simp only [StA] at hrun
                have hn' : min ys.length zs.length ≤ ys.length := Nat.min_le_left _ _
                have hn2 : min ys.length zs.length ≤ zs.length := Nat.min_le_right _ _
                generalize min ys.length zs.length = n at *
                have hnl : (news.extract 0 (n * L.size e)).toList.length = n * L.size e := by
                  rw [Array.length_toList, Array.size_extract, hsrc.size]
                  have := Nat.mul_le_mul_right (L.size e) hn'
                  omega
                have hmul := Nat.mul_le_mul_right (L.size e) hn2
                have hmul2 := Nat.mul_le_mul_right (L.size e) hcap
                have hnews : ∀ k, k < n * L.size e → (news.extract 0 (n * L.size e)).toList[k]? = news[k]? := fun k hk => by
                  have := Nat.mul_le_mul_right (L.size e) hn'
                  rw [Array.getElem?_toList, Array.getElem?_extract]
                  simp
                  intro h'
                  rw [hsrc.size] at h'
                  omega
                have hcs' : ∀ j, j < (news.extract 0 (n * L.size e)).toList.length → (w.cell? ⟨b, off + j, none⟩).isSome = true := fun j hj => by
                  obtain ⟨⟨u, hu⟩, _⟩ := hcell j (by omega)
                  rw [hu]; rfl
                have hst := run_storeCells_cells (P := P) b off (news.extract 0 (n * L.size e)).toList 0 w (fun j hj => by simpa using hcs' j hj) (fun j hj => by simpa using (hcell j (by omega)).2) (fun u hu => by
                  obtain ⟨k, hk⟩ := List.mem_iff_getElem?.1 hu
                  have hk' : k < n * L.size e := by rw [← hnl]; exact (List.getElem?_eq_some_iff.1 hk).1
                  rw [hnews k hk'] at hk
                  exact hsrc.one u (Array.mem_toList_iff.2 (Array.mem_of_getElem? hk)))
                simp only [Nat.add_zero] at hst
                have W := Wr.of_setCells w b off (news.extract 0 (n * L.size e)).toList
                have K := W.ownKeeps ho1 h.stow s.m
                have hR := h.writeOwn (ys' := ys.take n ++ zs.drop n) hpl hok W ho1 (fun v' hv' => by
                  have hll : (ys.take n ++ zs.drop n).length = zs.length := by simp; omega
                  rcases hv' with ⟨q, _⟩ | ⟨hz0, b', o1', cap2, rfl, hcap', hown', hfin', hGpl', hcell', hrows'⟩
                  · exact absurd q hzs
                  · rw [hGpl] at hGpl'
                    cases hGpl'
                    refine .inr ⟨hz0, b, off, cap2, by rw [hll], by rw [hll]; exact hcap', ho1, by rw [hll]; exact hfin, hGpl, fun q hq => ?_, fun r hr => ?_, fun j c' r d hr hd => ?_⟩
                    · obtain ⟨⟨u, hu⟩, hf⟩ := hcell' q hq
                      refine ⟨?_, by rw [W.frozen]; exact hf⟩
                      by_cases hin : q < n * L.size e
                      · obtain ⟨z, hz⟩ : ∃ z, (news.extract 0 (n * L.size e)).toList[q]? = some z := ⟨_, List.getElem?_eq_getElem (by omega)⟩
                        exact ⟨z, setCells_at hcs' hz⟩
                      · exact ⟨u, by rw [World.cell?_setCells_out b _ _ _ _ (fun _ _ => by show off + q < _ ∨ _ ≤ off + q; omega)]; exact hu⟩
                    · rcases List.mem_append.1 hr with h1 | h1
                      · exact hrl r (List.mem_of_mem_take h1)
                      · exact hrows.1 r (List.mem_of_mem_drop h1)
                    · have hc' : c' < L.size e := by
                        have h8 := (List.getElem?_eq_some_iff.1 hd).1
                        rcases List.mem_append.1 (List.mem_of_getElem? hr) with h1 | h1
                        · rwa [hrl r (List.mem_of_mem_take h1)] at h8
                        · rwa [hrows.1 r (List.mem_of_mem_drop h1)] at h8
                      rcases rows_app (m := 0) (n := 0) (sz := 0) (c' := 0) hr with ⟨hj, hr'⟩ | ⟨hj, hr'⟩
                      · rw [List.length_take] at hj
                        rw [List.getElem?_take] at hr'
                        rw [if_pos (by omega)] at hr'
                        have hlt := mul_lt (sz := L.size e) (show j < n by omega)
                        obtain ⟨z, hz⟩ : ∃ z, (news.extract 0 (n * L.size e)).toList[j * L.size e + c']? = some z := ⟨_, List.getElem?_eq_getElem (by omega)⟩
                        have h7 := setCells_at hcs' hz
                        rw [hnews _ (by omega)] at hz
                        exact ⟨z, h7, K.imm (hsrc.imm j c' r d z hr' hd hz)⟩
                      · rw [List.length_take, Nat.min_eq_left hn'] at hj hr'
                        rw [List.getElem?_drop, show n + (j - n) = j by omega] at hr'
                        obtain ⟨u, hu, hi'⟩ := hrows.2 j c' r d hr' hd
                        have : n * L.size e ≤ j * L.size e := Nat.mul_le_mul_right _ hj
                        exact ⟨u, by rw [World.cell?_setCells_out b _ _ _ _ (fun _ _ => by show off + (j * L.size e + c') < _ ∨ _ ≤ off + (j * L.size e + c'); omega)]; exact hu, K.imm hi'⟩)
                obtain ⟨G4, r4⟩ := hR.putO hn hs 0 (.int _ _)
                exact ⟨_, _, G4, .inl (hrun _ hst), r4⟩
        · cases hs
      · cases hs
    · cases hs
  · cases hs

theorem op_sound (H : LyOK P L) (h : Rel X G s a w) (hn : c.n = X.n) (hkp : c.kp = X.kp) {o : Oper} (hs : opD L c X.ro s o = some s') : Yd P X o a w s' := by
  cases ho : o.op with
  | move x => exact (op_move h hn ho hs).yd h hn
  | assign x => exact (op_assign h hn ho hs).yd
  | pick x y z => exact (op_pick h hn ho hs).yd h hn
  | alloc t => exact op_alloc H h hn hkp ho hs
  | box t x => exact op_box h hn hkp ho hs
  | build t ps => exact (op_build H h hn ho hs).yd h hn
  | buildSlice t n ps => exact op_buildSlice H h hn ho hs
  | load t x => exact (op_loadAll H h hn ho hs).yd h hn
  | store t x y => exact op_store H h hn ho hs
  | nilCheck x => exact (op_nilCheck h hn ho hs).yd h hn
  | binOp op t x y t' => exact (op_bin H h hn ho hs).yd h hn
  | unOp op t x => exact (op_un h hn ho hs).yd h hn
  | convert t u x => exact op_convert H h hn ho hs
  | makeFunc f first caps => exact (op_makeFunc h hn ho hs).yd h hn
  | makeMap t r => exact op_makeMap H h hn ho hs
  | makeSlice t x y => exact op_makeSlice H h hn ho hs
  | slice t x lo hi mx => exact (op_slice H h hn ho hs).yd h hn
  | fieldAddr t x f => exact (op_fieldAddr H h hn ho hs).yd h hn
  | field t x f => exact (op_field H h hn ho hs).yd h hn
  | indexAddr t x y => exact (op_indexAddr H h hn ho hs).yd h hn
  | index t x y => exact (op_index H h hn ho hs).yd h hn
  | lookup t x y ok => exact (op_lookup H h hn ho hs).yd h hn
  | mapUpdate t x y z => exact op_mapUpdate H h hn ho hs
  | mapEntry t x y => exact op_mapEntry H h hn ho hs
  | entryStore t x y z => exact op_entryStore h hn ho hs
  | extract x i => exact (op_extract h hn ho hs).yd h hn
  | call c' =>
    obtain ⟨callee, args, argTypes⟩ := c'
    cases callee with
    | builtin bi =>
      simp only [opD, ho] at hs
      cases bi with
      | len => exact (op_len H h hn ho (by simp only [opD, ho]; exact hs)).yd h hn
      | append => exact op_append H h hn ho hs
      | copy => exact op_copy H h hn ho hs
      | min => exact (op_minmax h hn (.inl ⟨rfl, rfl⟩) ho hs).yd h hn
      | max => exact (op_minmax h hn (.inr ⟨rfl, rfl⟩) ho hs).yd h hn
      | _ => cases hs
    | _ => simp [opD, ho] at hs
  | _ => simp [opD, ho] at hs
end

end Go.Lv
