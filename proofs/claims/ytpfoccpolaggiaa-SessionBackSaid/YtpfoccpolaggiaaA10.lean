/-
  A10: maps that are read; lengths; least and greatest.
-/
import Derived.Test.YtpfoccpolaggiaaA9
set_option linter.all false
namespace Go.Lv

section
variable {P : Program} {L : Ly} {X : Ctx} {G : Gh} {s s' : DS} {a : Act} {w : World} {c : FC}

theorem toV_vt {m : Mt} {r : Root} {d : D} {v : Value} (h : toV d = some v) : VT w G m r d v := by
  have key : ∀ {d v}, toV1 d = some v → VT w G m r d v := by
    intro d v h
    cases d <;> simp [toV1] at h <;> subst h
    · exact .int _ _
    · exact .bool _
    · exact .str _
  cases d with
  | agg cs =>
    simp only [toV] at h
    obtain ⟨vs, hvs, rfl⟩ := Option.map_eq_some_iff.1 h
    obtain ⟨h1, h2⟩ := toVL_get hvs
    exact ⟨vs, rfl, h1, fun j d u hd hu => toV1_vc (h2 j d u hd hu)⟩
  | _ => exact key h
theorem vt_toV {m : Mt} {r : Root} {d : D} {v : Value} (hk : keyC d = true) (h : VT w G m r d v) : toV d = some v := by
  cases d with
  | agg cs =>
    obtain ⟨vs, rfl, h1⟩ := agg_toVL (by simpa [keyC] using hk) h
    simp [toV, h1]
  | int => rw [inv_int h]; rfl
  | bool => rw [inv_bool h]; rfl
  | str => rw [inv_str h]; rfl
  | _ => simp [keyC, sclC] at hk
theorem keyT_keyC {t : Nat} {d : D} (h : keyT L t d = true) : keyC d = true ∧ hasOwn d = false := by
  have key : ∀ cs : List D, cs.all sclC = true → hasOwn (.agg cs) = false := by
    intro cs hc
    refine List.any_eq_false.2 fun x hx => ?_
    have := List.all_eq_true.1 hc x hx
    cases x <;> simp [sclC, isOwn] at *
  unfold keyT at h
  split at h
  · exact ⟨rfl, rfl⟩
  · exact ⟨rfl, rfl⟩
  · exact ⟨rfl, rfl⟩
  · simp only [Bool.and_eq_true] at h
    exact ⟨h.2, key _ h.2⟩
  · cases h
theorem keyC_noOwn {d : D} (h : keyC d = true) : hasOwn d = false := by
  cases d with
  | agg cs =>
    refine List.any_eq_false.2 fun x hx => ?_
    have := List.all_eq_true.1 (by simpa [keyC] using h) x hx
    cases x <;> simp [sclC, isOwn] at *
  | int => rfl
  | bool => rfl
  | str => rfl
  | _ => simp [keyC, sclC] at h

/-- Two keys of a type, compared. -/
theorem run_key (H : LyOK P L) {t : Nat} {x y : D} {v u : Value} {q : Bool} (h : eqD L t x y = some q) (hkx : keyT L t x = true) (hx : toV x = some v) (hy : toV y = some u) :
    (Op.equal t v u).run P w = .ok q w ∧ ∀ k, P.underlying t = some k → (Instr.sameNow k v u = some q ∨ Instr.sameNow k v u = none ∧ ∃ cs, x = .agg cs) := by
  obtain ⟨h1, h2⟩ := run_eqD (w := w) (G := ⟨fun _ => none, fun _ => 0, fun _ => none, fun _ => 0, fun _ _ => False, fun _ => (0, 0)⟩) (m := ⟨⟨[]⟩, ⟨[]⟩, ⟨[]⟩, 0, 0, 0⟩) (r := .air 0) (r' := .air 0) H h (toV_vt hx) (toV_vt hy)
  refine ⟨h1, fun k hk => ?_⟩
  unfold eqD at h
  split at h
  · rename_i hkk
    rw [Option.ite_none_right_eq_some] at h
    obtain ⟨rfl, h⟩ := h
    cases h
    have := H.int hkk
    rw [hk] at this
    cases this
    simp [toV, toV1] at hx hy
    subst hx; subst hy
    left
    simp [Instr.sameNow]
    try rfl
  · rename_i hkk
    cases h
    have := H.str hkk
    rw [hk] at this
    cases this
    simp [toV, toV1] at hx hy
    subst hx; subst hy
    left
    simp only [Instr.sameNow]
    rw [beq_toListBytes, ba_beq]
  · rename_i hkk
    cases h
    have := H.bool hkk
    rw [hk] at this
    cases this
    simp [toV, toV1] at hx hy
    subst hx; subst hy
    left
    simp [Instr.sameNow]
  · simp [toV, toV1] at hx
  · simp [toV, toV1] at hx
  · simp [toV, toV1] at hy
  · rw [Option.ite_none_right_eq_some] at h
    simp only [toV] at hx hy
    obtain ⟨vs, _, rfl⟩ := Option.map_eq_some_iff.1 hx
    obtain ⟨us, _, rfl⟩ := Option.map_eq_some_iff.1 hy
    right
    exact ⟨by cases k <;> rfl, _, rfl⟩
  · cases h

theorem run_checkKey (H : LyOK P L) {t : Nat} {x : D} {v : Value} (hk : keyT L t x = true) (hx : toV x = some v) (e : Bool) : (Instr.checkKey e 10000 t v).run P w = .ok () w := by
  have plain : ∀ u, P.underlying t = some u → (∀ ms, u ≠ .interface ms) → (∀ n e, u ≠ .array n e) → (∀ fs, u ≠ .struct fs) → (Instr.checkKey e (9999 + 1) t v).run P w = .ok () w := by
    intro u hu h1 h2 h3
    unfold Instr.checkKey
    simp only [Sem.run_bind, run_underlying hu, Result.andThen_ok]
    split <;> first | rfl | exact absurd rfl (h1 _) | exact absurd rfl (h2 _ _) | exact absurd rfl (h3 _)
  unfold keyT at hk
  split at hk
  · rename_i hkk
    exact plain _ (H.int hkk) (by simp) (by simp) (by simp)
  · rename_i hkk
    exact plain _ (H.str hkk) (by simp) (by simp) (by simp)
  · rename_i hkk
    exact plain _ (H.bool hkk) (by simp) (by simp) (by simp)
  · rename_i fs cs hkk
    simp only [Bool.and_eq_true, beq_iff_eq] at hk
    simp only [toV] at hx
    obtain ⟨vs, hvs, rfl⟩ := Option.map_eq_some_iff.1 hx
    have hr : ∃ r, eqL cs cs = some r := by
      have hs := hk.2
      clear hvs hk hx plain
      induction cs with
      | nil => exact ⟨_, rfl⟩
      | cons c cs ih =>
        simp only [List.all_cons, Bool.and_eq_true] at hs
        obtain ⟨r, hr⟩ := ih hs.2
        have : ∃ q, eqS c c = some q := by cases c <;> simp [sclC, eqS] at *
        obtain ⟨q, hq⟩ := this
        exact ⟨q && r, by simp [eqL, hq, hr]⟩
    obtain ⟨r, hr⟩ := hr
    exact (H.eqT hk.1.1 w cs cs vs vs r hk.1.2 hk.1.2 hvs hvs hr).2.2 e
  · cases hk

noncomputable def fndR (r : Option D) (x : Option (Nat × Value)) : Option (Nat × Value) := if r.isSome then x else none
/-- The entry of a key, among entries that say these pairs. -/
theorem run_find (H : LyOK P L) {t : Nat} {key : D} {kv : Value} (hk : keyT L t key = true) (hv : toV key = some kv) :
    ∀ (es : List (D × D)) (arr : List MapEntry) (n : Nat) (r : Option D), arr.length = es.length → (∀ (i : Nat) (x : D × D) (e : MapEntry), es[i]? = some x → arr[i]? = some e → toV x.1 = some e.key ∧ toV x.2 = some e.val) → findE L t key es = some r →
      ((∀ cs, key ≠ .agg cs) → ∀ u, P.underlying t = some u → Instr.findNow u kv arr n = some (fndR r ((arr[nrE L t key es]?).map fun e => (n + nrE L t key es, e.val)))) ∧
      (Instr.findAsking t kv arr n).run P w = .ok (fndR r ((arr[nrE L t key es]?).map fun e => (n + nrE L t key es, e.val))) w ∧
      (∀ d, r = some d → ∃ x, es[nrE L t key es]? = some x ∧ x.2 = d) ∧ (r = none → nrE L t key es = es.length)
  | [], [], n, r, _, _, hf => by
    simp [findE] at hf
    subst hf
    exact ⟨fun _ u hu => rfl, rfl, fun d h => (nomatch h), fun _ => rfl⟩
  | [], _ :: _, _, _, h, _, _ => by simp at h
  | _ :: _, [], _, _, h, _, _ => by simp at h
  | x :: es, e :: arr, n, r, hl, he, hf => by
    obtain ⟨k1, k2⟩ := he 0 x e rfl rfl
    simp only [findE] at hf
    split at hf
    · rename_i hq
      cases hf
      obtain ⟨q1, q2⟩ := run_key (w := w) H hq hk hv k1
      have hn : nrE L t key (x :: es) = 0 := by simp [nrE, hq]
      rw [hn]
      refine ⟨fun hna u hu => ?_, ?_, fun d hd => ⟨x, rfl, by cases hd; rfl⟩, fun h => (nomatch h)⟩
      · rcases q2 u hu with q3 | ⟨_, cs, q4⟩
        · simp [Instr.findNow, q3, fndR]
        · exact absurd q4 (hna cs)
      · simp [Instr.findAsking, q1, fndR]
    · rename_i hq
      obtain ⟨q1, q2⟩ := run_key (w := w) H hq hk hv k1
      have hn : nrE L t key (x :: es) = nrE L t key es + 1 := by simp [nrE, hq]
      obtain ⟨i1, i2, i3, i4⟩ := run_find H hk hv es arr (n + 1) r (by simpa using hl) (fun i x' e' hx' he' => he (i + 1) x' e' (by simpa using hx') (by simpa using he')) hf
      rw [hn]
      have e1 : n + 1 + nrE L t key es = n + (nrE L t key es + 1) := by omega
      refine ⟨fun hna u hu => ?_, ?_, fun d hd => ?_, fun h => ?_⟩
      · rcases q2 u hu with q3 | ⟨_, cs, q4⟩
        · simp only [Instr.findNow, q3]
          rw [i1 hna u hu, e1]
          simp
        · exact absurd q4 (hna cs)
      · simp only [Instr.findAsking, Sem.run_bind, q1, Result.andThen_ok, Bool.false_eq_true, if_false]
        rw [i2, e1]
        simp
      · obtain ⟨x', hx', e2⟩ := i3 d hd
        exact ⟨x', by simpa using hx', e2⟩
      · simp [i4 h]
    · cases hf

theorem run_findKey (H : LyOK P L) {t : Nat} {key : D} {kv : Value} (hk : keyT L t key = true) (hv : toV key = some kv) {es : List (D × D)} {arr : List MapEntry} {r : Option D} (hl : arr.length = es.length) (he : ∀ (i : Nat) (x : D × D) (e : MapEntry), es[i]? = some x → arr[i]? = some e → toV x.1 = some e.key ∧ toV x.2 = some e.val) (hf : findE L t key es = some r) :
    (Instr.findKey t kv arr).run P w = .ok (fndR r ((arr[nrE L t key es]?).map fun e => (nrE L t key es, e.val))) w ∧ (∀ d, r = some d → ∃ x, es[nrE L t key es]? = some x ∧ x.2 = d) ∧ (r = none → nrE L t key es = es.length) := by
  obtain ⟨i1, i2, i3, i4⟩ := run_find (w := w) H hk hv es arr 0 r hl he hf
  simp only [Nat.zero_add] at i1 i2
  refine ⟨?_, i3, i4⟩
  have hu : ∃ u, P.underlying t = some u := by
    unfold keyT at hk
    split at hk
    · rename_i h; exact ⟨_, H.int h⟩
    · rename_i h; exact ⟨_, H.str h⟩
    · rename_i h; exact ⟨_, H.bool h⟩
    · rename_i h; obtain ⟨gs, h, _⟩ := H.struct h; exact ⟨_, h⟩
    · cases hk
  obtain ⟨u, hu⟩ := hu
  unfold Instr.findKey
  simp only [Sem.run_bind, run_underlying hu, Result.andThen_ok]
  by_cases hag : ∃ cs, key = .agg cs
  · obtain ⟨cs, rfl⟩ := hag
    have hno : ∀ (es : List MapEntry) n, Instr.findNow u kv es n = some none ∧ es = [] ∨ Instr.findNow u kv es n = none := by
      intro es n
      cases es with
      | nil => exact .inl ⟨rfl, rfl⟩
      | cons e es =>
        right
        simp only [toV] at hv
        obtain ⟨vs, _, rfl⟩ := Option.map_eq_some_iff.1 hv
        have : Instr.sameNow u (.agg vs.toArray) e.key = none := by cases u <;> rfl
        simp [Instr.findNow, this]
    rcases hno arr 0 with ⟨h1, rfl⟩ | h1
    · have : es = [] := List.eq_nil_of_length_eq_zero (by simpa using hl.symm)
      subst this
      simp [findE] at hf
      subst hf
      rw [h1]
      rfl
    · rw [h1]
      exact i2
  · rw [i1 (fun cs h => hag ⟨cs, h⟩) u hu]
    rfl

theorem zero_vt (H : LyOK P L) {e : Nat} {z : D} (hz : zeroD L e = some z) (m : Mt) (r : Root) : ∃ zv, (zeroValue e).run P w = .ok zv w ∧ VT w G m r z zv ∧ (keyC z = true → toV z = some zv) ∧ ∀ ds, z ≠ .tup ds := by
  unfold zeroD at hz
  split at hz
  · rename_i cs hcs
    obtain ⟨zv, h1, h2, h3, h4⟩ := H.zero hcs w
    obtain ⟨h5, h6⟩ := dOfL_get h2
    have hv : VT w G m r z zv ∧ ∀ ds, z ≠ .tup ds := by
      have hof := hz
      unfold ofCells at hz
      rw [Option.ite_none_right_eq_some] at hz
      obtain ⟨_, hz⟩ := hz
      split at hz
      · rename_i ha
        cases hz
        rw [if_pos ha] at h4
        obtain ⟨zs, rfl⟩ := h4
        exact ⟨⟨zs.toList, by simp, h5, fun j d u hd hu => dOf1_imm (h6 j d u hd hu)⟩, fun ds h => (nomatch h)⟩
      · rename_i ha
        rw [if_neg ha] at h4
        split at hz
        · cases hz
          have hc : zv.cells.toList = [zv] := by cases zv <;> first | rfl | exact absurd rfl (h4 _)
          rw [hc] at h6
          have h7 := dOf1_imm (w := w) (G := G) (m := m) (p := ⟨r, 0, 0⟩) (h6 0 _ _ rfl rfl)
          refine ⟨?_, h7.plain.2⟩
          rw [VT_part h7.plain.2, VP_cell h7.plain.1]
          exact h7
        · cases hz
    exact ⟨zv, h1, hv.1, fun hk => vt_toV hk hv.1, hv.2⟩
  · cases hz

theorem mapEs_rel (h : Rel X G s a w) {x : Operand} {d : D} {es : List (D × D)} (hx : lookO s x = some d) (he : mapEs s d = some es) :
    (a.eval x = .map none ∧ es = []) ∨ ∃ k b, d = .map k ∧ a.eval x = .map (some b) ∧ G.be k = some b ∧ MapV w b es := by
  unfold mapEs at he
  split at he
  · cases he
    exact .inl ⟨inv_nilmap (lookO_vt h hx (.air 0) rfl), rfl⟩
  · rename_i k
    split at he
    · rename_i es' hk
      cases he
      obtain ⟨b, hb, hv⟩ := inv_map (lookO_vt h hx (.air 0) rfl)
      obtain ⟨b', hb', _, _, hm⟩ := h.sto k _ hk
      rw [hb] at hb'
      cases hb'
      exact .inr ⟨k, b, rfl, hv, hb, hm⟩
    · cases he
  · cases he

theorem op_lookup (H : LyOK P L) (h : Rel X G s a w) (hn : c.n = X.n) {o : Oper} {t : Nat} {x y : Operand} {ok : Bool} (ho : o.op = .lookup t x y ok) (hs : opD L c X.ro s o = some s') : Yd2 P c X G o s a w s' := by
  simp only [opD, ho] at hs
  split at hs
  · rename_i d1 d2 h1 h2
    unfold lookupD at hs
    split at hs
    · rename_i kt e es hk hes
      rw [Option.ite_none_right_eq_some] at hs
      obtain ⟨hkt, hs⟩ := hs
      split at hs
      · rename_i r z hf hz
        have hu := H.map hk
        obtain ⟨hkc, hno⟩ := keyT_keyC hkt
        have hkv : toV d2 = some (a.eval y) := vt_toV hkc (lookO_vt h h2 (.air 0) hno)
        obtain ⟨zv, z1, z2, _, hzt⟩ := zero_vt (w := w) (G := G) H hz s.m (.air 0)
        have hrun : ∃ vv, (execOp a.eval o).run P w = .ok (.value (if ok then .tuple #[vv, .bool r.isSome] else vv)) w ∧ VT w G s.m (.air 0) (r.getD z) vv ∧ (∀ ds, r.getD z ≠ .tup ds) := by
          rcases mapEs_rel h h1 hes with ⟨e1, rfl⟩ | ⟨k, b, rfl, e1, hb, arr, clock, hh, hal, hent, _⟩
          · simp [findE] at hf
            subst hf
            refine ⟨zv, ?_, z2, hzt⟩
            have hck := run_checkKey (w := w) H hkt hkv true
            have hfk := (run_findKey (w := w) H hkt hkv (es := []) (arr := []) (r := none) rfl (by simp) rfl).1
            simp only [execOp, ho, e1, Instr.lookup, Sem.run_bind, run_underlying hu, Result.andThen_ok, Sem.run_pure]
            simp only [Array.isEmpty_empty, hck, Result.andThen_ok, hfk, z1, Sem.run_bind, Sem.run_pure]
            cases ok <;> simp [fndR, z1]
          · have hck := run_checkKey (w := w) H hkt hkv arr.isEmpty
            obtain ⟨f1, f2, _⟩ := run_findKey (w := w) H hkt hkv (arr := arr.toList) (by simpa using hal) (fun i x' e' hx' he' => by
              obtain ⟨q1, q2, _⟩ := hent i x' e' hx' (by simpa using he')
              exact ⟨q1, q2⟩) hf
            have hg : (getObj b).run P w = .ok (.map arr clock) w := by simp [getObj, Sem.run, hh]
            cases r with
            | none =>
              refine ⟨zv, ?_, z2, hzt⟩
              simp only [execOp, ho, e1, Instr.lookup, Sem.run_bind, run_underlying hu, Result.andThen_ok, Sem.run_pure, hg, hck, f1, z1]
              cases ok <;> simp [fndR, z1]
            | some dv =>
              obtain ⟨x', hx', e2⟩ := f2 dv rfl
              have hi : nrE L kt d2 es < arr.size := by rw [hal]; exact (List.getElem?_eq_some_iff.1 hx').1
              have hent' := hent _ x' arr[nrE L kt d2 es] hx' (by simp [hi])
              refine ⟨arr[nrE L kt d2 es].val, ?_, by rw [← e2] at *; exact toV_vt hent'.2.1, ?_⟩
              · have e3 : arr.toList[nrE L kt d2 es]? = some arr[nrE L kt d2 es] := by simp [hi]
                rw [e3] at f1
                simp only [execOp, ho, e1, Instr.lookup, Sem.run_bind, run_underlying hu, Result.andThen_ok, Sem.run_pure, hg, hck, f1, Option.map_some]
                cases ok <;> simp [fndR, z1]
              · intro ds e4
                simp only [Option.getD_some] at e4
                rw [← e2] at e4
                have := hent'.2.1
                rw [e4] at this
                simp [toV, toV1] at this
        obtain ⟨vv, r1, r2, r3⟩ := hrun
        cases ok with
        | false =>
          simp only [Bool.false_eq_true, if_false] at hs r1
          exact Yd2.put r1 hs 0 r2
        | true =>
          simp only [if_true] at hs r1
          refine Yd2.put r1 hs 0 ⟨[vv, .bool r.isSome], rfl, rfl, fun i d u hd hu' => ?_⟩
          match i, hd, hu' with
          | 0, hd, hu' =>
            simp at hd hu'
            subst hd; subst hu'
            rw [← VT_part r3]
            exact r2
          | 1, hd, hu' =>
            simp at hd hu'
            subst hd; subst hu'
            exact .bool _
          | n + 2, hd, hu' => simp at hd
      · cases hs
    · cases hs
  · cases hs

theorem op_len (H : LyOK P L) (h : Rel X G s a w) (hn : c.n = X.n) {o : Oper} {args : Array Operand} {tys : Array TypeId} (ho : o.op = .call { callee := .builtin .len, args, argTypes := tys }) (hs : opD L c X.ro s o = some s') : Yd2 P c X G o s a w s' := by
  simp only [opD, ho, builtinD] at hs
  unfold lenOp at hs
  split at hs
  · rename_i x t tr hargs htys
    split at hs
    · rename_i d hd
      have e1 : args = #[x] := by rw [← Array.toArray_toList (xs := args), hargs]
      have e2 : tys[0]? = some t := by
        have : tys.toList[0]? = some t := by rw [htys]; rfl
        simpa using this
      obtain ⟨r, hv⟩ := lookO_any h hd
      have hr : ∀ n : Nat, (Builtin.len_ tys o.type #[a.eval x]).run P w = .ok (goInt n) w → (execOp a.eval o).run P w = .ok (.value (.int .i64 n)) w := by
        intro n hl
        subst e1
        simp [execOp, ho, resolve, invoke, builtin, hl, goInt]
      split at hs
      · rename_i n hlen
        refine Yd2.put (hr n ?_) hs 0 (.int _ _)
        unfold lenD at hlen
        split at hlen
        · rename_i q xs hk
          cases hlen
          have hu := H.slice hk
          obtain ⟨A, cap, e3⟩ := inv_list hv
          simp [Builtin.len_, e2, e3, run_underlying hu]
        · rename_i b hk
          cases hlen
          have hu := H.str hk
          have e3 := inv_str hv
          simp [Builtin.len_, e2, e3, run_underlying hu]
        · rename_i hk
          obtain ⟨es, hes, rfl⟩ := Option.map_eq_some_iff.1 hlen
          have hu := H.map hk
          rcases mapEs_rel h hd hes with ⟨e3, rfl⟩ | ⟨k, b, rfl, e3, hb', arr, clock, hh, hal, _⟩
          · simp [Builtin.len_, e2, e3, run_underlying hu]
          · have hg : (getObj b).run P w = .ok (.map arr clock) w := by simp [getObj, Sem.run, hh]
            simp [Builtin.len_, e2, e3, run_underlying hu, hg, hal]
        · cases hlen
      · cases hs
    · cases hs
  · cases hs

theorem op_minmax (h : Rel X G s a w) (hn : c.n = X.n) {o : Oper} {b : Builtin} {f : Int → Int → Int} {args : Array Operand} {tys : Array TypeId} (hb : (b = .min ∧ f = min) ∨ (b = .max ∧ f = max)) (ho : o.op = .call { callee := .builtin b, args, argTypes := tys }) (hs : minmaxOp f c s o.dst args.toList = some s') : Yd2 P c X G o s a w s' := by
  unfold minmaxOp at hs
  split at hs
  · rename_i x y hargs
    have e1 : args = #[x, y] := by rw [← Array.toArray_toList (xs := args), hargs]
    subst e1
    split at hs
    · rename_i k p k' q h1 h2
      rw [Option.ite_none_right_eq_some] at hs
      obtain ⟨rfl, hs⟩ := hs
      have e2 := inv_int (lookO_vt h h1 (.air 0) rfl)
      have e3 := inv_int (lookO_vt h h2 (.air 0) rfl)
      refine Yd2.put ?_ hs 0 (.int _ _)
      rcases hb with ⟨rfl, rfl⟩ | ⟨rfl, rfl⟩
      · simp only [execOp, ho, resolve, invoke, builtin, Sem.run_bind, Sem.run_pure, Result.andThen_ok]
        simp only [List.map_toArray, List.map_cons, List.map_nil, e2, e3, run_min_int2, Result.andThen_ok]
        congr 3
        simp only [Int.min_def]
        split <;> split <;> omega
      · simp only [execOp, ho, resolve, invoke, builtin, Sem.run_bind, Sem.run_pure, Result.andThen_ok]
        simp only [List.map_toArray, List.map_cons, List.map_nil, e2, e3, run_max_int2, Result.andThen_ok]
        congr 3
        simp only [Int.max_def]
        split <;> split <;> omega
    · cases hs
  · cases hs
end

end Go.Lv
