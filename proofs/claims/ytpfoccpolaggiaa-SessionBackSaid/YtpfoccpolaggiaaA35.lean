/-
  A35: what a law answers on data is what its row says.
-/
import Derived.Test.YtpfoccpolaggiaaA34
set_option linter.all false
namespace Go.Lv
open Go Go.ChangeShapes Go.WideShapes Go.ChangeAt Go.RowKit

noncomputable def OkDs (L : Ly) : List Nat → List (List D) → Prop
  | [], [] => True
  | t :: ts, c :: cs => (OkD L 12 t c ∧ c.length = L.size t) ∧ OkDs L ts cs
  | _, _ => False
noncomputable def argsD (L : Ly) : List Nat → List (List D) → List D
  | t :: ts, c :: cs => argD L t c :: argsD L ts cs
  | _, _ => []
noncomputable def parOK (P : Program) (L : Ly) (t : Nat) : Bool := treeT L 12 t && P.readableRec t && decide (t < P.types.size)

section
variable {P : Program} {L : Ly} {H : Type} {enc : TypeId × Value → H} {W : World}

noncomputable def GW (W : World) : Gh := ⟨fun _ => none, fun _ => 0, fun _ => none, fun _ => 0, stW W, fun _ => (0, 0)⟩

theorem imm_vcW {be : Nat → Option Nat} {st : Nat → Nat → Prop} {d : D} {v : Value} (h : Imm W be st d v) {G : Gh} (h1 : G.be = be) (h2 : G.st = st) (m : Mt) (p : Place) : VC W G m p d v := by
  subst h1; subst h2
  cases h with
  | int => exact .int _ _
  | bool => exact .bool _
  | str => exact .str _
  | nil => exact .nil
  | gptr k off b h => exact .gptr _ _ _ h
  | nilmap => exact .nilmap
  | map k b h => exact .map _ _ h
  | nilfn => exact .nilfn
  | fn f ds vs hl h => exact .fn _ _ _ hl h
  | nils a cap => exact .nils _ _
  | list xs b off cap sz vals h1 h2 h3 h4 h5 h6 h7 => exact .list xs b off cap sz vals h1 h2 h3 h4 h5 h6 h7

theorem okD_noagg {n t : Nat} {cs : List D} (h : OkD L n t cs) (ha : L.agg t = false) : ∃ c, cs = [c] ∧ (∀ es, c ≠ .agg es) ∧ ∀ es, c ≠ .tup es := by
  cases n with
  | zero => exact h.elim
  | succ n =>
    unfold OkD at h
    split at h
    · obtain ⟨i, rfl, _⟩ := h; exact ⟨_, rfl, fun _ e => (nomatch e), fun _ e => (nomatch e)⟩
    · obtain ⟨i, rfl⟩ := h; exact ⟨_, rfl, fun _ e => (nomatch e), fun _ e => (nomatch e)⟩
    · obtain ⟨i, rfl, _⟩ := h; exact ⟨_, rfl, fun _ e => (nomatch e), fun _ e => (nomatch e)⟩
    · obtain ⟨i, rfl, _⟩ := h; exact ⟨_, rfl, fun _ e => (nomatch e), fun _ e => (nomatch e)⟩
    · rename_i fs hk; simp [Ly.agg, hk] at ha
    · exact h.elim

/-- An argument, as a slot's. -/
theorem arg_vt (HL : LyOK P L) {t : Nat} {v : Value} {base : Nat} {d : DataW H} {ps : List MemPlace} (ht : treeT L 12 t = true) (hok : Value.okWide P W .any base t v) (h : DataW.Trod enc P W 0 (fun _ => true) true t v d ps) :
    ∃ cs, OkD L 12 t cs ∧ cs.length = L.size t ∧ ∀ m r, VT W (GW W) m r (argD L t cs) v := by
  obtain ⟨fuel, hf⟩ := h
  obtain ⟨cs, h1, h2, h3⟩ := trod_okD HL 12 t ht fuel _ _ hf
  refine ⟨cs, h3, h2, fun m r => ?_⟩
  have hund : ∃ u, P.underlying t = some u ∧ aggU u = L.agg t := by
    have hne : L.tk t ≠ .other := by intro e; unfold treeT at ht; rw [e] at ht; cases ht
    obtain ⟨dt, hdt, htk⟩ := tk_has hne
    obtain ⟨i, u, _, q2, q3, q4, _⟩ := HL t dt hdt
    refine ⟨u, q2, ?_⟩
    unfold Ly.agg
    rw [htk]
    cases hk : dt.k <;> rw [hk] at q3 <;> cases u <;> simp_all [tkOK, aggU, Tk.isAgg]
  obtain ⟨u, hu, hau⟩ := hund
  unfold argD
  cases ha : L.agg t with
  | true =>
    rw [ha] at hau
    obtain ⟨vs, rfl, _⟩ : ∃ cs, v = .agg cs ∧ True := by
      unfold Value.okWide at hok
      rw [hu] at hok
      cases u with
      | struct fs => obtain ⟨cs, e, _⟩ := hok; exact ⟨cs, e, trivial⟩
      | array n e => obtain ⟨cs, e, _⟩ := hok; exact ⟨cs, e, trivial⟩
      | _ => cases hau
    refine ⟨vs.toList, by simp, by rw [h1.1]; rfl, fun j c w hc hw => ?_⟩
    exact imm_vcW (h1.2 j c w hc hw) rfl rfl m _
  | false =>
    rw [ha] at hau
    obtain ⟨c, rfl, hc1, hc2⟩ := okD_noagg h3 ha
    have hv : v.cells.toList = [v] := by
      cases v with
      | agg cs =>
        exfalso
        unfold Value.okWide at hok
        rw [hu] at hok
        cases u <;> simp_all [Cell.okWide, Cell.ok, aggU]
      | _ => rfl
    rw [hv] at h1
    have hi := h1.2 0 c v rfl rfl
    have hvc := imm_vcW hi (G := GW W) rfl rfl m ⟨r, 0, 0⟩
    simp only [Bool.false_eq_true, if_false, List.headD_cons]
    cases c with
    | agg es => exact absurd rfl (hc1 es)
    | tup es => exact absurd rfl (hc2 es)
    | _ => exact hvc

theorem args_vt (HL : LyOK P L) : ∀ (ts : List Nat) (vs : List Value) (ds : List (DataW H)) (ps : List MemPlace) {base : Nat}, (∀ t, t ∈ ts → treeT L 12 t = true) → (∀ (j : Nat) t v, ts[j]? = some t → vs[j]? = some v → Value.okWide P W .any base t v) →
    DataW.TrodAll enc P W 0 (fun _ => true) true ts vs ds ps → ∃ css, OkDs L ts css ∧ (argsD L ts css).length = vs.length ∧ ∀ (j : Nat) (d : D) (v : Value), (argsD L ts css)[j]? = some d → vs[j]? = some v → ∀ m r, VT W (GW W) m r d v
  | [], vs, ds, ps, base, _, _, h => by
    obtain ⟨rfl, rfl, rfl⟩ := trodAll_nil h
    exact ⟨[], trivial, rfl, fun j d v hd => by simp [argsD] at hd⟩
  | t :: ts, vs, ds, ps, base, ht, hok, h => by
    obtain ⟨v, vs', d, ds', p, q, rfl, rfl, rfl, h1, h2⟩ := trodAll_cons h
    obtain ⟨cs, c1, c2, c3⟩ := arg_vt HL (ht t (by simp)) (hok 0 t v rfl rfl) h1
    obtain ⟨css, d1, d2, d3⟩ := args_vt HL ts vs' ds' q (fun t' h' => ht t' (by simp [h'])) (fun j t' v' h1 h2 => hok (j + 1) t' v' (by simpa using h1) (by simpa using h2)) h2
    refine ⟨cs :: css, ⟨⟨c1, c2⟩, d1⟩, by simp [argsD, d2], fun j d' v' hd hv => ?_⟩
    cases j with
    | zero => simp [argsD] at hd hv; subst hd; subst hv; exact c3
    | succ j => simp [argsD] at hd hv; exact d3 j d' v' hd hv

/-- The start of a law. -/
theorem Rel.top {ds : List D} {vs : List Value} {n : Nat} (hl : ds.length = vs.length) (hn : vs.length ≤ n) (hv : ∀ (j : Nat) (d : D) (v : Value), ds[j]? = some d → vs[j]? = some v → ∀ m r, VT W (GW W) m r d v) :
    Rel ⟨n, 0, 0, W, GW W, []⟩ (GW W) (s0 0 ds []) (Frm n vs) W where
  size := by simp [Frm]; omega
  defers := rfl
  env t d ht := by
    have h1 : (num 0 ds).length = ds.length := by
      have : ∀ (k : Nat) (l : List D), (num k l).length = l.length := by
        intro k l; induction l generalizing k with
        | nil => rfl
        | cons a l ih => simp [num, ih]
      exact this 0 ds
    have ht' : lk t (num 0 ds) = some d := ht
    rw [lk_num, if_pos (Nat.zero_le _), Nat.sub_zero] at ht'
    have hlt : t < vs.length := by rw [← hl]; exact (List.getElem?_eq_some_iff.1 ht').1
    have e : (Frm n vs).tmps.getD t undef = vs[t] := by
      simp [Frm, Array.getD_eq_getD_getElem?, Array.getElem?_append, hlt]
    rw [e]
    exact hv t d _ ht' (List.getElem?_eq_getElem hlt) _ _
  loc t cs h := by simp [s0, lk_nil] at h
  sto k o h := by simp [s0] at h
  be k _ := rfl
  new b hb := ⟨rfl, fun e he => by have : b < W.heap.size := he; omega⟩
  stow b e _ := rfl
  std b e e' h _ := h
  old b hb _ := ⟨rfl, rfl, fun e h => h⟩
  os := rfl
  tape := rfl
  output := rfl
  grow := Nat.le_refl _
  ro := Nat.zero_le _
  rom := rfl
  be0 k h := rfl
  n0 := Nat.le_refl _
  la0 t h := by cases h

theorem trodAll_stays (hlaid : laidOutB P = true) {W' : World} (hb : Below W.heap.size W W') : ∀ (ts : List Nat) (vs : List Value) (ds : List (DataW H)) (ps : List MemPlace), (∀ t, t ∈ ts → P.readableRec t = true ∧ t < P.types.size) → (∀ x ∈ ps, x.block < W.heap.size) →
    DataW.TrodAll enc P W 0 (fun _ => true) true ts vs ds ps → DataW.TrodAll enc P W' 0 (fun b => decide (b < W.heap.size)) true ts vs ds ps
  | [], vs, ds, ps, _, _, h => by
    obtain ⟨rfl, rfl, rfl⟩ := trodAll_nil h
    rfl
  | t :: ts, vs, ds, ps, ht, hlt, h => by
    obtain ⟨v, vs', d, ds', p, q, rfl, rfl, rfl, h1, h2⟩ := trodAll_cons h
    refine ⟨p, q, Below.trod hlaid (ht t (by simp)).1 (ht t (by simp)).2 h1 hb (fun x hx => hlt x (by simp [hx])), trodAll_stays hlaid hb ts vs' ds' q (fun t' h' => ht t' (by simp [h'])) (fun x hx => hlt x (by simp [hx])) h2, rfl⟩

/-- A law that answers true on all data. -/
theorem row_calls (HL : LyOK P L) (hlaid : laidOutB P = true) {k : Nat} {fn : Func} {tb : Nat} {s : ChangeSpec} (hf : P.funcs[k]? = some fn) (hres : fn.resultTypes = #[tb]) (htb : L.tk tb = .bool) (hpar : fn.params.toList.all (parOK P L) = true) (hvars : s.vars = [])
    (hs : ∀ (H : Type) (ds : List (DataW H)), ds.length = fn.params.size → s.fn H ds = { results := [.lit (.bool true)], args := ds })
    (hT : ∀ css, OkDs L fn.params.toList css → Tri P k 0 (argsD L fn.params.toList css) [] (fun d _ => d = .bool true))
    (W : World) (base : Nat) (args : Array Value) (ds gs : List (DataW H)) (before : List MemPlace)
    (hval : ∀ (j : Nat) t v, fn.params[j]? = some t → args[j]? = some v → Value.okWide P W .any base t v)
    (hW : DataW.Whole enc P fn.params.toList s.vars false W args.toList ds gs before) :
    Calls P k args W fun e W' => ∃ v, e = .returned v ∧ s.post enc P fn false true false false W args v W' := by
  have hW' := hW
  obtain ⟨p, q, hA, hV, hpq, hfz, hnd⟩ := hW
  rw [hvars] at hV
  obtain ⟨rfl, rfl⟩ := trodVars_none hV
  have hpar' : ∀ t, t ∈ fn.params.toList → treeT L 12 t = true ∧ P.readableRec t = true ∧ t < P.types.size := fun t ht => by
    have := List.all_eq_true.1 hpar t ht
    simp only [parOK, Bool.and_eq_true, decide_eq_true_eq] at this
    exact ⟨this.1.1, this.1.2, this.2⟩
  obtain ⟨css, c1, c2, c3⟩ := args_vt (base := base) HL fn.params.toList args.toList ds p (fun t ht => (hpar' t ht).1) (fun j t v h1 h2 => hval j t v (by simpa using h1) (by simpa using h2)) hA
  obtain ⟨fn', hf', hb, hlen, hro, hcall⟩ := hT css c1
  have e : fn' = fn := by rw [hf] at hf'; exact (Option.some.inj hf').symm
  subst e
  have hstart := Rel.top (W := W) (n := fn'.ntmps) c2 (by rw [← c2]; exact hlen) c3
  have := hcall (GW W) W args.toList c2.symm hstart
  rw [Array.toArray_toList] at this
  refine this.mono fun e W' he => ?_
  cases e with
  | panicked c => exact he.elim
  | outgrown => exact he.elim
  | returned v =>
    obtain ⟨d, s', G', a', rfl, hR, hv⟩ := he
    have hvb : v = .bool true := inv_bool hv
    subst hvb
    refine ⟨_, rfl, ?_⟩
    have hlt := hW'.lt
    have hbelow : Below W.heap.size W W' := ⟨hR.os, hR.tape, hR.output, hR.grow, fun k hk => (hR.old k hk rfl).1⟩
    have hdl : ds.length = fn'.params.size := by
      have : ∀ (ts : List Nat) (vs : List Value) (ds : List (DataW H)) (ps : List MemPlace), DataW.TrodAll enc P W 0 (fun _ => true) true ts vs ds ps → ds.length = ts.length := by
        intro ts
        induction ts with
        | nil => intro vs ds ps h; obtain ⟨_, rfl, _⟩ := trodAll_nil h; rfl
        | cons t ts ih => intro vs ds ps h; obtain ⟨v, vs', d, ds', p, q, rfl, rfl, rfl, h1, h2⟩ := trodAll_cons h; simp [ih _ _ _ h2]
      simpa using this _ _ _ _ hA
    have hfn := hs H ds hdl
    refine ⟨ds, [], before, [], before, [], hW', ?_, ?_, ?_, ?_, fun h => by cases h⟩
    · rw [List.append_nil, hfn, hres]
      exact trodAll_mk1 ⟨1, by simp [DataW.trod, HL.bool htb, Value.cells]⟩
    · rw [List.append_nil, hfn]
      rw [hpq, List.append_nil]
      exact trodAll_stays hlaid hbelow _ _ _ _ (fun t ht => (hpar' t ht).2) (fun x hx => hlt x (by rw [hpq, List.append_nil]; exact hx)) hA
    · rw [hvars]
      rw [List.append_nil, hfn]
      rfl
    · refine ⟨hR.os, hR.output, fun i hi => ?_⟩
      rw [(hR.old i hi rfl).1]
      split <;> simp_all
end

end Go.Lv
