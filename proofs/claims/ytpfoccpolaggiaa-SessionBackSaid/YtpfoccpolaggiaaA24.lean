/-
  A24: a call: what is one's own may be handed over; nothing is lent but what stays for good. The store may be written, or only be read.
-/
import Derived.Test.YtpfoccpolaggiaaA23
set_option linter.all false
namespace Go.Lv

/-- Which cells an argument or an answer may have. -/
noncomputable def cellsOK (d : D) : Bool := !isTup d && (cellsD d).all stoC
noncomputable def partsOK : D → Bool
  | .tup ds => ds.all cellsOK
  | d => cellsOK d
noncomputable def isDead : D → Bool
  | .dead => true
  | _ => false
noncomputable def boxOK : Ob → Bool
  | .box cs => cs.all fun c => stoC c || isDead c
  | .map _ => true
noncomputable def boxIm : Ob → Bool
  | .box cs => cs.all rowC
  | .map _ => true
/-- May the store be handed on, those below r to be read alone? -/
noncomputable def stoOK (ro r : Nat) (sto : List Ob) : Bool := ((sto.take r).drop ro).all boxIm && (sto.drop r).all boxOK

noncomputable def hadOwn (ds : List D) : Bool := ds.any hasOwn
/-- The counts behind a call. -/
noncomputable def callM (m : Mt) (pu own : Bool) : Mt := { m with era := if pu then m.era else m.era + 1, ep := if pu && !own then m.ep else m.ep + 1 }
noncomputable def afterC (s1 : DS) (r : Nat) (ds : List D) (sto : List Ob) : DS := { s1 with sto, m := callM s1.m (sto.length == r) (hadOwn ds) }

noncomputable def intoOwn (n r l : Nat) : Option Owner → Option Owner
  | some (.lst p) => match p.r with
    | .air k => if 1 ≤ k ∧ k ≤ n then some (.lst ⟨.slot (k - 1), p.i, p.j⟩) else none
    | .gbox k => if r ≤ k ∧ k < l then some (.lst p) else none
    | _ => none
  | some (.box (.gbox k)) => if r ≤ k ∧ k < l then some (.box (.gbox k)) else none
  | _ => none
noncomputable def Gh.into (G : Gh) (n r l : Nat) : Gh :=
  { G with
    own := fun b => intoOwn n r l (G.own b)
    pl := fun p => match p.r with
      | .slot t => G.pl ⟨.air (t + 1), p.i, p.j⟩
      | _ => G.pl p }
noncomputable def backOwn : Option Owner → Option Owner
  | some (.lst p) => match p.r with
    | .air 0 => some (.lst p)
    | .gbox _ => some (.lst p)
    | _ => none
  | some (.box (.gbox k)) => some (.box (.gbox k))
  | _ => none
noncomputable def Gh.back (G G' : Gh) (n r l sz : Nat) (pu : Bool) : Gh :=
  open Classical in
  { be := G'.be
    la := G.la
    own := fun b => if b < sz ∧ intoOwn n r l (G.own b) = none then G.own b else backOwn (G'.own b)
    fin := fun b => if b < sz ∧ intoOwn n r l (G.own b) = none then G.fin b else G'.fin b
    st := fun b e => if b < sz ∧ intoOwn n r l (G.own b) = none then G.st b e else G'.st b e
    pl := fun p => match p.r with
      | .air 0 => G'.pl p
      | .gbox k => if k < r ∨ pu = true then G.pl p else G'.pl p
      | _ => G.pl p }

section
variable {P : Program} {T : St} {X : Ctx} {G G1 G' : Gh} {s s' s1 : DS} {a a' : Act} {w w' : World} {Q Q' : Ex → DS → Prop} {K K' : DS → Prop} {o : Oper} {ops : Array Oper} {m m' : Mt}

theorem run_call {x : Operand} {args : Array Operand} {tys : Array TypeId} (ho : o.op = .call { callee := .value x, args, argTypes := tys }) {f : Nat} {caps : Array Value} (hx : a.eval x = .func (.func f) #[] caps) {fn : Func} (hf : P.funcs[f]? = some fn) (hb : fn.body.isNone = false) (hn : (fn.name == "runtime.NumGoroutine") = false) :
    (execOp a.eval o).run P w = .ok (.enter f (args.map a.eval ++ caps)) w := by
  have hb' : fn.body ≠ none := by intro e; rw [e] at hb; cases hb
  have hn' : ¬ fn.name = "runtime.NumGoroutine" := by simpa using hn
  simp [execOp, ho, resolve, Deferred.ofValue, hx, invoke, callFunc, hf, hb', hn']

theorem into_vc {n r l t i j : Nat} {d : D} {v : Value} (ht : isOwn d = true → t < n) (hd : stoC d = true) (h : VC w G m ⟨.air (t + 1), i, j⟩ d v) : VC w (G.into n r l) (m0 r) ⟨.slot t, i, j⟩ d v := by
  by_cases hro : rowC d = true
  · have hi := vc_rowC h hro
    cases d with
    | list q xs => cases q <;> first | exact hi | simp [rowC] at hro
    | _ => first | exact hi | simp [rowC] at hro
  · cases d with
    | list q xs =>
      cases q with
      | own sz =>
        rcases h with h | ⟨hz, b, off, cap, rfl, hc, ho, hf, hpl, hcell, hrows⟩
        · exact .inl h
        · refine .inr ⟨hz, b, off, cap, rfl, hc, ?_, hf, hpl, hcell, hrows⟩
          show intoOwn n r l (G.own b) = _
          rw [ho]
          simp only [intoOwn]
          have := ht rfl
          rw [if_pos ⟨by omega, by omega⟩]
          simp
      | _ => simp [stoC, rowC] at hd hro
    | _ => simp_all [stoC]

theorem into_vt {n r l t : Nat} {d : D} {v : Value} (ht : hasOwn d = true → t < n) (hd : cellsOK d = true) (h : VT w G m (.air (t + 1)) d v) : VT w (G.into n r l) (m0 r) (.slot t) d v := by
  simp only [cellsOK, Bool.and_eq_true, Bool.not_eq_true'] at hd
  obtain ⟨hnt, hall⟩ := hd
  have hnt' : ∀ es, d ≠ .tup es := by rintro es rfl; simp [isTup] at hnt
  rw [VT_part hnt'] at h ⊢
  cases d with
  | agg cs =>
    obtain ⟨vs, rfl, hl, h1⟩ := h
    exact ⟨vs, rfl, hl, fun j d u hd hu => into_vc (fun ho => ht (List.any_eq_true.2 ⟨d, List.mem_of_getElem? hd, ho⟩)) (List.all_eq_true.1 hall d (List.mem_of_getElem? hd)) (h1 j d u hd hu)⟩
  | tup ds => exact absurd rfl (hnt' ds)
  | _ =>
    rw [VP_cell (by intro cs e; cases e)] at h ⊢
    exact into_vc (fun ho => ht ho) (by simpa [cellsD] using hall) h

/-- The cells of a box as what a callee may read. -/
theorem box_im {r : Root} {b : Nat} {cs : List D} (h : BoxV w G m r b cs) (hc : cs.all rowC = true) : ∀ (j : Nat) (d : D), cs[j]? = some d → ∃ u, w.cell? ⟨b, j, none⟩ = some u ∧ Imm w G.be G.st (fz d) u := by
  intro j d hd
  obtain ⟨u, h1, _, h3⟩ := h j d hd
  have hr := List.all_eq_true.1 hc d (List.mem_of_getElem? hd)
  have : fz d = d := by
    cases d with
    | list q xs => cases q <;> first | rfl | simp [rowC] at hr
    | _ => rfl
  rw [this]
  exact ⟨u, h1, vc_rowC h3 hr⟩

theorem into_box {n r l k : Nat} {b : Nat} {cs : List D} (hk : r ≤ k ∧ k < l) (hc : (cs.all fun c => stoC c || isDead c) = true) (h : BoxV w G m (.gbox k) b cs) : BoxV w (G.into n r l) (m0 r) (.gbox k) b cs := by
  intro j d hd
  obtain ⟨u, h1, h2, h3⟩ := h j d hd
  refine ⟨u, h1, h2, ?_⟩
  have hr := List.all_eq_true.1 hc d (List.mem_of_getElem? hd)
  by_cases hro : rowC d = true
  · have hi := vc_rowC h3 hro
    cases d with
    | list q xs => cases q <;> first | exact hi | simp [rowC] at hro
    | _ => first | exact hi | simp [rowC] at hro
  · cases d with
    | list q xs =>
      cases q with
      | own sz =>
        rcases h3 with h3 | ⟨hz, b, off, cap, rfl, hc, ho, hf, hpl, hcell, hrows⟩
        · exact .inl h3
        · refine .inr ⟨hz, b, off, cap, rfl, hc, ?_, hf, hpl, hcell, hrows⟩
          show intoOwn n r l (G.own b) = _
          rw [ho]
          simp only [intoOwn]
          rw [if_pos hk]
      | _ => simp [stoC, rowC, isDead] at hr hro
    | dead => exact h3
    | _ => simp_all [stoC, rowC, isDead]

theorem Rel.start (h : Rel X G s a w) {r n : Nat} {ds caps : List D} {vs cvs : List Value} (hr1 : X.ro ≤ r) (hr2 : r ≤ s.sto.length) (hok : stoOK X.ro r s.sto = true) (hds : ds.all cellsOK = true) (hl : vs.length = ds.length) (hv : ∀ (k : Nat) (d : D) (v : Value), ds[k]? = some d → vs[k]? = some v → VT w G s.m (.air (k + 1)) d v)
    (hcl : cvs.length = caps.length) {nt : Nat} (hnt : hadOwn ds = true → n = ds.length) (hc : ∀ (k : Nat) (d : D) (v : Value), caps[k]? = some d → cvs[k]? = some v → Imm w G.be G.st d v) (hn : (ds ++ caps).length ≤ nt) :
    Rel ⟨nt, r, s.sto.length, w, G.into n r s.sto.length, []⟩ (G.into n r s.sto.length) (s0 r (ds ++ caps) s.sto) (Frm nt (vs ++ cvs)) w := by
  have hvl : (vs ++ cvs).length ≤ nt := by rw [List.length_append] at hn ⊢; omega
  simp only [stoOK, Bool.and_eq_true] at hok
  obtain ⟨hok1, hok2⟩ := hok
  refine { size := by simp only [Frm, Array.size_append, List.size_toArray, Array.size_replicate]; omega, defers := rfl, env := fun t d ht => ?_, loc := fun t cs ht => by simp [s0, lk_nil] at ht, sto := fun k o hk => ?_, be := h.be, new := fun b hb => ?_, stow := fun b e he => ?_, std := h.std, old := fun b hb h0 => ⟨rfl, h0, fun e he => he⟩, os := rfl, tape := rfl, output := rfl, grow := Nat.le_refl _, ro := hr2, rom := rfl, be0 := fun _ _ => rfl, n0 := Nat.le_refl _, la0 := fun t ht => nomatch ht }
  · have ht' : lk t (num 0 (ds ++ caps)) = some d := ht
    rw [lk_num] at ht'
    simp only [Nat.zero_le, if_true, Nat.sub_zero] at ht'
    have hlt : t < (vs ++ cvs).length := by
      have := (List.getElem?_eq_some_iff.1 ht').1
      rw [List.length_append] at this ⊢
      omega
    have hg : (Frm nt (vs ++ cvs)).tmps.getD t undef = (vs ++ cvs)[t] := by
      simp only [Frm, Array.getD_eq_getD_getElem?]
      rw [Array.getElem?_append_left (by simpa using hlt)]
      simp only [List.getElem?_toArray]
      rw [List.getElem?_eq_getElem hlt]
      rfl
    rw [hg]
    by_cases h1 : t < ds.length
    · rw [List.getElem?_append_left h1] at ht'
      rw [List.getElem_append_left (by omega)]
      exact into_vt (fun ho => by rw [hnt (List.any_eq_true.2 ⟨d, List.mem_of_getElem? ht', ho⟩)]; exact h1) (List.all_eq_true.1 hds d (List.mem_of_getElem? ht')) (hv t d _ ht' (List.getElem?_eq_getElem (by omega)))
    · rw [List.getElem?_append_right (by omega)] at ht'
      rw [List.getElem_append_right (by omega)]
      have hlt2 : t - vs.length < cvs.length := by rw [List.length_append] at hlt; omega
      have hi := hc (t - ds.length) d (cvs[t - vs.length]) ht' (by rw [← hl]; exact List.getElem?_eq_getElem hlt2)
      have : VC w (G.into n r s.sto.length) (m0 r) ⟨.slot t, 0, 0⟩ d (cvs[t - vs.length]) := by
        cases d with
        | list q xs => cases q <;> first | exact hi | cases hi
        | _ => first | exact hi | cases hi
      rw [VT_part this.plain.2, VP_cell this.plain.1]
      exact this
  · have hk' : s.sto[k]? = some o := hk
    obtain ⟨b, h1, h2, h3, h4⟩ := h.sto k o hk'
    refine ⟨b, h1, ?_, h3, ?_⟩
    · show if k < r then intoOwn _ _ _ (G.own b) = none else intoOwn _ _ _ (G.own b) = _
      by_cases hkr : k < r
      · rw [if_pos hkr]
        split at h2
        · rw [h2]; rfl
        · rw [h2]
          simp only [intoOwn]
          rw [if_neg (by omega)]
      · rw [if_neg hkr]
        rw [if_neg (by omega)] at h2
        rw [h2]
        simp only [intoOwn]
        have hlt := (List.getElem?_eq_some_iff.1 hk').1
        rw [if_pos ⟨by omega, hlt⟩]
    · cases o with
      | map es => exact h4
      | box cs =>
        simp only [ObV] at h4 ⊢
        by_cases hk0 : k < X.ro
        · rw [if_pos hk0] at h4
          rw [if_pos (by omega)]
          exact h4
        · rw [if_neg hk0] at h4
          by_cases hkr : k < r
          · rw [if_pos hkr]
            have hmem : Ob.box cs ∈ (s.sto.take r).drop X.ro := by
              refine List.mem_of_getElem? (i := k - X.ro) ?_
              rw [List.getElem?_drop, show X.ro + (k - X.ro) = k by omega, List.getElem?_take, if_pos hkr]
              exact hk'
            have := box_im h4 (List.all_eq_true.1 hok1 _ hmem)
            exact this
          · rw [if_neg hkr]
            have hlt := (List.getElem?_eq_some_iff.1 hk').1
            refine into_box ⟨by omega, hlt⟩ ?_ h4
            have : Ob.box cs ∈ s.sto.drop r := by
              refine List.mem_of_getElem? (i := k - r) ?_
              rw [List.getElem?_drop, show r + (k - r) = k by omega]
              exact hk'
            exact List.all_eq_true.1 hok2 _ this
  · obtain ⟨h1, h2⟩ := h.new b hb
    exact ⟨by show intoOwn _ _ _ (G.own b) = none; rw [h1]; rfl, h2⟩
  · show intoOwn _ _ _ (G.own b) = none
    rw [h.stow b e he]
    rfl

theorem heap_cell {b : Nat} (h : w'.heap[b]? = w.heap[b]?) (o : Nat) : w'.cell? ⟨b, o, none⟩ = w.cell? ⟨b, o, none⟩ ∧ w'.frozen? ⟨b, o, none⟩ = w.frozen? ⟨b, o, none⟩ := by
  unfold World.cell? World.frozen?
  rw [h]
  exact ⟨rfl, rfl⟩

/-- A place that a call leaves alone. -/
noncomputable def stays (r : Nat) (p : Place) : Prop := match p.r with
  | .air _ => False
  | .gbox k => k < r
  | _ => True

theorem callM_rv (m : Mt) (pu own : Bool) (r : Root) : m.rv r ≤ (callM m pu own).rv r := by
  cases r <;> simp [Mt.rv, callM]
  cases pu <;> simp

theorem into_none {n r l : Nat} {b : Nat} {p : Place} (h : G.own b = some (.lst p)) (hs : stays r p) : intoOwn n r l (G.own b) = none := by
  rw [h]
  unfold stays at hs
  simp only [intoOwn]
  split
  · rename_i e; rw [e] at hs; exact hs.elim
  · rename_i e; rw [e] at hs; simp only at hs; rw [if_neg (by omega)]
  · rfl

section
variable {n r nt l : Nat} {pu : Bool} (h : Rel X G1 s1 a w) (h' : Rel ⟨nt, r, l, w, G1.into n r l, []⟩ G' s' a' w') (hll : l = s1.sto.length)
include h h' hll

theorem back_old {b : Nat} (hb : b < w.heap.size) (h0 : intoOwn n r l (G1.own b) = none) : w'.heap[b]? = w.heap[b]? ∧ G'.own b = none ∧ ∀ e, G'.st b e → G1.st b e :=
  h'.old b hb h0

theorem back_st {b e : Nat} (hs : G'.st b e) : (Gh.back G1 G' n r l w.heap.size pu).st b e := by
  simp only [Gh.back]
  split
  · rename_i hc
    exact (back_old h h' hll hc.1 hc.2).2.2 e hs
  · exact hs

theorem back_imm {d : D} {v : Value} (hi : Imm w' G'.be G'.st d v) : Imm w' (Gh.back G1 G' n r l w.heap.size pu).be (Gh.back G1 G' n r l w.heap.size pu).st d v :=
  hi.mono (fun _ _ h => h) (fun b e hs => back_st h h' hll hs) (fun _ _ _ _ _ => rfl)

theorem back_vc {p : Place} (hp : p.r = .air 0 ∨ ∃ k, p.r = .gbox k ∧ r ≤ k ∧ pu = false) {d : D} (hd : (stoC d || isDead d) = true) {v : Value} {m2 : Mt} (hv : VC w' G' s'.m p d v) : VC w' (Gh.back G1 G' n r l w.heap.size pu) m2 p d v := by
  by_cases hro : rowC d = true
  · have hi := back_imm (pu := pu) h h' hll (vc_rowC hv hro)
    cases d with
    | list q xs => cases q <;> first | exact hi | simp [rowC] at hro
    | _ => first | exact hi | simp [rowC] at hro
  · cases d with
    | list q xs =>
      cases q with
      | own sz =>
        rcases hv with hv | ⟨hz, b, off, cap, rfl, hc, ho, hf, hpl, hcell, hrows⟩
        · exact .inl hv
        · have hnot : ¬ (b < w.heap.size ∧ intoOwn n r l (G1.own b) = none) := by
            rintro ⟨q1, q2⟩
            have := (back_old h h' hll q1 q2).2.1
            rw [ho] at this
            cases this
          refine .inr ⟨hz, b, off, cap, rfl, hc, ?_, ?_, ?_, hcell, hrows.mono (fun _ _ h => h) (fun b e hs => back_st h h' hll hs) (fun _ _ _ _ _ => rfl) (fun _ _ => rfl)⟩
          · simp only [Gh.back]
            rw [if_neg hnot, ho]
            rcases hp with hp | ⟨k, hp, _⟩ <;> simp only [backOwn, hp]
          · simp only [Gh.back]
            rw [if_neg hnot]
            exact hf
          · rw [← hpl]
            rcases hp with hp | ⟨k, hp, hk, hpu⟩ <;> simp only [Gh.back, hp]
            rw [if_neg (by rw [hpu]; simp; omega)]
      | _ => simp [stoC, rowC, isDead] at hd hro
    | dead => exact hv
    | _ => simp_all [stoC, rowC, isDead]

theorem back_keeps {own : Bool} (hpu : pu = true → l ≤ r) (hown : own = false → n = 0) : Keeps w G1 s1.m w' (Gh.back G1 G' n r l w.heap.size pu) (callM s1.m pu own) (stays r) where
  be := fun k b hb => by
    have hlt : k < s1.sto.length := by
      refine Nat.lt_of_not_le fun hk => ?_
      rw [h.be k hk] at hb
      cases hb
    show G'.be k = some b
    rw [h'.be0 k (by show k < l; omega)]
    exact hb
  st := fun b e hs => by
    have h0 := h.stow b e hs
    simp only [Gh.back]
    rw [if_pos ⟨h.stLt hs, by rw [h0]; rfl⟩]
    exact hs
  cell := fun b e o hs _ => by
    have h0 := h.stow b e hs
    unfold World.cell?
    rw [(back_old h h' hll (h.stLt hs) (by rw [h0]; rfl)).1]
  ep := by simp only [callM]; split <;> omega
  rv := callM_rv _ _ _
  al := fun _ => Nat.le_refl _
  era := by simp only [callM]; split <;> omega
  rd := fun he b e hr => by
    have hc : pu = true ∧ own = false := by
      simp only [callM] at he
      split at he
      · rename_i q; simpa using q
      · omega
    have h0 : intoOwn n r l (G1.own b) = none := by
      rcases hr with hr | ⟨⟨p, hp⟩, _⟩
      · rw [h.stow b e hr]; rfl
      · rw [hp]
        simp only [intoOwn]
        split
        · rename_i k e1
          have := hown hc.2
          rw [if_neg (by omega)]
        · rename_i k e1
          have := hpu hc.1
          rw [if_neg (by omega)]
        · rfl
    have hb : b < w.heap.size := by
      rcases hr with hr | ⟨⟨p, hp⟩, _⟩
      · exact h.stLt hr
      · exact h.ownLt hp
    refine ⟨?_, fun o _ => by unfold World.cell?; rw [(back_old h h' hll hb h0).1]⟩
    rcases hr with hr | ⟨⟨p, hp⟩, hn⟩
    · left
      simp only [Gh.back]
      rw [if_pos ⟨hb, h0⟩]
      exact hr
    · right
      simp only [Gh.back]
      rw [if_pos ⟨hb, h0⟩, if_pos ⟨hb, h0⟩]
      exact ⟨⟨p, hp⟩, hn⟩
  pl := fun p ha hv => by
    obtain ⟨pr, i, j⟩ := p
    cases pr with
    | air k => cases ha
    | gbox k =>
      simp only [Gh.back]
      have hp : pu = true := by
        cases pu with
        | true => rfl
        | false => simp [Mt.rv, callM] at hv
      rw [if_pos (.inr hp)]
    | slot t => rfl
    | lbox t => rfl
  la := fun _ _ => rfl
  own := fun b p hs ho => by
    have h0 := into_none (n := n) (l := l) ho hs
    have hb := h.ownLt ho
    refine ⟨?_, ?_, fun o => ?_⟩
    · simp only [Gh.back]
      rw [if_pos ⟨hb, h0⟩]
      exact ho
    · simp only [Gh.back]
      rw [if_pos ⟨hb, h0⟩]
    · unfold World.cell? World.frozen?
      rw [(back_old h h' hll hb h0).1]
      exact ⟨rfl, rfl⟩
  opl := fun p hs => by
    obtain ⟨pr, i, j⟩ := p
    cases pr with
    | air k => exact hs.elim
    | gbox k =>
      have hk : k < r := hs
      simp only [Gh.back]
      rw [if_pos (.inl hk)]
    | slot t => rfl
    | lbox t => rfl
  mp := fun he k b es clock hb hh => by
    have hp : pu = true := by
      cases pu with
      | true => rfl
      | false => simp [callM] at he
    have hlt : k < s1.sto.length := by
      refine Nat.lt_of_not_le fun hk => ?_
      rw [h.be k hk] at hb
      cases hb
    obtain ⟨b', e1, e2, e3, _⟩ := h.sto k _ (List.getElem?_eq_getElem hlt)
    rw [hb] at e1
    cases e1
    have h0 : intoOwn n r l (G1.own b) = none := by
      split at e2
      · rw [e2]; rfl
      · rw [e2]
        simp only [intoOwn]
        have := hpu hp
        rw [if_neg (by omega)]
    exact ⟨es, clock, by rw [(back_old h h' hll e3 h0).1]; exact hh, fun i x hx => ⟨x, hx, rfl⟩⟩

/-- The caller's relation behind a call. -/
theorem Rel.back (hTX : X.ro ≤ r) {own : Bool} (hrl : r ≤ l) (hpu : pu = (s'.sto.length == r)) (hown : own = false → n = 0) (hpre : ∀ k, k < r → s'.sto[k]? = s1.sto[k]?) (hbx : (s'.sto.drop r).all boxOK = true) :
    Rel X (Gh.back G1 G' n r l w.heap.size pu) { s1 with sto := s'.sto, m := callM s1.m pu own } a w' := by
  have hlen : l ≤ s'.sto.length := h'.n0
  have hpu' : pu = true → l ≤ r := by
    intro e
    rw [hpu] at e
    have : s'.sto.length = r := by simpa using e
    omega
  have K := back_keeps h h' hll (pu := pu) hpu' hown
  have hkl : ∀ k, k < l → G'.be k = G1.be k := fun k hk => h'.be0 k hk
  refine { size := h.size, defers := h.defers, env := fun t d ht => K.vt (fun i q j c _ _ _ => by simp [stays]) (h.env t d ht), loc := fun t cs ht => ?_, sto := fun k o hk => ?_, be := h'.be, new := fun b hb => ?_, stow := fun b e he => ?_, std := fun b e e' he hee => ?_, old := fun b hb h0 => ?_, os := h'.os.trans h.os, tape := h'.tape.trans h.tape, output := h'.output.trans h.output, grow := Nat.le_trans h.grow h'.grow, ro := ?_, rom := h.rom, be0 := fun k hk => ?_, n0 := ?_, la0 := h.la0 }
  · obtain ⟨h1, h2⟩ := h.loc t cs ht
    have hb := h.ownLt h1
    have h0 : intoOwn n r l (G1.own (G1.la t)) = none := by rw [h1]; rfl
    refine ⟨?_, K.box (fun j c _ _ => by simp [stays]) (fun o => ?_) h2⟩
    · show (if _ then G1.own (G1.la t) else _) = _
      rw [if_pos ⟨hb, h0⟩]
      exact h1
    · exact heap_cell (back_old h h' hll hb h0).1 o
  · have hk' : s'.sto[k]? = some o := hk
    by_cases hkr : k < r
    · rw [hpre k hkr] at hk'
      obtain ⟨b, h1, h2, h3, h4⟩ := h.sto k o hk'
      have h0 : intoOwn n r l (G1.own b) = none := by
        split at h2
        · rw [h2]; rfl
        · rw [h2]
          simp only [intoOwn]
          rw [if_neg (by omega)]
      have hheap := (back_old h h' hll h3 h0).1
      refine ⟨b, K.be k b h1, ?_, Nat.lt_of_lt_of_le h3 h'.grow, ?_⟩
      · show if k < X.ro then (if _ then G1.own b else _) = none else (if _ then G1.own b else _) = _
        have e1 : (if b < w.heap.size ∧ intoOwn n r l (G1.own b) = none then G1.own b else backOwn (G'.own b)) = G1.own b := if_pos ⟨h3, h0⟩
        rw [e1]
        exact h2
      · cases o with
        | map es =>
          obtain ⟨arr, clock, q1, q2⟩ := h4
          exact ⟨arr, clock, by rw [hheap]; exact q1, q2⟩
        | box cs =>
          simp only [ObV] at h4 ⊢
          split <;> rename_i hk0
          · rw [if_pos hk0] at h4
            intro j d hd
            obtain ⟨u, h5, h6⟩ := h4 j d hd
            exact ⟨u, by rw [(heap_cell hheap j).1]; exact h5, K.imm h6⟩
          · rw [if_neg hk0] at h4
            exact K.box (fun j c _ _ => hkr) (fun o => heap_cell hheap o) h4
    · obtain ⟨b, h1, h2, h3, h4⟩ := h'.sto k o hk'
      rw [if_neg hkr] at h2
      have hpf : pu = false := by
        rw [hpu]
        have := (List.getElem?_eq_some_iff.1 hk').1
        simp
        omega
      have hnot : ¬ (b < w.heap.size ∧ intoOwn n r l (G1.own b) = none) := by
        rintro ⟨q1, q2⟩
        have := (back_old h h' hll q1 q2).2.1
        rw [h2] at this
        cases this
      refine ⟨b, h1, ?_, h3, ?_⟩
      · rw [if_neg (show ¬ k < X.ro by omega)]
        show (if _ then _ else backOwn (G'.own b)) = _
        rw [if_neg hnot, h2]
        rfl
      · cases o with
        | map es => exact h4
        | box cs =>
          simp only [ObV] at h4 ⊢
          rw [if_neg hkr] at h4
          rw [if_neg (show ¬ k < X.ro by omega)]
          have hall : (cs.all fun c => stoC c || isDead c) = true := by
            have : Ob.box cs ∈ s'.sto.drop r := by
              refine List.mem_of_getElem? (i := k - r) ?_
              rw [List.getElem?_drop, show r + (k - r) = k by omega]
              exact hk'
            exact List.all_eq_true.1 hbx _ this
          intro j d hd
          obtain ⟨u, u1, u2, u3⟩ := h4 j d hd
          exact ⟨u, u1, u2, back_vc h h' hll (.inr ⟨k, rfl, by omega, hpf⟩) (List.all_eq_true.1 hall d (List.mem_of_getElem? hd)) u3⟩
  · obtain ⟨q1, q2⟩ := h'.new b hb
    have hge : ¬ (b < w.heap.size ∧ intoOwn n r l (G1.own b) = none) := by
      rintro ⟨q3, _⟩
      have : w.heap.size ≤ w'.heap.size := h'.grow
      omega
    refine ⟨?_, fun e he => ?_⟩
    · show (if _ then _ else backOwn (G'.own b)) = _
      rw [if_neg hge, q1]
      rfl
    · simp only [Gh.back] at he
      rw [if_neg hge] at he
      exact q2 e he
  · simp only [Gh.back] at he ⊢
    by_cases hc : b < w.heap.size ∧ intoOwn n r l (G1.own b) = none
    · rw [if_pos hc] at he ⊢
      exact h.stow b e he
    · rw [if_neg hc] at he ⊢
      rw [h'.stow b e he]
      rfl
  · simp only [Gh.back] at he ⊢
    split <;> rename_i hc
    · rw [if_pos hc] at he
      exact h.std b e e' he hee
    · rw [if_neg hc] at he
      exact h'.std b e e' he hee
  · obtain ⟨q1, q2, q3⟩ := h.old b hb h0
    have hbs : b < w.heap.size := Nat.lt_of_lt_of_le hb h.grow
    have hn : intoOwn n r l (G1.own b) = none := by rw [q2]; rfl
    refine ⟨(back_old h h' hll hbs hn).1.trans q1, ?_, fun e he => ?_⟩
    · show (if _ then G1.own b else _) = _
      rw [if_pos ⟨hbs, hn⟩]
      exact q2
    · simp only [Gh.back] at he
      rw [if_pos ⟨hbs, hn⟩] at he
      exact q3 e he
  · have : X.ro ≤ s1.sto.length := h.ro
    show X.ro ≤ s'.sto.length
    omega
  · have : X.n0 ≤ s1.sto.length := h.n0
    show G'.be k = _
    rw [hkl k (by omega)]
    exact h.be0 k hk
  · have : X.n0 ≤ s1.sto.length := h.n0
    show X.n0 ≤ s'.sto.length
    omega

theorem back_vt {d : D} (hd : partsOK d = true) {v : Value} {m2 : Mt} (hv : VT w' G' s'.m (.air 0) d v) : VT w' (Gh.back G1 G' n r l w.heap.size pu) m2 (.air 0) d v := by
  have cell : ∀ {d : D} {i : Nat} {v : Value}, cellsOK d = true → VP w' G' s'.m (.air 0) i d v → VP w' (Gh.back G1 G' n r l w.heap.size pu) m2 (.air 0) i d v := by
    intro d i v hd hv
    simp only [cellsOK, Bool.and_eq_true, Bool.not_eq_true'] at hd
    obtain ⟨hnt, hall⟩ := hd
    cases d with
    | agg cs =>
      obtain ⟨vs, rfl, hl, h1⟩ := hv
      exact ⟨vs, rfl, hl, fun j d u hd hu => back_vc h h' hll (.inl rfl) (by rw [List.all_eq_true.1 hall d (List.mem_of_getElem? hd)]; rfl) (h1 j d u hd hu)⟩
    | tup ds => simp [isTup] at hnt
    | _ =>
      rw [VP_cell (by intro cs e; cases e)] at hv ⊢
      exact back_vc h h' hll (.inl rfl) (by simp only [cellsD, List.all_cons, List.all_nil, Bool.and_true] at hall; rw [hall]; rfl) hv
  cases d with
  | tup ds =>
    obtain ⟨vs, rfl, hl, h1⟩ := hv
    exact ⟨vs, rfl, hl, fun i d u hd' hu => cell (List.all_eq_true.1 hd d (List.mem_of_getElem? hd')) (h1 i d u hd' hu)⟩
  | _ =>
    rw [VT_part (by intro cs e; cases e)] at hv ⊢
    exact cell hd hv
end


/-- What is handed over is for good, but for the arguments that a function wants as its own. -/
noncomputable def frzA (oa : List Nat) : Nat → List D → List D
  | _, [] => []
  | k, d :: r => (if oa.contains k then d else fzTop d) :: frzA oa (k + 1) r
theorem frzA_len (oa : List Nat) : ∀ (k : Nat) (ds : List D), (frzA oa k ds).length = ds.length
  | _, [] => rfl
  | k, d :: r => by simp [frzA, frzA_len oa (k + 1) r]
theorem frzL (oa : List Nat) : ∀ (ds : List D) (us : List Value) (k : Nat) (G : Gh) (n : Nat), Rel X G s a w → (∀ (j : Nat) (d : D) (u : Value), ds[j]? = some d → us[j]? = some u → VT w G s.m (.air (n + j)) d u) →
    ∃ G', Rel X G' s a w ∧ (∀ (j : Nat) (d : D) (u : Value), (frzA oa k ds)[j]? = some d → us[j]? = some u → VT w G' s.m (.air (n + j)) d u) ∧ Keeps w G s.m w G' s.m (fun p => ∀ j, p.r = .air j → j < n)
  | [], us, k, G, n, h, _ => ⟨G, h, fun j d u hd => by simp [frzA] at hd, Keeps.refl _ _ _ _⟩
  | d :: ds, [], k, G, n, h, _ => ⟨G, h, fun j d u _ hu => by simp at hu, Keeps.refl _ _ _ _⟩
  | d :: ds, u :: us, k, G, n, h, hv => by
    have hv0 := hv 0 d u rfl rfl
    have step : ∃ G1, Rel X G1 s a w ∧ VT w G1 s.m (.air n) (if oa.contains k then d else fzTop d) u ∧ Keeps w G s.m w G1 s.m (fun p => p.r ≠ .air n) := by
      cases hc : oa.contains k with
      | true => exact ⟨G, h, hv0, (Keeps.refl _ _ _ _).weaken fun _ _ => trivial⟩
      | false =>
        obtain ⟨r1, K1⟩ := h.freeze n
        exact ⟨_, r1, VT.fz (r' := .air n) hv0, K1⟩
    obtain ⟨G1, r1, v1, K1⟩ := step
    obtain ⟨G', r2, v2, K2⟩ := frzL oa ds us (k + 1) G1 (n + 1) r1 (fun j d' u' hd hu => by
      have := hv (j + 1) d' u' (by simpa using hd) (by simpa using hu)
      rw [show n + (j + 1) = n + 1 + j by omega] at this
      exact K1.vt (fun i q j' c _ _ _ => by simp; omega) this)
    refine ⟨G', r2, fun j d' u' hd hu => ?_, (K1.trans K2).weaken fun p hp => ⟨fun e => by have := hp n e; omega, fun j e => by have := hp j e; omega⟩⟩
    cases j with
    | zero =>
      simp [frzA] at hd hu
      subst hd; subst hu
      have v1' := v1
      simp only [List.contains_iff_mem] at v1'
      exact K2.vt (fun i q j c _ _ _ => fun j' e => by simp at e; omega) v1'
    | succ j =>
      have := v2 j d' u' (by simpa [frzA] using hd) (by simpa using hu)
      rwa [show n + 1 + j = n + (j + 1) by omega] at this

theorem OpOk.call {x : Operand} {args : Array Operand} {tys : Array TypeId} (ho : o.op = .call { callee := .value x, args, argTypes := tys }) {f : Nat} {caps ds : List D} {s1 : DS} {r : Nat} {R : D → List Ob → Prop} (oa : List Nat)
    (hx : lookO s x = some (.fn f caps)) (ht : takeL s args.toList = some (ds, s1)) (hds : (frzA oa 0 ds).all cellsOK = true) (hok : stoOK T.ro r s.sto = true) (hr : T.ro ≤ r) (h : Tri P f r (frzA oa 0 ds ++ caps) s.sto R)
    (hk : ∀ d sto', R d sto' → s.sto.length ≤ sto'.length → partsOK d = true ∧ (∀ k, k < r → sto'[k]? = s.sto[k]?) ∧ (sto'.drop r).all boxOK = true ∧ ∃ s2, put T.c o.dst d (afterC s1 r (frzA oa 0 ds) sto') = some s2 ∧ K s2) : OpOk P T o s K := by
  intro X G a w hX hR next Q hn
  obtain ⟨G0, r0, l1, t1, v0, K0, e1, e2, _⟩ := takeL_rel hR ht 1
  obtain ⟨G1, r1, v1, K1⟩ := frzL oa ds (args.toList.map a.eval) 0 G0 1 r0 (fun k d v hd hv => by
    rw [List.getElem?_map] at hv
    obtain ⟨y, hy, rfl⟩ := Option.map_eq_some_iff.1 hv
    exact v0 k d y hd hy)
  have hfl := frzA_len oa 0 ds
  generalize frzA oa 0 ds = ds' at *
  obtain ⟨cvs, hxv, hcl, hci⟩ := inv_fn (lookO_vt hR hx (.air 0) rfl)
  obtain ⟨fn, hf, ⟨hb, hnm⟩, hlen, hrl, hcall⟩ := h
  have hvs : (args.toList.map a.eval).length = ds'.length := by simp [l1, hfl]
  have hst := r1.start (r := r) (n := if hadOwn ds' then ds'.length else 0) (ds := ds') (caps := caps) (vs := args.toList.map a.eval) (cvs := cvs) (by rw [hX.ro]; exact hr) (by rw [e1]; exact hrl) (by rw [hX.ro, e1]; exact hok) hds hvs (fun k d v hd hv => by
    have := v1 k d v hd hv
    rwa [Nat.add_comm] at this) hcl.symm (fun hh => by rw [if_pos hh]) (fun k d v hd hv => K1.imm (K0.imm (hci k d v hd hv))) hlen
  rw [e1] at hst
  unfold Oper.wp
  rw [run_call ho hxv hf hb hnm]
  rw [Oper.upon_enter]
  have hargs : args.map a.eval ++ cvs.toArray = (args.toList.map a.eval ++ cvs).toArray := by
    apply Array.ext'
    simp
  rw [hargs]
  refine (hcall _ w _ (by simp [hvs, hcl]) hst).mono fun e w' he => ?_
  cases e with
  | panicked c => exact he.elim
  | outgrown => exact he.elim
  | returned v =>
    obtain ⟨d, s', G', a', hRd, r', v'⟩ := he
    have hl0 : s.sto.length = s1.sto.length := by rw [e1]
    obtain ⟨k1, k2, k3, s2, k4, k5⟩ := hk d s'.sto hRd r'.n0
    have rb := Rel.back (pu := s'.sto.length == r) (own := hadOwn ds') r1 r' hl0 (by rw [hX.ro]; exact hr) hrl rfl (fun hh => by rw [if_neg (by rw [hh]; simp)]) (fun k hk => by rw [e1]; exact k2 k hk) k3
    obtain ⟨G3, r3⟩ := rb.putO hX.n k4 0 (back_vt r1 r' hl0 k1 v')
    exact hn _ _ _ _ k5 r3
end

end Go.Lv
