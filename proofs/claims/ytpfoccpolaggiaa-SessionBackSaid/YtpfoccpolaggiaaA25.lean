/-
  A25: a call that only reads, lent what may turn later; its answer is flat.
-/
import Derived.Test.YtpfoccpolaggiaaA24
set_option linter.all false
namespace Go.Lv

noncomputable def lendC (s : DS) : D → Option D
  | .list q xs => match lsD s (.list q xs) with | some ys => some (.list .imm ys) | none => none
  | d => if rowC d then some d else none
noncomputable def lendCs (s : DS) : List D → Option (List D)
  | [] => some []
  | d :: r => match lendC s d, lendCs s r with
    | some x, some xs => some (x :: xs)
    | _, _ => none
noncomputable def lendD (s : DS) : D → Option D
  | .agg cs => match lendCs s cs with | some xs => some (.agg xs) | none => none
  | .tup _ => none
  | d => lendC s d
noncomputable def lendL (s : DS) : List Operand → Option (List D)
  | [] => some []
  | x :: r => match (match lookO s x with | some d => lendD s d | none => none), lendL s r with
    | some d, some ds => some (d :: ds)
    | _, _ => none

noncomputable def flatR (xs : List (List D)) : Bool := xs.all fun r => r.all sclC
noncomputable def flatC : D → Bool
  | .int _ _ | .bool _ | .str _ | .nil | .gptr _ _ | .nilmap | .map _ | .nilfn | .fn _ [] => true
  | .list (.own _) xs => flatR xs
  | .list .imm xs => flatR xs
  | _ => false
noncomputable def flatP (d : D) : Bool := !isTup d && (cellsD d).all flatC
noncomputable def flatT : D → Bool
  | .tup ds => ds.all flatP
  | d => flatP d
noncomputable def unlC (e : Nat) : D → D
  | .list .imm xs => .list (.cp e none) xs
  | d => d
noncomputable def unlD (e : Nat) (d : D) : D := mapTop (fun _ _ c => unlC e c) d

noncomputable def boxSt : Ob → Bool
  | .box cs => cs.all stoC
  | .map _ => true

section
variable {P : Program} {T : St} {X : Ctx} {G G1 G' : Gh} {s s' s1 : DS} {a a' : Act} {w w' : World} {Q Q' : Ex → DS → Prop} {K K' : DS → Prop} {o : Oper} {ops : Array Oper} {m m' : Mt}

theorem imm_rd {d : D} {v : Value} (h : Imm w G.be G.st d v) : Imm w G.be G.rd d v := h.mono (fun _ _ h => h) (fun _ _ h => .inl h) (fun _ _ _ _ _ => rfl)

theorem ls_imm {ys : List (List D)} {v : Value} (h : LsV w G ys v) : Imm w G.be G.rd (.list .imm ys) v := by
  obtain ⟨A, cap, rfl, h1⟩ := h
  by_cases hy : ys = []
  · subst hy
    exact .nils _ _
  · rcases h1 with h1 | ⟨b, off, sz, rfl, hz, hc, hr, hrow⟩
    · exact absurd h1 hy
    · exact imm_list.2 (.inr ⟨b, off, cap, sz, rfl, List.length_pos_iff.2 hy, hz, hc, hr, hrow.mono (fun _ _ h => h) (fun _ _ h => .inl h) (fun _ _ _ _ _ => rfl) fun _ _ => rfl⟩)

theorem lendC_rel (h : Rel X G s a w) {p : Place} {d d' : D} {v : Value} (hv : VC w G s.m p d v) (hl : lendC s d = some d') : Imm w G.be G.rd d' v := by
  cases d with
  | list q xs =>
    simp only [lendC] at hl
    split at hl
    · rename_i ys hys
      cases hl
      refine ls_imm ?_
      cases q with
      | own sz =>
        simp only [lsD, Option.some.injEq] at hys
        subst hys
        exact (hv : OwnL w G p sz _ v).ls
      | cp e q => exact lsD_rel h (r := p.r) (d := .list (.cp e q) xs) hv hys
      | imm => exact lsD_rel h (r := p.r) (d := .list .imm xs) hv hys
    · cases hl
  | _ =>
    simp only [lendC] at hl
    rw [Option.ite_none_right_eq_some] at hl
    obtain ⟨hr, hl⟩ := hl
    cases hl
    exact imm_rd (vc_rowC hv hr)

theorem lendCs_get : ∀ {cs ds : List D}, lendCs s cs = some ds → ds.length = cs.length ∧ ∀ (j : Nat) (d : D), ds[j]? = some d → ∃ c, cs[j]? = some c ∧ lendC s c = some d
  | [], ds, h => by simp [lendCs] at h; subst h; exact ⟨rfl, fun j d h => by simp at h⟩
  | c :: cs, ds, h => by
    simp only [lendCs] at h
    split at h
    · rename_i x xs h1 h2
      cases h
      obtain ⟨h3, h4⟩ := lendCs_get h2
      refine ⟨by simp [h3], fun j d hd => ?_⟩
      cases j with
      | zero => simp at hd; subst hd; exact ⟨c, rfl, h1⟩
      | succ j => exact h4 j d (by simpa using hd)
    · cases h

noncomputable def Gh.lend (G : Gh) : Gh := { G with own := fun _ => none, st := fun b e => G.rd b e }

theorem lendD_rel (h : Rel X G s a w) {r r' : Root} {d d' : D} {v : Value} (hv : VT w G s.m r d v) (hl : lendD s d = some d') {m2 : Mt} : VT w G.lend m2 r' d' v := by
  have cell : ∀ {p q : Place} {c c' : D} {u : Value}, VC w G s.m p c u → lendC s c = some c' → VC w G.lend m2 q c' u := by
    intro p q c c' u hc hl
    have hi := lendC_rel h hc hl
    have hi' : Imm w G.lend.be G.lend.st c' u := hi
    cases c' with
    | list k xs => cases k <;> first | exact hi' | cases hi'
    | _ => first | exact hi' | cases hi'
  have key : ∀ d : D, (∀ cs, d ≠ .agg cs) → VT w G s.m r d v → (∀ ds, d ≠ .tup ds) → lendC s d = some d' → VT w G.lend m2 r' d' v := by
    intro d hd h hnt hl
    rw [VT_part hnt, VP_cell hd] at h
    have := cell (q := ⟨r', 0, 0⟩) h hl
    rw [VT_part this.plain.2, VP_cell this.plain.1]
    exact this
  cases d with
  | agg cs =>
    simp only [lendD] at hl
    split at hl
    · rename_i xs hxs
      cases hl
      obtain ⟨vs, rfl, hvl, h1⟩ := hv
      obtain ⟨q1, q2⟩ := lendCs_get hxs
      refine ⟨vs, rfl, by omega, fun j d u hd hu => ?_⟩
      obtain ⟨c, hc, hcl⟩ := q2 j d hd
      exact cell (h1 j c u hc hu) hcl
    · cases hl
  | tup ds => cases hl
  | _ => exact key _ (by intro cs e; cases e) hv (by intro cs e; cases e) hl

theorem lendL_get : ∀ {xs : List Operand} {ds : List D}, lendL s xs = some ds → ds.length = xs.length ∧ ∀ (k : Nat) (d : D) (x : Operand), ds[k]? = some d → xs[k]? = some x → ∃ c, lookO s x = some c ∧ lendD s c = some d
  | [], ds, h => by simp [lendL] at h; subst h; exact ⟨rfl, fun j d x h => by simp at h⟩
  | x :: xs, ds, h => by
    simp only [lendL] at h
    split at h
    · rename_i d ds' h1 h2
      cases h
      obtain ⟨h3, h4⟩ := lendL_get h2
      refine ⟨by simp [h3], fun k d' x' hd hx => ?_⟩
      cases k with
      | zero =>
        simp at hd hx
        subst hd; subst hx
        split at h1
        · rename_i c hc; exact ⟨c, hc, h1⟩
        · cases h1
      | succ k => exact h4 k d' x' (by simpa using hd) (by simpa using hx)
    · cases h

theorem Rel.startL (h : Rel X G s a w) {ds : List D} {vs : List Value} (hok : (s.sto.drop X.ro).all boxSt = true) (hl : vs.length = ds.length) (hv : ∀ (k : Nat) (d : D) (v : Value), ds[k]? = some d → vs[k]? = some v → ∀ r, VT w G.lend (m0 s.sto.length) r d v)
    {nt : Nat} (hn : ds.length ≤ nt) : Rel ⟨nt, s.sto.length, s.sto.length, w, G.lend, []⟩ G.lend (s0 s.sto.length ds s.sto) (Frm nt vs) w := by
  refine { size := by simp only [Frm, Array.size_append, List.size_toArray, Array.size_replicate]; omega, defers := rfl, env := fun t d ht => ?_, loc := fun t cs ht => by simp [s0, lk_nil] at ht, sto := fun k o hk => ?_, be := h.be, new := fun b hb => ⟨rfl, fun e he => ?_⟩, stow := fun b e he => rfl, std := fun b e e' he hee => rd_down h he hee, old := fun b hb h0 => ⟨rfl, h0, fun e he => he⟩, os := rfl, tape := rfl, output := rfl, grow := Nat.le_refl _, ro := Nat.le_refl _, rom := rfl, be0 := fun _ _ => rfl, n0 := Nat.le_refl _, la0 := fun t ht => nomatch ht }
  · have ht' : lk t (num 0 ds) = some d := ht
    rw [lk_num] at ht'
    simp only [Nat.zero_le, if_true, Nat.sub_zero] at ht'
    have hlt : t < vs.length := by
      have := (List.getElem?_eq_some_iff.1 ht').1
      omega
    have hg : (Frm nt vs).tmps.getD t undef = vs[t] := by
      simp only [Frm, Array.getD_eq_getD_getElem?]
      rw [Array.getElem?_append_left (by simpa using hlt)]
      simp only [List.getElem?_toArray]
      rw [List.getElem?_eq_getElem hlt]
      rfl
    rw [hg]
    exact hv t d _ ht' (List.getElem?_eq_getElem hlt) _
  · have hk' : s.sto[k]? = some o := hk
    have hlt : k < s.sto.length := (List.getElem?_eq_some_iff.1 hk').1
    obtain ⟨b, h1, h2, h3, h4⟩ := h.sto k o hk'
    refine ⟨b, h1, by rw [if_pos hlt]; rfl, h3, ?_⟩
    cases o with
    | map es => exact h4
    | box cs =>
      simp only [ObV] at h4 ⊢
      rw [if_pos hlt]
      by_cases hk0 : k < X.ro
      · rw [if_pos hk0] at h4
        intro j d hd
        obtain ⟨u, u1, u2⟩ := h4 j d hd
        exact ⟨u, u1, imm_rd u2⟩
      · rw [if_neg hk0] at h4
        have hmem : Ob.box cs ∈ s.sto.drop X.ro := by
          refine List.mem_of_getElem? (i := k - X.ro) ?_
          rw [List.getElem?_drop, show X.ro + (k - X.ro) = k by omega]
          exact hk'
        have hall : cs.all stoC = true := List.all_eq_true.1 hok _ hmem
        intro j d hd
        obtain ⟨u, u1, _, u3⟩ := h4 j d hd
        refine ⟨u, u1, ?_⟩
        have hst := List.all_eq_true.1 hall d (List.mem_of_getElem? hd)
        cases d with
        | list q xs =>
          cases q with
          | own sz => exact ls_imm (u3 : OwnL w G ⟨.gbox k, 0, j⟩ sz xs u).ls
          | cp e q => simp [stoC, rowC] at hst
          | imm => exact imm_rd u3
        | _ => first | exact imm_rd u3 | simp [stoC, rowC] at hst
  · rcases he with he | ⟨⟨p, hp⟩, _⟩
    · exact (h.new b hb).2 e he
    · rw [(h.new b hb).1] at hp; cases hp

noncomputable def backOwnL : Option Owner → Option Owner
  | some (.lst p) => match p.r with
    | .air 0 => some (.lst p)
    | _ => none
  | _ => none
noncomputable def Gh.backL (G G' : Gh) (sz : Nat) : Gh :=
  { be := G'.be
    la := G.la
    own := fun b => if b < sz then G.own b else backOwnL (G'.own b)
    fin := fun b => if b < sz then G.fin b else G'.fin b
    st := fun b e => if b < sz then G.st b e else G'.st b e
    pl := fun p => match p.r with
      | .air 0 => G'.pl p
      | _ => G.pl p }

section
variable {nt : Nat} (h : Rel X G s a w) (h' : Rel ⟨nt, s.sto.length, s.sto.length, w, G.lend, []⟩ G' s' a' w') (hse : s'.sto = s.sto)
include h h' hse

theorem backL_old {b : Nat} (hb : b < w.heap.size) : w'.heap[b]? = w.heap[b]? ∧ G'.own b = none ∧ ∀ e, G'.st b e → G.rd b e := h'.old b hb rfl

theorem backL_be (k : Nat) : G'.be k = G.be k := by
  by_cases hk : k < s.sto.length
  · exact h'.be0 k hk
  · rw [h.be k (by omega), h'.be k (by rw [hse]; omega)]

theorem backL_keeps : Keeps w G s.m w' (Gh.backL G G' w.heap.size) s.m (fun p => p.r.isAir = false) where
  be := fun k b hb => by show G'.be k = some b; rw [backL_be h h' hse]; exact hb
  st := fun b e hs => by simp only [Gh.backL]; rw [if_pos (h.stLt hs)]; exact hs
  cell := fun b e o hs _ => (heap_cell (backL_old h h' hse (h.stLt hs)).1 o).1
  ep := Nat.le_refl _
  rv := fun _ => Nat.le_refl _
  al := fun _ => Nat.le_refl _
  era := Nat.le_refl _
  rd := fun _ b e hr => by
    have hb : b < w.heap.size := by
      rcases hr with hr | ⟨⟨p, hp⟩, _⟩
      · exact h.stLt hr
      · exact h.ownLt hp
    refine ⟨?_, fun o _ => (heap_cell (backL_old h h' hse hb).1 o).1⟩
    rcases hr with hr | ⟨hp, hn⟩
    · left; simp only [Gh.backL]; rw [if_pos hb]; exact hr
    · right; simp only [Gh.backL]; rw [if_pos hb, if_pos hb]; exact ⟨hp, hn⟩
  pl := fun p ha _ => by
    obtain ⟨pr, i, j⟩ := p
    cases pr <;> first | rfl | cases ha
  la := fun _ _ => rfl
  own := fun b p _ ho => by
    have hb := h.ownLt ho
    refine ⟨?_, ?_, fun o => heap_cell (backL_old h h' hse hb).1 o⟩
    · simp only [Gh.backL]; rw [if_pos hb]; exact ho
    · simp only [Gh.backL]; rw [if_pos hb]
  opl := fun p hs => by
    obtain ⟨pr, i, j⟩ := p
    cases pr <;> first | rfl | cases hs
  mp := fun _ k b es clock hb hh => ⟨es, clock, by rw [(backL_old h h' hse (h.beLt hb)).1]; exact hh, fun i x hx => ⟨x, hx, rfl⟩⟩

theorem Rel.backL : Rel X (Gh.backL G G' w.heap.size) s a w' := by
  have K := backL_keeps h h' hse
  refine { size := h.size, defers := h.defers, env := fun t d ht => K.vt (fun i q j c _ _ _ => rfl) (h.env t d ht), loc := fun t cs ht => ?_, sto := fun k o hk => ?_, be := fun k hk => by show G'.be k = none; rw [backL_be h h' hse]; exact h.be k hk, new := fun b hb => ?_, stow := fun b e he => ?_, std := fun b e e' he hee => ?_, old := fun b hb h0 => ?_, os := h'.os.trans h.os, tape := h'.tape.trans h.tape, output := h'.output.trans h.output, grow := Nat.le_trans h.grow h'.grow, ro := h.ro, rom := h.rom, be0 := fun k hk => by show G'.be k = _; rw [backL_be h h' hse]; exact h.be0 k hk, n0 := h.n0, la0 := h.la0 }
  · obtain ⟨h1, h2⟩ := h.loc t cs ht
    have hb := h.ownLt h1
    refine ⟨?_, K.box (fun j c _ _ => rfl) (fun o => heap_cell (backL_old h h' hse hb).1 o) h2⟩
    have e1 : (Gh.backL G G' w.heap.size).own (G.la t) = G.own (G.la t) := if_pos hb
    exact e1.trans h1
  · obtain ⟨b, h1, h2, h3, h4⟩ := h.sto k o hk
    have hheap := (backL_old h h' hse h3).1
    refine ⟨b, K.be k b h1, ?_, Nat.lt_of_lt_of_le h3 h'.grow, ?_⟩
    · have e1 : (Gh.backL G G' w.heap.size).own b = G.own b := if_pos h3
      rw [e1]
      exact h2
    · cases o with
      | map es =>
        obtain ⟨arr, clock, q1, q2⟩ := h4
        exact ⟨arr, clock, by rw [hheap]; exact q1, q2⟩
      | box cs =>
        simp only [ObV] at h4 ⊢
        split <;> rename_i hk0
        · rw [if_pos hk0] at h4
          intro j d hd
          obtain ⟨u, h5, h6⟩ := h4 j d hd
          exact ⟨u, by rw [(heap_cell hheap j).1]; exact h5, K.imm h6⟩
        · rw [if_neg hk0] at h4
          exact K.box (fun j c _ _ => rfl) (fun o => heap_cell hheap o) h4
  · obtain ⟨q1, q2⟩ := h'.new b hb
    have hge : ¬ b < w.heap.size := by
      have : w.heap.size ≤ w'.heap.size := h'.grow
      omega
    refine ⟨?_, fun e he => ?_⟩
    · show (if _ then _ else backOwnL (G'.own b)) = _
      rw [if_neg hge, q1]
      rfl
    · simp only [Gh.backL] at he
      rw [if_neg hge] at he
      exact q2 e he
  · simp only [Gh.backL] at he ⊢
    by_cases hc : b < w.heap.size
    · rw [if_pos hc] at he ⊢
      exact h.stow b e he
    · rw [if_neg hc] at he ⊢
      rw [h'.stow b e he]
      rfl
  · simp only [Gh.backL] at he ⊢
    split <;> rename_i hc
    · rw [if_pos hc] at he
      exact h.std b e e' he hee
    · rw [if_neg hc] at he
      exact h'.std b e e' he hee
  · obtain ⟨q1, q2, q3⟩ := h.old b hb h0
    have hbs : b < w.heap.size := Nat.lt_of_lt_of_le hb h.grow
    refine ⟨(backL_old h h' hse hbs).1.trans q1, ?_, fun e he => ?_⟩
    · show (if _ then G.own b else _) = _
      rw [if_pos hbs]
      exact q2
    · simp only [Gh.backL] at he
      rw [if_pos hbs] at he
      exact q3 e he

theorem backL_rows {b off sz : Nat} {xs : List (List D)} (hf : flatR xs = true) (hr : RowsAt w' G'.be G'.st b off sz xs) {be : Nat → Option Nat} {st : Nat → Nat → Prop} : RowsAt w' be st b off sz xs := by
  refine ⟨hr.1, fun j c r d hj hd => ?_⟩
  obtain ⟨v, hv, hi⟩ := hr.2 j c r d hj hd
  refine ⟨v, hv, ?_⟩
  have hs := List.all_eq_true.1 (List.all_eq_true.1 hf r (List.mem_of_getElem? hj)) d (List.mem_of_getElem? hd)
  cases d <;> first | (simp [sclC] at hs; done) | (cases hi; constructor)

theorem backL_vc {p : Place} (hp : p.r = .air 0) {d : D} (hd : flatC d = true) {v : Value} (hv : VC w' G' s'.m p d v) : VC w' (Gh.backL G G' w.heap.size) s.m p (unlC s.m.ep d) v := by
  cases d with
  | list q xs =>
    cases q with
    | own sz =>
      rcases hv with hv | ⟨hz, b, off, cap, rfl, hc, ho, hf, hpl, hcell, hrows⟩
      · exact .inl hv
      · have hnot : ¬ b < w.heap.size := by
          intro q1
          have := (backL_old h h' hse q1).2.1
          rw [ho] at this
          cases this
        refine .inr ⟨hz, b, off, cap, rfl, hc, ?_, ?_, ?_, hcell, backL_rows h h' hse hd hrows⟩
        · simp only [Gh.backL]
          rw [if_neg hnot, ho]
          simp only [backOwnL, hp]
        · simp only [Gh.backL]
          rw [if_neg hnot]
          exact hf
        · rw [← hpl]
          simp only [Gh.backL, hp]
    | cp e q => simp [flatC] at hd
    | imm =>
      rcases imm_list.1 hv with ⟨rfl, A, cap, rfl⟩ | ⟨b, off, cap, sz, rfl, h1, h2, h3, h4, h5⟩
      · exact ⟨A, cap, rfl, Nat.le_refl _, fun _ => .inl rfl, fun p n e => by cases e⟩
      · refine ⟨_, cap, rfl, Nat.le_refl _, fun _ => .inr ⟨b, off, sz, rfl, h2, h3, ?_, backL_rows h h' hse hd h5⟩, fun p n e => by cases e⟩
        by_cases hb : b < w.heap.size
        · rcases (backL_old h h' hse hb).2.2 _ h4 with q | ⟨q1, q2⟩
          · left; simp only [Gh.backL]; rw [if_pos hb]; exact q
          · right; simp only [Gh.backL]; rw [if_pos hb, if_pos hb]; exact ⟨q1, q2⟩
        · left; simp only [Gh.backL]; rw [if_neg hb]; exact h4
  | fn f caps =>
    cases caps with
    | cons c r => simp [flatC] at hd
    | nil =>
      have hi : Imm w' G'.be G'.st (.fn f []) v := hv
      cases hi with
      | fn _ _ vs hl _ =>
        have : vs = [] := List.eq_nil_of_length_eq_zero hl.symm
        subst this
        exact Imm.fn f [] [] rfl fun i d v h => by simp at h
  | gptr k off =>
    have hi : Imm w' G'.be G'.st (.gptr k off) v := hv
    cases hi with | gptr _ _ b hb => exact Imm.gptr k off b hb
  | map k =>
    have hi : Imm w' G'.be G'.st (.map k) v := hv
    cases hi with | map _ b hb => exact Imm.map k b hb
  | int k n => have hi : Imm w' G'.be G'.st (.int k n) v := hv; cases hi; exact Imm.int _ _
  | bool b => have hi : Imm w' G'.be G'.st (.bool b) v := hv; cases hi; exact Imm.bool _
  | str b => have hi : Imm w' G'.be G'.st (.str b) v := hv; cases hi; exact Imm.str _
  | nil => have hi : Imm w' G'.be G'.st .nil v := hv; cases hi; exact Imm.nil
  | nilmap => have hi : Imm w' G'.be G'.st .nilmap v := hv; cases hi; exact Imm.nilmap
  | nilfn => have hi : Imm w' G'.be G'.st .nilfn v := hv; cases hi; exact Imm.nilfn
  | _ => simp [flatC] at hd

theorem backL_vt {d : D} (hd : flatT d = true) {v : Value} (hv : VT w' G' s'.m (.air 0) d v) : VT w' (Gh.backL G G' w.heap.size) s.m (.air 0) (unlD s.m.ep d) v := by
  have cell : ∀ {d : D} {i : Nat} {v : Value}, flatP d = true → VP w' G' s'.m (.air 0) i d v → VP w' (Gh.backL G G' w.heap.size) s.m (.air 0) i (mapAt (fun _ c => unlC s.m.ep c) d) v := by
    intro d i v hd hv
    simp only [flatP, Bool.and_eq_true, Bool.not_eq_true'] at hd
    obtain ⟨hnt, hall⟩ := hd
    cases d with
    | agg cs =>
      obtain ⟨vs, rfl, hl, h1⟩ := hv
      refine ⟨vs, rfl, by rw [mapIx_length]; exact hl, fun j d u hd hu => ?_⟩
      rw [mapIx_get] at hd
      obtain ⟨c, hc, rfl⟩ := Option.map_eq_some_iff.1 hd
      exact backL_vc h h' hse rfl (List.all_eq_true.1 hall c (List.mem_of_getElem? hc)) (h1 j c u hc hu)
    | tup ds => simp [isTup] at hnt
    | _ =>
      rw [VP_cell (by intro cs e; cases e)] at hv
      simp only [cellsD, List.all_cons, List.all_nil, Bool.and_true] at hall
      have := backL_vc h h' hse (p := ⟨.air 0, i, 0⟩) rfl hall hv
      simp only [mapAt]
      rw [VP_cell this.plain.1]
      exact this
  cases d with
  | tup ds =>
    obtain ⟨vs, rfl, hl, h1⟩ := hv
    refine ⟨vs, rfl, by rw [mapIx_length]; exact hl, fun i d u hd' hu => ?_⟩
    rw [mapIx_get] at hd'
    obtain ⟨c, hc, rfl⟩ := Option.map_eq_some_iff.1 hd'
    exact cell (List.all_eq_true.1 hd c (List.mem_of_getElem? hc)) (h1 i c u hc hu)
  | _ =>
    rw [VT_part (by intro cs e; cases e)] at hv
    have := cell hd hv
    simp only [unlD, mapTop]
    rw [VT_part this.notup]
    exact this
end

/-- A call that only reads. -/
theorem OpOk.callL {x : Operand} {args : Array Operand} {tys : Array TypeId} (ho : o.op = .call { callee := .value x, args, argTypes := tys }) {f : Nat} {ds : List D} {R : D → List Ob → Prop}
    (hx : lookO s x = some (.fn f [])) (ht : lendL s args.toList = some ds) (hok : (s.sto.drop T.ro).all boxSt = true) (h : Tri P f s.sto.length ds s.sto R)
    (hk : ∀ d sto', R d sto' → sto' = s.sto ∧ flatT d = true ∧ ∃ s2, put T.c o.dst (unlD s.m.ep d) s = some s2 ∧ K s2) : OpOk P T o s K := by
  intro X G a w hX hR next Q hn
  obtain ⟨cvs, hxv, hcl, _⟩ := inv_fn (lookO_vt hR hx (.air 0) rfl)
  have hcv : cvs = [] := List.eq_nil_of_length_eq_zero hcl.symm
  subst hcv
  obtain ⟨fn, hf, ⟨hb, hnm⟩, hlen, hrl, hcall⟩ := h
  obtain ⟨q1, q2⟩ := lendL_get ht
  have hvs : (args.toList.map a.eval).length = ds.length := by simp [q1]
  have hst := hR.startL (ds := ds) (vs := args.toList.map a.eval) (by rw [hX.ro]; exact hok) hvs (fun k d v hd hv r => by
    rw [List.getElem?_map] at hv
    obtain ⟨y, hy, rfl⟩ := Option.map_eq_some_iff.1 hv
    obtain ⟨c, hc1, hc2⟩ := q2 k d y hd hy
    obtain ⟨r0, hv0⟩ := lookO_any hR hc1
    exact lendD_rel hR hv0 hc2) hlen
  unfold Oper.wp
  rw [run_call ho hxv hf hb hnm]
  rw [Oper.upon_enter]
  have hargs : args.map a.eval ++ (#[] : Array Value) = (args.toList.map a.eval).toArray := by
    apply Array.ext'
    simp
  rw [show ([] : List Value).toArray = #[] from rfl, hargs]
  refine (hcall _ w _ hvs hst).mono fun e w' he => ?_
  cases e with
  | panicked c => exact he.elim
  | outgrown => exact he.elim
  | returned v =>
    obtain ⟨d, s', G', a', hRd, r', v'⟩ := he
    obtain ⟨k1, k2, s2, k4, k5⟩ := hk d s'.sto hRd
    have rb := Rel.backL hR r' k1
    obtain ⟨G3, r3⟩ := rb.putO hX.n k4 0 (backL_vt hR r' k1 k2 v')
    exact hn _ _ _ _ k5 r3
end

end Go.Lv
