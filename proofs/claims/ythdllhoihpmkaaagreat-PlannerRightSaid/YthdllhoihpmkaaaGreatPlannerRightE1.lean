/-
  Part 1 of the texts under the proof: an abstract run of loaded code on data, and what the functions do. No condition.
-/
import Derived.Test.YthdllhoihpmkaaaGreatM16
import Derived.Maps.RangeRun
set_option linter.all false
set_option maxRecDepth 100000
namespace Go.Lv

noncomputable def rsQ (m : Mt) : Option (Place × Nat) → Option (Place × Nat)
  | some (p, n) => if n = m.rv p.r then some (p, 0) else none
  | none => none
noncomputable def rsE (m : Mt) (e : Nat) : Nat := if e = m.ep then 1 else 0
noncomputable def rsC (m : Mt) : D → D
  | .list (.cp e q) xs => .list (.cp (rsE m e) (rsQ m q)) xs
  | .lptr t v off => if v = m.al t then .lptr t 0 off else .dead
  | .eptr e q i row off => .eptr (match e with | some e => some (rsE m e) | none => none) (rsQ m q) i row off
  | .stamp _ _ _ => .dead
  | .list (.own n) xs => .list (.own n) xs
  | .list .imm xs => .list .imm xs
  | .int k n => .int k n
  | .bool b => .bool b
  | .str s => .str s
  | .nil => .nil
  | .gptr k o => .gptr k o
  | .nilmap => .nilmap
  | .map k => .map k
  | .fn f cs => .fn f cs
  | .nilfn => .nilfn
  | .agg cs => .agg cs
  | .tup ds => .tup ds
  | .dead => .dead
noncomputable def rsT (m : Mt) (d : D) : D := mapTop (fun _ _ c => rsC m c) d
noncomputable def rsO (m : Mt) : Ob → Ob
  | .box cs => .box (cs.map (rsC m))
  | .map es => .map es
noncomputable def mR (ro : Nat) : Mt := ⟨⟨[]⟩, ⟨[]⟩, ⟨[]⟩, 0, 1, ro⟩
noncomputable def resetS (s : DS) : DS := ⟨s.env.map fun x => (x.1, rsT s.m x.2), s.loc.map fun x => (x.1, x.2.map (rsC s.m)), s.sto.map (rsO s.m), mR s.m.ro⟩

section
variable {P : Program} {T : St} {X : Ctx} {G : Gh} {s : DS} {a : Act} {w : World} {m : Mt}

theorem rsQ_some {q : Option (Place × Nat)} {p : Place} {n : Nat} (h : rsQ m q = some (p, n)) : n = 0 ∧ q = some (p, m.rv p.r) := by
  cases q with
  | none => cases h
  | some q =>
    obtain ⟨p', n'⟩ := q
    simp only [rsQ] at h
    split at h
    · rename_i e
      cases h
      exact ⟨rfl, by rw [e]⟩
    · cases h
theorem rs_vc {p : Place} {d : D} {v : Value} (h : VC w G m p d v) : VC w G (mR m.ro) p (rsC m d) v := by
  cases d with
  | list q xs =>
    cases q with
    | own sz => exact h
    | imm => exact h
    | cp e q =>
      obtain ⟨A, cap, rfl, he, h1, h2⟩ := h
      refine ⟨A, cap, rfl, ?_, fun hee => ?_, fun p n hq => ?_⟩
      · unfold rsE
        show _ ≤ 1
        split <;> omega
      · refine h1 ?_
        unfold rsE at hee
        split at hee
        · assumption
        · cases hee
      · obtain ⟨rfl, hq'⟩ := rsQ_some hq
        obtain ⟨q1, q2, q3⟩ := h2 _ _ hq'
        exact ⟨q1, Nat.zero_le _, fun _ => q3 rfl⟩
  | lptr t n off =>
    obtain ⟨b, rfl, hn, h1⟩ := h
    show VC w G (mR m.ro) p (if n = m.al t then .lptr t 0 off else .dead) _
    split
    · rename_i e
      exact ⟨b, rfl, Nat.zero_le _, fun _ => h1 e⟩
    · exact rfl
  | eptr e q i row off =>
    obtain ⟨b, o, rfl, he, h0, h1, h2⟩ := h
    refine ⟨b, o, rfl, fun n hn => ?_, fun hn => ?_, fun hn => ?_, fun p n hq => ?_⟩
    · cases e with
      | none => cases hn
      | some e =>
        cases hn
        unfold rsE
        show _ ≤ 1
        split <;> omega
    · cases e with
      | none => exact h0 rfl
      | some e => cases hn
    · refine h1 ?_
      cases e with
      | none => exact .inl rfl
      | some e =>
        rcases hn with hn | hn
        · cases hn
        · have hn : rsE m e = 1 := Option.some.inj hn
          unfold rsE at hn
          split at hn
          · rename_i e; exact .inr (by rw [e])
          · cases hn
    · obtain ⟨rfl, hq'⟩ := rsQ_some hq
      obtain ⟨q1, q2, q3⟩ := h2 _ _ hq'
      exact ⟨q1, Nat.zero_le _, fun _ => q3 rfl⟩
  | stamp e k i =>
    obtain ⟨n, rfl, _⟩ := h
    exact rfl
  | agg cs => exact h.elim
  | tup cs => exact h.elim
  | _ => exact h
theorem rs_notagg (d : D) (hd : ∀ cs, d ≠ .agg cs) : ∀ cs, rsC m d ≠ .agg cs := by
  intro cs h
  cases d with
  | list q xs => cases q <;> cases h
  | lptr t n off => simp only [rsC] at h; split at h <;> cases h
  | agg cs => exact hd cs rfl
  | _ => cases h
theorem rs_nottup (d : D) (hd : ∀ cs, d ≠ .tup cs) : ∀ cs, rsC m d ≠ .tup cs := by
  intro cs h
  cases d with
  | list q xs => cases q <;> cases h
  | lptr t n off => simp only [rsC] at h; split at h <;> cases h
  | tup cs => exact hd cs rfl
  | _ => cases h
theorem vp_of_vc {r : Root} {i : Nat} {d : D} {v : Value} (hd : ∀ cs, d ≠ .agg cs) (h : VC w G m ⟨r, i, 0⟩ d v) : VP w G m r i d v := by
  cases d with
  | agg cs => exact (hd cs rfl).elim
  | _ => exact h
theorem vt_of_vp {r : Root} {d : D} {v : Value} (hd : ∀ cs, d ≠ .tup cs) (h : VP w G m r 0 d v) : VT w G m r d v := by
  cases d with
  | tup cs => exact (hd cs rfl).elim
  | _ => exact h
theorem rs_vp {r : Root} {i : Nat} {d : D} {v : Value} (h : VP w G m r i d v) : VP w G (mR m.ro) r i (mapAt (fun _ c => rsC m c) d) v := by
  by_cases hd : ∃ cs, d = .agg cs
  · obtain ⟨cs, rfl⟩ := hd
    obtain ⟨vs, rfl, hl, h1⟩ := h
    refine ⟨vs, rfl, by rw [mapIx_length]; exact hl, fun j d u hd hu => ?_⟩
    rw [mapIx_get] at hd
    obtain ⟨c, hc, rfl⟩ := Option.map_eq_some_iff.1 hd
    exact rs_vc (h1 j c u hc hu)
  · have hd' : ∀ cs, d ≠ .agg cs := fun cs e => hd ⟨cs, e⟩
    have e1 : mapAt (fun _ c => rsC m c) d = rsC m d := by cases d <;> first | rfl | exact (hd' _ rfl).elim
    rw [e1]
    have hv : VC w G m ⟨r, i, 0⟩ d v := by cases d <;> first | exact h | exact (hd' _ rfl).elim
    exact vp_of_vc (rs_notagg d hd') (rs_vc hv)
theorem rs_vt {r : Root} {d : D} {v : Value} (h : VT w G m r d v) : VT w G (mR m.ro) r (rsT m d) v := by
  by_cases hd : ∃ cs, d = .tup cs
  · obtain ⟨ds, rfl⟩ := hd
    obtain ⟨vs, rfl, hl, h1⟩ := h
    refine ⟨vs, rfl, by rw [mapIx_length]; exact hl, fun j d u hd hu => ?_⟩
    rw [mapIx_get] at hd
    obtain ⟨c, hc, rfl⟩ := Option.map_eq_some_iff.1 hd
    exact rs_vp (h1 j c u hc hu)
  · have hd' : ∀ cs, d ≠ .tup cs := fun cs e => hd ⟨cs, e⟩
    have e1 : rsT m d = mapAt (fun _ c => rsC m c) d := by cases d <;> first | rfl | exact (hd' _ rfl).elim
    have hv : VP w G m r 0 d v := by cases d <;> first | exact h | exact (hd' _ rfl).elim
    rw [e1]
    refine vt_of_vp (fun cs => ?_) (rs_vp hv)
    by_cases ha : ∃ es, d = .agg es
    · obtain ⟨es, rfl⟩ := ha
      intro e; cases e
    · have ha' : ∀ cs, d ≠ .agg cs := fun cs e => ha ⟨cs, e⟩
      have e2 : mapAt (fun _ c => rsC m c) d = rsC m d := by cases d <;> first | rfl | exact (ha' _ rfl).elim
      rw [e2]
      exact rs_nottup d hd' cs
theorem rs_box {r : Root} {b : Nat} {cs : List D} (h : BoxV w G m r b cs) : BoxV w G (mR m.ro) r b (cs.map (rsC m)) := by
  intro j d hd
  rw [List.getElem?_map] at hd
  obtain ⟨c, hc, rfl⟩ := Option.map_eq_some_iff.1 hd
  obtain ⟨u, h1, h2, h3⟩ := h j c hc
  exact ⟨u, h1, h2, rs_vc h3⟩
theorem rs_imm {d : D} {v : Value} (h : Imm w G.be G.st (fz d) v) : Imm w G.be G.st (fz (rsC m d)) v := by
  cases d with
  | list q xs =>
    cases q with
    | cp e q => cases h
    | _ => exact h
  | lptr t n off => cases h
  | eptr e q i row off => cases h
  | stamp e k i => cases h
  | _ => exact h
theorem lk_map {α β : Type} (f : α → β) (t : Nat) : ∀ l : List (Nat × α), lk t (l.map fun x => (x.1, f x.2)) = (lk t l).map f
  | [] => rfl
  | x :: r => by
    rw [List.map_cons, lk_cons, lk_cons]
    simp only
    split
    · rfl
    · exact lk_map f t r
theorem Rel.reset (h : Rel X G s a w) : Rel X G (resetS s) a w where
  size := h.size
  defers := h.defers
  env := fun t d ht => by
    have ht' : lk t (s.env.map fun x => (x.1, rsT s.m x.2)) = some d := ht
    rw [lk_map] at ht'
    obtain ⟨c, hc, rfl⟩ := Option.map_eq_some_iff.1 ht'
    exact rs_vt (h.env t c hc)
  loc := fun t cs ht => by
    have ht' : lk t (s.loc.map fun x => (x.1, x.2.map (rsC s.m))) = some cs := ht
    rw [lk_map (fun cs : List D => cs.map (rsC s.m))] at ht'
    obtain ⟨c, hc, rfl⟩ := Option.map_eq_some_iff.1 ht'
    exact ⟨(h.loc t c hc).1, rs_box (h.loc t c hc).2⟩
  sto := fun k o hk => by
    have hk' : (s.sto.map (rsO s.m))[k]? = some o := hk
    rw [List.getElem?_map] at hk'
    obtain ⟨o', ho, rfl⟩ := Option.map_eq_some_iff.1 hk'
    obtain ⟨b, h1, h2, h3, h4⟩ := h.sto k o' ho
    refine ⟨b, h1, h2, h3, ?_⟩
    cases o' with
    | map es => exact h4
    | box cs =>
      simp only [rsO, ObV] at h4 ⊢
      split
      · rename_i hlt
        rw [if_pos hlt] at h4
        intro j d hd
        rw [List.getElem?_map] at hd
        obtain ⟨c, hc, rfl⟩ := Option.map_eq_some_iff.1 hd
        obtain ⟨u, hu, hi⟩ := h4 j c hc
        exact ⟨u, hu, rs_imm hi⟩
      · rename_i hlt
        rw [if_neg hlt] at h4
        exact rs_box h4
  be := fun k hk => h.be k (by simpa [resetS] using hk)
  new := h.new
  stow := h.stow
  std := h.std
  old := h.old
  os := h.os
  tape := h.tape
  output := h.output
  grow := h.grow
  ro := by simpa [resetS] using h.ro
  rom := h.rom
  be0 := h.be0
  n0 := by simpa [resetS] using h.n0
  la0 := h.la0
theorem Ok.reset {c : Code} {Q : Ex → DS → Prop} (h : Ok P T c (resetS s) Q) : Ok P T c s Q := fun X G a w hX hR => h X G a w hX hR.reset
end

end Go.Lv

namespace Go.Lv

noncomputable def fQ {β : Type} (q : Option (Place × Nat)) (k : Option (Place × Nat) → β) : β := match q with
  | none => k none
  | some (p, n) => fNat p.i fun i => fNat p.j fun j => fNat n fun n => k (some (⟨p.r, i, j⟩, n))
noncomputable def fK {β : Type} (q : Kind) (k : Kind → β) : β := match q with
  | .own n => k (.own n)
  | .cp e p => fNat e fun e => fQ p fun p => k (.cp e p)
  | .imm => k .imm
noncomputable def fC {β : Type} (d : D) (k : D → β) : β := match d with
  | .list q xs => fK q fun q => k (.list q xs)
  | .lptr t v o => fNat t fun t => fNat v fun v => fNat o fun o => k (.lptr t v o)
  | .gptr t o => fNat t fun t => fNat o fun o => k (.gptr t o)
  | .eptr e p i row o => fQ p fun p => fNat o fun o => k (.eptr e p i row o)
  | .int q n => k (.int q n)
  | .bool b => k (.bool b)
  | .str s => k (.str s)
  | .nil => k .nil
  | .nilmap => k .nilmap
  | .map t => k (.map t)
  | .fn f cs => k (.fn f cs)
  | .nilfn => k .nilfn
  | .agg cs => k (.agg cs)
  | .tup ds => k (.tup ds)
  | .stamp a b c => k (.stamp a b c)
  | .dead => k .dead
noncomputable def fP {β : Type} (d : D) (k : D → β) : β := match d with
  | .agg cs => fMap fC cs fun cs => k (.agg cs)
  | d => fC d k
noncomputable def fT {β : Type} (d : D) (k : D → β) : β := match d with
  | .tup ds => fMap fP ds fun ds => k (.tup ds)
  | d => fP d k
noncomputable def fEn {β : Type} (x : Nat × D) (k : Nat × D → β) : β := fNat x.1 fun t => fT x.2 fun d => k (t, d)
noncomputable def fLo {β : Type} (x : Nat × List D) (k : Nat × List D → β) : β := fNat x.1 fun t => fMap fC x.2 fun cs => k (t, cs)
noncomputable def fOb2 {β : Type} (x : Ob) (k : Ob → β) : β := match x with
  | .box cs => fMap fC cs fun cs => k (.box cs)
  | .map es => k (.map es)
noncomputable def fW {β : Type} (s : DS) (k : DS → β) : β := fMap fEn s.env fun env => fMap fLo s.loc fun loc => fMap fOb2 s.sto fun sto => fMt s.m fun m => k ⟨env, loc, sto, m⟩

section
variable {β : Type}
theorem fQ_eq (q : Option (Place × Nat)) (k : Option (Place × Nat) → β) : fQ q k = k q := by
  cases q with
  | none => rfl
  | some x => obtain ⟨⟨r, i, j⟩, n⟩ := x; simp only [fQ, fNat_eq]
theorem fK_eq (q : Kind) (k : Kind → β) : fK q k = k q := by cases q <;> simp only [fK, fNat_eq, fQ_eq]
theorem fC_eq (d : D) (k : D → β) : fC d k = k d := by cases d <;> simp only [fC, fNat_eq, fQ_eq, fK_eq]
theorem fP_eq (d : D) (k : D → β) : fP d k = k d := by
  cases d with
  | agg cs => simp only [fP, fMap_eq fC_eq]
  | _ => simp only [fP, fC_eq]
theorem fT_eq (d : D) (k : D → β) : fT d k = k d := by
  cases d with
  | tup ds => simp only [fT, fMap_eq fP_eq]
  | _ => simp only [fT, fP_eq]
theorem fW_eq (s : DS) (k : DS → β) : fW s k = k s := by
  have h3 : ∀ {γ : Type} (c : Cn) (k : Cn → γ), fCn c k = k c := fun c k => by
    unfold fCn
    rw [fMap_eq (fun x k => by rw [fNat_eq])]
  unfold fW fMt
  rw [fMap_eq (fun x k => by unfold fEn; rw [fNat_eq, fT_eq]), fMap_eq (fun x k => by unfold fLo; rw [fNat_eq, fMap_eq fC_eq]), fMap_eq (fun x k => by cases x <;> simp only [fOb2, fMap_eq fC_eq]), h3, h3, h3, fNat_eq, fNat_eq, fNat_eq]
end

noncomputable def sm (x : Option DS) (K : DS → Prop) : Prop := match x with
  | some s => K s
  | none => False
noncomputable def splitW (c : FC) (dst : Option Nat) (s : DS) (p : Bool) (K : DS → Prop) : Prop :=
  fW s fun s => (p = true → sm (put c dst (.bool true) s) K) ∧ (p = false → sm (put c dst (.bool false) s) K)
noncomputable def valW (c : FC) (dst : Option Nat) (s : DS) (d : D) (K : DS → Prop) : Prop := match d with
  | .bool p => splitW c dst s p K
  | d => sm (put c dst d s) K
noncomputable def binW (T : St) (s : DS) (dst : Option Nat) (op : BinOp) (t : Nat) (x y : Operand) (K : DS → Prop) : Prop :=
  match lookO s x, lookO s y with
  | some a, some b => match binD T.L t op a b with
    | some d => valW T.c dst s d K
    | none => False
  | _, _ => False
noncomputable def askW (T : St) (s : DS) (dst : Option Nat) (op : BinOp) (t : Nat) (x y : Operand) (K : DS → Prop) : Prop :=
  match lookO s x, lookO s y with
  | some a, some b => ∃ d, binD T.L t op a b = some d ∧ valW T.c dst s d K
  | _, _ => False
noncomputable def fsD (c : FC) : Option Nat → Bool
  | some t => c.fs.contains t
  | none => false
noncomputable def idxW (T : St) (s : DS) (dst : Option Nat) (t : Nat) (xo : Operand) (x i : D) (K : DS → Prop) : Prop :=
  match T.L.tk t, x, i with
  | .slice e, .list q xs, .int _ n => ∃ ys row, lsD s (.list q xs) = some ys ∧ 0 ≤ n ∧ ys[n.toNat]? = some row ∧ row.length = T.L.size e ∧ 0 < T.L.size e ∧
      (match q with
      | .imm => sm (put T.c dst (.eptr none none n.toNat row 0) s) K
      | .cp _ p => sm (put T.c dst (.eptr (some s.m.ep) p n.toNat row 0) s) K
      | .own _ => match xo with
        | .tmp u => sm (put T.c dst (.eptr (some s.m.ep) (some (⟨.slot u, 0, 0⟩, s.m.vr u)) n.toNat row 0) s) K
        | _ => False)
  | _, x, i => ∃ d, indexAddrD T.L s t xo x i = some d ∧ sm (put T.c dst d s) K
noncomputable def loadW (T : St) (s : DS) (dst : Option Nat) (t : Nat) (a : D) (K : DS → Prop) : Prop := match a with
  | .eptr e (some p) i row off => ∃ cs d, readD T.ro s (.eptr e (some p) i row off) (T.L.size t) = some cs ∧ cs.any isOwn = false ∧ ofCells T.L t cs = some d ∧ sm (put T.c dst d s) K
  | a => sm (loadD T.L T.c T.ro s dst t a) K
noncomputable def lookW (T : St) (s : DS) (dst : Option Nat) (t : Nat) (mp key : D) (ok : Bool) (K : DS → Prop) : Prop :=
  match T.L.tk t, mapEs s mp with
  | .map kt e, some es => match zeroD T.L e with
    | some z => keyT T.L kt key = true ∧ ∃ r, findE T.L kt key es = some r ∧ sm (put T.c dst (if ok then .tup [r.getD z, .bool r.isSome] else r.getD z) s) K
    | none => False
  | _, _ => False
noncomputable def updW (T : St) (s : DS) (dst : Option Nat) (t : Nat) (mp key v : D) (K : DS → Prop) : Prop :=
  match T.L.tk t, mp with
  | .map kt _, .map k => match s.sto[k]? with
    | some (.map es) => (T.ro ≤ k ∧ keyT T.L kt key = true ∧ keyC v = true) ∧ ∃ es', setE T.L kt key v es = some es' ∧ sm (voidS T.c dst { s with sto := s.sto.set k (.map es') }) K
    | _ => False
  | _, _ => False
noncomputable def srcL (s : DS) (y : Operand) : Option (List (List D)) := match lookO s y with
  | some (.str b) => some (bytesRows b)
  | some d => lsD s d
  | none => none
noncomputable def appW (T : St) (s : DS) (dst : Option Nat) (x y : Operand) (e : Nat) (K : DS → Prop) : Prop :=
  match srcL s y with
  | none => False
  | some ys => match takeO s x with
    | some (.list (.own sz) xs, s1) =>
      ((sz = 0 || sz = T.L.size e) && decide (0 < T.L.size e) && decide (0 < T.L.bytes e) && (T.L.zero e).isSome) = true ∧ (xs.length + ys.length) * T.L.bytes e ≤ room ∧ allLen (T.L.size e) ys = true ∧
        sm (put T.c dst (.list (.own (T.L.size e)) (xs ++ ys)) s1) K
    | _ => False
noncomputable def callW (P : Program) (T : St) (M : Ms) (s : DS) (dst : Option Nat) (f : Nat) (caps : List D) (args : List Operand) (K : DS → Prop) : Prop :=
  match lk f M with
  | some (2, _) => ∃ ds, lendL s args = some ds ∧ (isNilL caps && (s.sto.drop T.ro).all boxSt) = true ∧ Tri P f s.sto.length ds s.sto fun d l => l = s.sto ∧ flatT d = true ∧ sm (put T.c dst (unlD s.m.ep d) s) K
  | some (m, oa) => match takeL s args with
    | some (ds, s1) => fNat (match m with | 0 => s.sto.length | _ => T.ro) fun r => fMap fT (frzA oa 0 ds) fun ds => (ds.all cellsOK && stoOK T.ro r s.sto) = true ∧ T.ro ≤ r ∧
        Tri P f r (ds ++ caps) s.sto fun d l => partsOK d = true ∧ (∀ k, k < r → l[k]? = s.sto[k]?) ∧ (l.drop r).all boxOK = true ∧ sm (put T.c dst d (afterC s1 r ds l)) K
    | none => False
  | none => match takeL s args with
    | some (ds, s1) => fNat s.sto.length fun r => fMap fT (frzA [] 0 ds) fun ds => (ds.all cellsOK && stoOK T.ro r s.sto) = true ∧ T.ro ≤ r ∧
        Tri P f r (ds ++ caps) s.sto fun d l => partsOK d = true ∧ (∀ k, k < r → l[k]? = s.sto[k]?) ∧ (l.drop r).all boxOK = true ∧ sm (put T.c dst d (afterC s1 r ds l)) K
    | none => False
noncomputable def storeW (T : St) (s : DS) (o : Oper) (t : Nat) (a v : D) (K : DS → Prop) : Prop := match a with
  | .eptr e (some q) i row off => ∃ s2, storeD T.L T.c T.ro s t (.eptr e (some q) i row off) v = some s2 ∧ sm (voidS T.c o.dst s2) K
  | a => sm (match storeD T.L T.c T.ro s t a v with | some s2 => voidS T.c o.dst s2 | none => none) K
noncomputable def anyW (T : St) (s : DS) (o : Oper) (K : DS → Prop) : Prop := ∃ s1, opD T.L T.c T.ro s o = some s1 ∧ fW s1 K
noncomputable def makeW (T : St) (s : DS) (o : Oper) (t : Nat) (n m : Operand) (K : DS → Prop) : Prop := match T.L.tk t with
  | .slice e => match lookO s n, lookO s m, T.L.zero e with
    | some (.int _ a), some (.int _ b), some z => (0 ≤ a ∧ a ≤ b ∧ b * T.L.bytes e ≤ 2 * room ∧ b ≤ 9223372036854775807 ∧ 0 < T.L.size e) ∧ sm (put T.c o.dst (.list (.own (T.L.size e)) (List.replicate a.toNat (z.map fz))) s) K
    | _, _, _ => False
  | _ => False
noncomputable def bW (s : DS) (x : Option Operand) (dflt most : Nat) (K : Nat → Prop) : Prop := match x with
  | none => dflt ≤ most ∧ K dflt
  | some x => match lookO s x with
    | some (.int _ i) => (0 ≤ i ∧ i ≤ most) ∧ K i.toNat
    | _ => False
noncomputable def sliceW (T : St) (s : DS) (o : Oper) (t : Nat) (x : Operand) (lo hi mx : Option Operand) (K : DS → Prop) : Prop := match mx, T.L.tk t, lookO s x with
  | none, .slice e, some (.list .imm xs) => bW s hi xs.length xs.length fun h => bW s lo 0 h fun l => 0 < T.L.size e ∧ allLen (T.L.size e) xs = true ∧ sm (put T.c o.dst (.list .imm ((xs.drop l).take (h - l))) s) K
  | _, _, _ => anyW T s o K
noncomputable def wOp (P : Program) (T : St) (M : Ms) (s : DS) (o : Oper) (K : DS → Prop) : Prop :=
  match o.op with
  | .binOp op t x y _ => match fsD T.c o.dst with
    | true => askW T s o.dst op t x y K
    | false => binW T s o.dst op t x y K
  | .indexAddr t x i => match lookO s x, lookO s i with
    | some a, some b => idxW T s o.dst t x a b K
    | _, _ => False
  | .index t x i => match lookO s x, lookO s i with
    | some a, some b => ∃ d, indexD T.L t a b = some d ∧ sm (put T.c o.dst d s) K
    | _, _ => False
  | .load t a => match lookO s a with
    | some ad => loadW T s o.dst t ad K
    | none => False
  | .store t a v => match takeO s v with
    | some (d, s1) => match lookO s1 a with
      | some ad => storeW T s1 o t ad (if fsO T.c v then fzTop d else d) K
      | none => False
    | none => False
  | .lookup t m k ok => match lookO s m, lookO s k with
    | some a, some b => lookW T s o.dst t a b ok K
    | _, _ => False
  | .mapUpdate t m k x => match lookO s m, lookO s k, lookO s x with
    | some a, some b, some v => updW T s o.dst t a b v K
    | _, _, _ => False
  | .call { callee := .value x, args, argTypes } => match lookO s x with
    | some (.fn f caps) => match lk f M with
      | some (3, _) => fW s fun s => OpOk P T o s K
      | _ => callW P T M s o.dst f caps args.toList K
    | _ => False
  | .call { callee := .builtin .append, args, argTypes } => match args.toList, argTypes.toList with
    | [x, y], [t, u] => match T.L.tk t with
      | .slice e => (match T.L.tk u with | .slice _ => True | .str => True | _ => False) ∧ appW T s o.dst x y e K
      | _ => False
    | _, _ => False
  | .call { callee := .builtin .copy, args, argTypes } => anyW T s o K
  | .slice t x lo hi mx => sliceW T s o t x lo hi mx K
  | .mapEntry _ _ _ => anyW T s o K
  | .entryStore _ _ _ _ => anyW T s o K
  | .makeSlice t n m => makeW T s o t n m K
  | .convert a b _ => match T.L.tk a, T.L.tk b with
    | .int _, .int _ => sm (opD T.L T.c T.ro s o) K
    | _, _ => anyW T s o K
  | _ => sm (opD T.L T.c T.ro s o) K
noncomputable def wStep (P : Program) (T : St) (M : Ms) (ops : Array Oper) (i : Nat) (s : DS) (K : DS → Prop) : Prop := match ops[i]? with
  | none => False
  | some o => match wantD ops s o with
    | some true => wOp P T M s o K
    | some false => sm (put T.c o.dst (.tup []) s) K
    | none => False
noncomputable def wOps (P : Program) (T : St) (M : Ms) (ops : Array Oper) : List Nat → DS → (DS → Prop) → Prop
  | [], s, K => K s
  | i :: r, s, K => wStep P T M ops i s fun s1 => wOps P T M ops r s1 K
noncomputable def nrm (lv : List Nat) (s : DS) (K : DS → Prop) : Prop := fW (resetS (prune lv s)) K
noncomputable def riskK : Op → Bool
  | .indexAddr _ _ _ | .index _ _ _ | .slice _ _ _ _ _ | .lookup _ _ _ _ | .load _ _ => true
  | _ => false
structure DrT where
  al : Nat
  dep : List Nat
  bef : List Nat
noncomputable def bitN (m i : Nat) : Bool := Nat.beq (Nat.mod (Nat.shiftRight m i) 2) 1
noncomputable def tabOK (ops : Array Oper) (tb : DrT) : Bool :=
  ((List.range ops.size).all fun i => !bitN tb.al i || aloneK ops i) &&
  (((List.range ops.size).all fun i => match tb.dep[i]?, depO ops i with | some d, some d' => Nat.beq d d' | _, _ => false) &&
  (List.range ops.size).all fun j => match tb.bef[j]? with | some b => Nat.beq b (mskL (befF ops (List.range j).reverse [j])) | none => false)
noncomputable def rdyT (tb : DrT) (L : List Nat) (i : Nat) : Bool := match tb.dep[i]? with
  | some d => Nat.beq (Nat.land d (mskL L)) d
  | none => false
noncomputable def dropT (tb : DrT) (j : Nat) (V : List Nat) : List Nat := match tb.bef[j]? with
  | some b => V.filter fun i => !bitN b i
  | none => []
noncomputable def readyT (tb : DrT) (n : Nat) (L : List Nat) : List Nat := (List.range n).filter fun j => !hasB L j && rdyT tb L j
noncomputable def eyeS (ops : Array Oper) (s : DS) (o : Oper) : DS := { s with env := keep (o.looksAt ops) s.env }
noncomputable def riskR (T : St) (ops : Array Oper) (t : Nat) (s : DS) (o : Oper) : Bool :=
  riskK o.op && ((match o.op with | .load _ a => (match lookO (eyeS ops s o) a with | some (.eptr _ (some _) _ _ _) => true | _ => false) | _ => true) && (match wantD ops (eyeS ops s o) o with | some b => b | none => false))
noncomputable def riskC (T : St) (ops : Array Oper) (t : Nat) (s : DS) (o : Oper) : Bool :=
  decide (t < T.c.n) && !(o.looksAt ops).contains t && (roK T.L o.op && !T.c.xf.contains t && ((T.c.la && lookK o.op) || !(o.op.operands.toList.any fun x => isOwnO (eyeS ops s o) x)))
noncomputable def stillW (P : Program) (T : St) (M : Ms) (ops : Array Oper) (s s1 : DS) : List Nat → Prop
  | [] => True
  | i :: V => (match ops[i]? with
    | some o => match o.dst with
      | some t => match riskR T ops t s1 o && riskC T ops t s1 o with
        | true => wOp P T M (eyeS ops s1 o) o fun s2 => match lk t s2.env with
          | some d => hasOwn d = false ∧ lk t s.env = some d ∧ lk t s1.env = some d
          | none => False
        | false => roV T ops s1 i = roV T ops s i ∧ lk t s1.env = lk t s.env
      | none => True
    | none => True) ∧ stillW P T M ops s s1 V
noncomputable def firstA (T : St) (ops : Array Oper) (tb : DrT) (L : List Nat) (s : DS) : List Nat → Option (Nat × Nat × Option D)
  | [] => none
  | i :: r => match ops[i]? with
    | none => firstA T ops tb L s r
    | some o => match o.dst with
      | none => firstA T ops tb L s r
      | some t => match bitN tb.al i && !hasB L i && rdyT tb L i && !ownAt t s.env with
        | true => match riskR T ops t s o with
          | true => match riskC T ops t s o with
            | true => some (i, t, none)
            | false => firstA T ops tb L s r
          | false => match roV T ops s i with
            | some d => some (i, t, some d)
            | none => firstA T ops tb L s r
        | false => firstA T ops tb L s r
noncomputable def aheadK (t : Nat) (s : DS) (d : D) (K : DS → Prop) : Prop := match d with
  | .bool p => (p = true → K (putS t (.bool true) s)) ∧ (p = false → K (putS t (.bool false) s))
  | d => K (putS t d s)
noncomputable def drawJ (P : Program) (T : St) (M : Ms) (ops : Array Oper) (tb : DrT) (L V : List Nat) (s : DS) (K : List Nat → List Nat → DS → Prop) : List Nat → Prop
  | [] => True
  | j :: r => wStep P T M ops j s (fun s1 => fW s1 fun s1 => stillW P T M ops s s1 (dropT tb j V) ∧ K (j :: L) (dropT tb j V) s1) ∧ drawJ P T M ops tb L V s K r
noncomputable def drawW (P : Program) (T : St) (M : Ms) (ops : Array Oper) (tb : DrT) : Nat → List Nat → List Nat → DS → (DS → Prop) → Prop
  | 0, _, _, _, _ => False
  | n + 1, L, V, s, K => match allIn ops.size L with
    | true => K s
    | false => match firstA T ops tb L s (List.range ops.size) with
      | some (i, t, some d) => aheadK t s d fun s1 => fW s1 fun s1 => drawW P T M ops tb n (i :: L) (i :: V) s1 K
      | some (i, t, none) => match ops[i]? with
        | some o => wOp P T M (eyeS ops s o) o fun s1 => match lk t s1.env with
          | some d => hasOwn d = false ∧ aheadK t s d fun s1 => fW s1 fun s1 => drawW P T M ops tb n (i :: L) (i :: V) s1 K
          | none => False
        | none => False
      | none => match readyT tb ops.size L with
        | [] => False
        | js => drawJ P T M ops tb L V s (fun L V s1 => drawW P T M ops tb n L V s1 K) js
noncomputable def sm2 (x : Option (D × DS)) (R : D → List Ob → Prop) : Prop := match x with
  | some (d, s) => fT d fun d => fMap fOb2 s.sto fun sto => R d sto
  | none => False
noncomputable def isRange (o : Oper) : Bool := match o.op with
  | .range _ _ => true
  | _ => false
noncomputable def rangeC : Code → Bool
  | .region _ ops false => ops.toList.any isRange
  | _ => false
noncomputable def wC (P : Program) (T : St) (M : Ms) (lv : List Nat) : Code → DS → (Ex → DS → Prop) → Prop
  | .skip, s, Q => Q .nx s
  | .label _, s, Q => Q .nx s
  | .exit id, s, Q => Q (.out id) s
  | .ret, s, Q => Q .ret s
  | .seq x y, s, Q => match rangeC x with
    | true => fW s fun s => Ok P T (.seq x y) s Q
    | false => wC P T M lv x s (Ex.then (fun s1 => wC P T M lv y s1 Q) Q)
  | .cond c x y, s, Q => match lookO s c with
    | some (.bool true) => wC P T M lv x s Q
    | some (.bool false) => wC P T M lv y s Q
    | _ => False
  | .block id c, s, Q => wC P T M lv c s (Ex.blk id Q)
  | .scope c, s, Q => wC P T M lv c s Q
  | .region id ops false, s, Q => wOps P T M ops (List.range ops.size) s fun s1 => nrm lv s1 (Q .nx)
  | .region id ops true, s, Q => ∃ tb, (wfK ops && tabOK ops tb) = true ∧ drawW P T M ops tb (ops.size + ops.size + 1) [] [] s fun s1 => nrm lv s1 (Q .nx)
  | c, s, Q => Ok P T c s Q

section
variable {P : Program} {T : St} {X : Ctx} {G : Gh} {M : Ms} {s s1 : DS} {a : Act} {w : World} {o : Oper} {ops : Array Oper} {K K' : DS → Prop} {Q : Ex → DS → Prop}

theorem sm_inv {x : Option DS} (h : sm x K) : ∃ s, x = some s ∧ K s := by
  unfold sm at h
  split at h
  · exact ⟨_, rfl, h⟩
  · exact h.elim
theorem sm_iff {x : Option DS} : sm x K ↔ ∃ s, x = some s ∧ K s := ⟨sm_inv, fun ⟨s, h, k⟩ => by subst h; exact k⟩
theorem valW_inv {c : FC} {dst : Option Nat} {d : D} (h : valW c dst s d K) : sm (put c dst d s) K := by
  unfold valW at h
  split at h
  · rename_i p
    unfold splitW at h
    rw [fW_eq] at h
    cases p with
    | true => exact h.1 rfl
    | false => exact h.2 rfl
  · exact h
theorem bW_inv {x : Option Operand} {d m : Nat} {K : Nat → Prop} (h : bW s x d m K) : ∃ n, bndD s x d m = some n ∧ K n := by
  unfold bW at h
  unfold bndD
  cases x with
  | none => exact ⟨d, by simp only; rw [if_pos h.1], h.2⟩
  | some x =>
    simp only at h ⊢
    split at h
    · rename_i k i hx
      exact ⟨i.toNat, by rw [hx]; simp only; rw [if_pos h.1], h.2⟩
    · exact h.elim
theorem sliceW_sm {t : Nat} {x : Operand} {lo hi mx : Option Operand} (ho : o.op = .slice t x lo hi mx) (h : sliceW T s o t x lo hi mx K) : Lv.sm (opD T.L T.c T.ro s o) K := by
  unfold sliceW at h
  split at h
  · rename_i e xs htk hx
    obtain ⟨hh, h1, h⟩ := bW_inv h
    obtain ⟨l, h2, h3, h4, h5⟩ := bW_inv h
    simp only [opD, ho, htk, sliceLsD, hx, lsD]
    rw [if_pos ⟨h3, h4⟩]
    simp only [h1, h2]
    exact h5
  · obtain ⟨s1, h1, h2⟩ := h
    rw [fW_eq] at h2
    exact sm_iff.2 ⟨s1, h1, h2⟩
theorem makeW_sm {t : Nat} {n m : Operand} (ho : o.op = .makeSlice t n m) (h : makeW T s o t n m K) : Lv.sm (opD T.L T.c T.ro s o) K := by
  unfold makeW at h
  split at h
  · rename_i e htk
    split at h
    · rename_i k a k' b z hn hm hz
      obtain ⟨h1, h2⟩ := h
      simp only [opD, ho, htk, hn, hm, hz]
      rw [if_pos h1]
      exact h2
    · exact h.elim
  · exact h.elim
theorem OpOk.sm (H : LyOK P T.L) (h : Lv.sm (opD T.L T.c T.ro s o) K) : OpOk P T o s K := by
  obtain ⟨s1, h1, h2⟩ := sm_inv h
  exact OpOk.op H h1 h2
theorem idxD_of {k : IntKind} {n : Int} {ys : List (List D)} {row : List D} (h0 : 0 ≤ n) (h : ys[n.toNat]? = some row) : idxD (.int k n) ys.length = some n.toNat := by
  have hlt := (List.getElem?_eq_some_iff.1 h).1
  show (if 0 ≤ n ∧ n < (ys.length : Int) then some n.toNat else none) = _
  rw [if_pos ⟨h0, by omega⟩]
theorem wOp_read (hk : riskK o.op = true) (h : wOp P T M s o K) : sm (opD T.L T.c T.ro s o) K := by
  unfold wOp at h
  split at h
  · rename_i op t x y z ho
    rw [ho] at hk
    cases hk
  · rename_i t x i ho
    split at h
    · rename_i a b ha hb
      unfold idxW at h
      split at h
      · rename_i e q xs k n htk
        obtain ⟨ys, row, h1, h2, h3, h4, h5, h6⟩ := h
        have hi := idxD_of (k := k) h2 h3
        cases q with
        | imm =>
          simp only [opD, ho, ha, hb, indexAddrD, htk, h1, hi, h3]
          rw [if_pos ⟨h4, h5⟩]
          exact h6
        | cp e p =>
          simp only [opD, ho, ha, hb, indexAddrD, htk, h1, hi, h3]
          rw [if_pos ⟨h4, h5⟩]
          exact h6
        | own sz =>
          simp only [opD, ho, ha, hb, indexAddrD, htk, h1, hi, h3]
          rw [if_pos ⟨h4, h5⟩]
          simp only at h6
          split at h6
          · exact h6
          · exact h6.elim
      · obtain ⟨d, h1, h2⟩ := h
        simp only [opD, ho, ha, hb, h1]
        exact h2
    · exact h.elim
  · rename_i t x i ho
    split at h
    · rename_i a b ha hb
      obtain ⟨d, h1, h2⟩ := h
      simp only [opD, ho, ha, hb, h1]
      exact h2
    · exact h.elim
  · rename_i t x ho
    split at h
    · rename_i ad ha
      unfold loadW at h
      split at h
      · rename_i e p i row off
        obtain ⟨cs, d, h1, h2, h3, h4⟩ := h
        simp only [opD, ho, ha, loadD, h1, h2, h3]
        exact h4
      · skip
        simp only [opD, ho, ha]
        exact h
    · exact h.elim
  · rename_i t a v ho
    rw [ho] at hk
    cases hk
  · rename_i t m k ok ho
    split at h
    · rename_i a b ha hb
      unfold lookW at h
      split at h
      · rename_i kt e es htk hes
        split at h
        · rename_i z hz
          obtain ⟨h1, r, h2, h3⟩ := h
          simp only [opD, ho, ha, hb, lookupD, htk, hes, h1, if_true, h2, hz]
          exact h3
        · exact h.elim
      · exact h.elim
    · exact h.elim
  · rename_i t m k x ho
    rw [ho] at hk
    cases hk
  · rename_i x args tys ho
    rw [ho] at hk
    cases hk
  · rename_i args tys ho
    rw [ho] at hk
    cases hk
  all_goals first
    | exact sliceW_sm (by assumption) h
    | exact makeW_sm (by assumption) h
    | (obtain ⟨s1, h1, h2⟩ := h; rw [fW_eq] at h2; exact sm_iff.2 ⟨s1, h1, h2⟩)
    | exact h
    | (split at h <;> first | exact h | (obtain ⟨s1, h1, h2⟩ := h; rw [fW_eq] at h2; exact sm_iff.2 ⟨s1, h1, h2⟩))
theorem wOp_ok (H : LyOK P T.L) (h : wOp P T M s o K) : OpOk P T o s K := by
  unfold wOp at h
  split at h
  · rename_i op t x y z ho
    split at h
    · unfold askW at h
      split at h
      · rename_i a b ha hb
        obtain ⟨d, hd, h⟩ := h
        refine OpOk.sm H ?_
        simp only [opD, ho, ha, hb, hd]
        exact valW_inv h
      · exact h.elim
    unfold binW at h
    split at h
    · rename_i a b ha hb
      split at h
      · rename_i d hd
        refine OpOk.sm H ?_
        simp only [opD, ho, ha, hb, hd]
        exact valW_inv h
      · exact h.elim
    · exact h.elim
  · rename_i t x i ho
    split at h
    · rename_i a b ha hb
      unfold idxW at h
      split at h
      · rename_i e q xs k n htk
        obtain ⟨ys, row, h1, h2, h3, h4, h5, h6⟩ := h
        refine OpOk.sm H ?_
        have hi := idxD_of (k := k) h2 h3
        cases q with
        | imm =>
          simp only [opD, ho, ha, hb, indexAddrD, htk, h1, hi, h3]
          rw [if_pos ⟨h4, h5⟩]
          exact h6
        | cp e p =>
          simp only [opD, ho, ha, hb, indexAddrD, htk, h1, hi, h3]
          rw [if_pos ⟨h4, h5⟩]
          exact h6
        | own sz =>
          simp only [opD, ho, ha, hb, indexAddrD, htk, h1, hi, h3]
          rw [if_pos ⟨h4, h5⟩]
          simp only at h6
          split at h6
          · exact h6
          · exact h6.elim
      · obtain ⟨d, h1, h2⟩ := h
        refine OpOk.sm H ?_
        simp only [opD, ho, ha, hb, h1]
        exact h2
    · exact h.elim
  · rename_i t x i ho
    split at h
    · rename_i a b ha hb
      obtain ⟨d, h1, h2⟩ := h
      refine OpOk.sm H ?_
      simp only [opD, ho, ha, hb, h1]
      exact h2
    · exact h.elim
  · rename_i t x ho
    split at h
    · rename_i ad ha
      unfold loadW at h
      split at h
      · rename_i e p i row off
        obtain ⟨cs, d, h1, h2, h3, h4⟩ := h
        refine OpOk.sm H ?_
        simp only [opD, ho, ha, loadD, h1, h2, h3]
        exact h4
      · refine OpOk.sm H ?_
        simp only [opD, ho, ha]
        exact h
    · exact h.elim
  · rename_i t a v ho
    split at h
    · rename_i d s1 htake
      split at h
      · rename_i ad ha
        refine OpOk.sm H ?_
        unfold storeW at h
        simp only [opD, ho, htake, ha]
        split at h
        · obtain ⟨s2, h1, h2⟩ := h
          simp only [h1]
          exact h2
        · exact h
      · exact h.elim
    · exact h.elim
  · rename_i t m k ok ho
    split at h
    · rename_i a b ha hb
      unfold lookW at h
      split at h
      · rename_i kt e es htk hes
        split at h
        · rename_i z hz
          obtain ⟨h1, r, h2, h3⟩ := h
          refine OpOk.sm H ?_
          simp only [opD, ho, ha, hb, lookupD, htk, hes, h1, if_true, h2, hz]
          exact h3
        · exact h.elim
      · exact h.elim
    · exact h.elim
  · rename_i t m k x ho
    split at h
    · rename_i a b v ha hb hv
      unfold updW at h
      split at h
      · rename_i kt e k' htk
        split at h
        · rename_i es hes
          obtain ⟨⟨h1, h2, h3⟩, es', h4, h5⟩ := h
          refine OpOk.sm H ?_
          simp only [opD, ho, ha, hb, hv, mapUpdateD, htk, h1, h2, h3, decide_true, Bool.and_self, if_true, hes, h4]
          exact h5
        · exact h.elim
      · exact h.elim
    · exact h.elim
  · rename_i x args tys ho
    split at h
    · rename_i f caps hx
      split at h
      · rw [fW_eq] at h; exact h
      have give : ∀ (oa : List Nat) (m : Nat), (match takeL s args.toList with
          | some (ds, s1) => fNat (match m with | 0 => s.sto.length | _ => T.ro) fun r => fMap fT (frzA oa 0 ds) fun ds => (ds.all cellsOK && stoOK T.ro r s.sto) = true ∧ T.ro ≤ r ∧
            Tri P f r (ds ++ caps) s.sto fun d l => partsOK d = true ∧ (∀ k, k < r → l[k]? = s.sto[k]?) ∧ (l.drop r).all boxOK = true ∧ Lv.sm (put T.c o.dst d (afterC s1 r ds l)) K
          | none => False) → OpOk P T o s K := by
        intro oa m h
        split at h
        · rename_i ds s1 ht
          rw [fNat_eq, fMap_eq fT_eq] at h
          obtain ⟨h1, h2, h3⟩ := h
          rw [Bool.and_eq_true] at h1
          refine OpOk.call ho oa hx ht h1.1 h1.2 h2 h3 fun d l hd _ => ?_
          obtain ⟨q1, q2, q3, q4⟩ := hd
          exact ⟨q1, q2, q3, sm_inv q4⟩
        · exact h.elim
      unfold callW at h
      split at h
      · obtain ⟨ds, ht, h1, h3⟩ := h
        rw [Bool.and_eq_true] at h1
        have hc : caps = [] := by
          cases caps with
          | nil => rfl
          | cons c cs => exact absurd h1.1 (by simp [isNilL])
        subst hc
        refine OpOk.callL ho hx ht h1.2 h3 fun d l hd => ?_
        obtain ⟨q1, q2, q3⟩ := hd
        exact ⟨q1, q2, sm_inv q3⟩
      · rename_i m oa _ _
        exact give oa m h
      · exact give [] 0 h
    · exact h.elim
  · rename_i args tys ho
    split at h
    · rename_i x y t u hargs htys
      split at h
      · rename_i e htk
        obtain ⟨hu, h⟩ := h
        refine OpOk.sm H ?_
        have hop : opD T.L T.c T.ro s o = appendD T.L T.c s o.dst e x y := by
          simp only [opD, ho, builtinD, hargs, htys, appendOp, htk]
          split at hu
          · rename_i hk; simp only [hk]
          · rename_i hk; simp only [hk]
          · exact hu.elim
        rw [hop]
        unfold appW at h
        have hsrc : ∀ z, srcL s y = z → appendD T.L T.c s o.dst e x y = (match z with
            | none => none
            | some ys => match takeO s x with
              | some (.list (.own sz) xs, s1) =>
                if (sz = 0 || sz = T.L.size e) && decide (0 < T.L.size e) && decide (0 < T.L.bytes e) && decide ((xs.length + ys.length) * T.L.bytes e ≤ room) && allLen (T.L.size e) ys && (T.L.zero e).isSome then
                  put T.c o.dst (.list (.own (T.L.size e)) (xs ++ ys)) s1
                else none
              | _ => none) := fun z hz => by subst hz; rfl
        split at h
        · exact h.elim
        · rename_i ys hys
          rw [hsrc _ hys]
          simp only
          split at h
          · rename_i sz xs s1 htake
            obtain ⟨h1, h2, h3, h4⟩ := h
            rw [if_pos (by
              simp only [Bool.and_eq_true, decide_eq_true_eq] at h1 ⊢
              exact ⟨⟨⟨h1.1, h2⟩, h3⟩, h1.2⟩)]
            exact h4
          · exact h.elim
      · exact h.elim
    · exact h.elim
  all_goals first
    | exact OpOk.sm H (sliceW_sm (by assumption) h)
    | exact OpOk.sm H (makeW_sm (by assumption) h)
    | (obtain ⟨s1, h1, h2⟩ := h; rw [fW_eq] at h2; exact OpOk.op H h1 h2)
    | exact OpOk.sm H h
    | (split at h <;> first | exact OpOk.sm H h | (obtain ⟨s1, h1, h2⟩ := h; rw [fW_eq] at h2; exact OpOk.op H h1 h2))
theorem wStep_ok (H : LyOK P T.L) {i : Nat} (h : wStep P T M ops i s K) : stepOk P T ops i s K := by
  unfold wStep at h
  unfold stepOk
  split at h
  · exact h.elim
  · rename_i o ho
    rw [ho]
    simp only
    split at h
    · rename_i hw; rw [hw]; exact wOp_ok H h
    · rename_i hw
      rw [hw]
      obtain ⟨s1, h1, h2⟩ := sm_inv h
      simp only [h1]
      exact h2
    · exact h.elim
theorem wOps_ok (H : LyOK P T.L) : ∀ {l : List Nat} {s : DS}, wOps P T M ops l s K → OpsOk P T ops l s K
  | [], s, h => h
  | i :: r, s, h => by
    have h1 := wStep_ok H (show wStep P T M ops i s (fun s1 => wOps P T M ops r s1 K) from h)
    unfold stepOk at h1
    simp only [OpsOk]
    cases ho : ops[i]? with
    | none => rw [ho] at h1; exact h1.elim
    | some o =>
      rw [ho] at h1
      simp only at h1 ⊢
      cases hw : wantD ops s o with
      | none => rw [hw] at h1; exact h1.elim
      | some b =>
        rw [hw] at h1
        cases b with
        | true => exact OpOk.mono h1 fun s2 h2 => wOps_ok H h2
        | false =>
          simp only at h1 ⊢
          cases hp : put T.c o.dst (.tup []) s with
          | none => rw [hp] at h1; exact h1.elim
          | some s2 => rw [hp] at h1; exact wOps_ok H h1
theorem nrm_ok {c : Code} {lv : List Nat} {Q' : Ex → DS → Prop} (h : Ok P T c s Q') (hq : ∀ x s', Q' x s' → Q x (resetS (prune lv s'))) : Ok P T c s Q := by
  intro X G a w hX hR
  refine wp_mono (h X G a w hX hR) fun e a' w' ⟨x, s', G', h1, h2, h3⟩ => ⟨x, resetS (Lv.prune lv s'), G', h1, hq _ _ h2, ?_⟩
  refine Rel.reset ?_
  unfold Lv.prune
  split
  · exact h3
  · exact h3.less _ s'.loc (fun t d ht => lk_keep lv t _ d ht) (fun _ _ h => h)
theorem tab_alone {tb : DrT} (h : tabOK ops tb = true) {i : Nat} (hi : i < ops.size) (hb : bitN tb.al i = true) : aloneK ops i = true := by
  simp only [tabOK, Bool.and_eq_true] at h
  have := List.all_eq_true.1 h.1 i (List.mem_range.2 hi)
  rw [hb] at this
  simpa using this
theorem tab_rdy {tb : DrT} (h : tabOK ops tb = true) {i : Nat} (hi : i < ops.size) (L : List Nat) : rdyT tb L i = rdy ops L i := by
  simp only [tabOK, Bool.and_eq_true] at h
  have := List.all_eq_true.1 h.2.1 i (List.mem_range.2 hi)
  rw [← rdyF_eq]
  unfold rdyT rdyF
  split at this
  · rename_i d d' h1 h2
    rw [h1, h2, Nat.eq_of_beq_eq_true this]
  · cases this
theorem tab_drop {tb : DrT} (h : tabOK ops tb = true) {j : Nat} (hj : j < ops.size) (V : List Nat) : dropT tb j V = dropB ops j V := by
  simp only [tabOK, Bool.and_eq_true] at h
  have := List.all_eq_true.1 h.2.2 j (List.mem_range.2 hj)
  rw [← dropF_eq]
  unfold dropT dropF
  split at this
  · rename_i b h1
    rw [Nat.eq_of_beq_eq_true this]
    rfl
  · cases this
theorem firstA_some {tb : DrT} {L : List Nat} : ∀ {l : List Nat} {i t : Nat} {d : Option D}, firstA T ops tb L s l = some (i, t, d) →
    i ∈ l ∧ i ∉ L ∧ dstOf ops i = some t ∧ rdyT tb L i = true ∧ bitN tb.al i = true ∧ ownAt t s.env = false ∧ ((∃ d', d = some d' ∧ roV T ops s i = some d') ∨ (d = none ∧ ∃ o, ops[i]? = some o ∧ o.dst = some t ∧ riskR T ops t s o = true ∧ riskC T ops t s o = true))
  | [], i, t, d, h => by cases h
  | k :: r, i, t, d, h => by
    have rec' : ∀ {i t d}, firstA T ops tb L s r = some (i, t, d) → i ∈ k :: r ∧ i ∉ L ∧ dstOf ops i = some t ∧ rdyT tb L i = true ∧ bitN tb.al i = true ∧ ownAt t s.env = false ∧ ((∃ d', d = some d' ∧ roV T ops s i = some d') ∨ (d = none ∧ ∃ o, ops[i]? = some o ∧ o.dst = some t ∧ riskR T ops t s o = true ∧ riskC T ops t s o = true)) := fun h => by
      obtain ⟨h1, h2⟩ := firstA_some h
      exact ⟨by simp [h1], h2⟩
    simp only [firstA] at h
    split at h
    · exact rec' h
    · rename_i o ho
      split at h
      · exact rec' h
      · rename_i t' ht'
        split at h
        · rename_i hg
          rw [hasB_eq] at hg
          simp only [Bool.and_eq_true, Bool.not_eq_true'] at hg
          have base : k ∈ k :: r ∧ k ∉ L ∧ dstOf ops k = some t' ∧ rdyT tb L k = true ∧ bitN tb.al k = true ∧ ownAt t' s.env = false := by
            refine ⟨by simp, fun hm => ?_, by unfold dstOf; rw [ho]; exact ht', hg.1.2, hg.1.1.1, hg.2⟩
            rw [List.contains_iff_mem.2 hm] at hg
            exact absurd hg.1.1.2 (by simp)
          split at h
          · rename_i hr
            split at h
            · rename_i hc
              cases h
              obtain ⟨b1, b2, b3, b4, b5, b6⟩ := base
              exact ⟨b1, b2, b3, b4, b5, b6, .inr ⟨rfl, o, ho, ht', hr, hc⟩⟩
            · exact rec' h
          · split at h
            · rename_i d' hd'
              cases h
              obtain ⟨b1, b2, b3, b4, b5, b6⟩ := base
              exact ⟨b1, b2, b3, b4, b5, b6, .inl ⟨d', rfl, hd'⟩⟩
            · exact rec' h
        · exact rec' h
theorem risk_roV {i t : Nat} {o : Oper} {d : D} {s1 : DS} (ho : ops[i]? = some o) (ht : o.dst = some t) (hr : riskR T ops t s o = true) (hc : riskC T ops t s o = true) (hs : opD T.L T.c T.ro (eyeS ops s o) o = some s1) (hd : lk t s1.env = some d) (hno : hasOwn d = false) : roV T ops s i = some d := by
  unfold riskR at hr
  unfold riskC at hc
  simp only [Bool.and_eq_true] at hr hc
  have hw : wantD ops (eyeS ops s o) o = some true := by
    obtain ⟨_, _, h⟩ := hr
    split at h
    · rename_i b hb; rw [hb, h]
    · cases h
  unfold eyeS at hw hs hc
  unfold roV
  rw [ho]
  simp only [ht]
  rw [if_pos (by simp only [Bool.and_eq_true]; exact hc.1), hw]
  simp only
  rw [if_pos (by simp only [Bool.and_eq_true]; exact hc.2), hs]
  simp only [hd, hno]
  rfl
theorem stillW_ok {V : List Nat} (h : stillW P T M ops s s1 V) : stillV T ops V s s1 := by
  induction V with
  | nil => intro i hi; cases hi
  | cons v V ih =>
    intro i hi
    rcases List.mem_cons.1 hi with e | hi
    · subst e
      intro t d h1 h2 h3
      have h4 := h.1
      unfold dstOf at h1
      obtain ⟨o, ho, hdst⟩ := Option.bind_eq_some_iff.1 h1
      rw [ho] at h4
      simp only [hdst] at h4
      split at h4
      · rename_i hrc
        rw [Bool.and_eq_true] at hrc
        have hk : riskK o.op = true := by
          have := hrc.1
          unfold riskR at this
          simp only [Bool.and_eq_true] at this
          exact this.1
        obtain ⟨s2, q1, q2⟩ := sm_inv (wOp_read hk h4)
        split at q2
        · rename_i d' hd'
          obtain ⟨q3, q4, q5⟩ := q2
          have e : d' = d := by rw [q4] at h3; exact Option.some.inj h3
          subst e
          exact ⟨risk_roV ho hdst hrc.1 hrc.2 q1 hd' q3, q5⟩
        · exact q2.elim
      · exact ⟨h4.1.trans h2, h4.2.trans h3⟩
    · exact ih h.2 i hi
theorem aheadK_inv {t : Nat} {d : D} (h : aheadK t s d K) : K (putS t d s) := by
  unfold aheadK at h
  split at h
  · rename_i p
    cases p with
    | true => exact h.1 rfl
    | false => exact h.2 rfl
  · exact h
theorem drawJ_inv {tb : DrT} {L V : List Nat} {K : List Nat → List Nat → DS → Prop} : ∀ {l : List Nat}, drawJ P T M ops tb L V s K l → ∀ j, j ∈ l → wStep P T M ops j s (fun s1 => fW s1 fun s1 => stillW P T M ops s s1 (dropT tb j V) ∧ K (j :: L) (dropT tb j V) s1)
  | [], _, j, hj => nomatch hj
  | k :: r, h, j, hj => by
    rcases List.mem_cons.1 hj with e | hj
    · subst e; exact h.1
    · exact drawJ_inv h.2 j hj
theorem drawW_ok (H : LyOK P T.L) {tb : DrT} (htb : tabOK ops tb = true) : ∀ {n : Nat} {L V : List Nat} {s : DS}, drawW P T M ops tb n L V s K → Sch P T ops n L V s K
  | 0, L, V, s, h => h.elim
  | n + 1, L, V, s, h => by
    simp only [drawW] at h
    split at h
    · rename_i hall
      exact .inl ⟨fun k hk => List.contains_iff_mem.1 (by rw [← hasB_eq]; exact List.all_eq_true.1 hall k (List.mem_range.2 hk)), h⟩
    · split at h
      · rename_i i t d hf
        obtain ⟨h0, h1, h2, h3, h4, h5, h6⟩ := firstA_some hf
        have hi := List.mem_range.1 h0
        have := aheadK_inv h
        rw [fW_eq] at this
        rcases h6 with ⟨d', e', h6⟩ | ⟨e', _⟩
        · cases e'
          exact .inr (.inl ⟨i, t, d, h1, h2, by rw [← tab_rdy htb hi]; exact h3, tab_alone htb hi h4, h5, h6, drawW_ok H htb this⟩)
        · cases e'
      · rename_i i t hf
        obtain ⟨h0, h1, h2, h3, h4, h5, h6⟩ := firstA_some hf
        have hi := List.mem_range.1 h0
        rcases h6 with ⟨d', e', _⟩ | ⟨_, o, ho, hdst, hr, hc⟩
        · cases e'
        · rw [ho] at h
          simp only at h
          have hk : riskK o.op = true := by
            unfold riskR at hr
            simp only [Bool.and_eq_true] at hr
            exact hr.1
          obtain ⟨s1, q1, q2⟩ := sm_inv (wOp_read hk h)
          split at q2
          · rename_i d hd
            have := aheadK_inv q2.2
            rw [fW_eq] at this
            exact .inr (.inl ⟨i, t, d, h1, h2, by rw [← tab_rdy htb hi]; exact h3, tab_alone htb hi h4, h5, risk_roV ho hdst hr hc q1 hd q2.1, drawW_ok H htb this⟩)
          · exact q2.elim
      · split at h
        · exact h.elim
        · rename_i hne
          have hj := drawJ_inv h
          have hmem : ∀ j, j < ops.size → j ∉ L → rdy ops L j = true → j ∈ readyT tb ops.size L := fun j h1 h2 h3 => by
            refine List.mem_filter.2 ⟨List.mem_range.2 h1, ?_⟩
            rw [hasB_eq, tab_rdy htb h1]
            have : L.contains j = false := by
              cases hh : L.contains j with
              | false => rfl
              | true => exact absurd (List.contains_iff_mem.1 hh) h2
            rw [this, h3]
            rfl
          refine .inr (.inr (.inl ⟨?_, fun j h1 h2 h3 => ?_⟩))
          · obtain ⟨j, r, e⟩ := List.exists_cons_of_ne_nil (show readyT tb ops.size L ≠ [] from fun e => hne e)
            have : j ∈ readyT tb ops.size L := by rw [e]; simp
            obtain ⟨q1, q2⟩ := List.mem_filter.1 this
            simp only [hasB_eq, Bool.and_eq_true, Bool.not_eq_true'] at q2
            exact ⟨j, List.mem_range.1 q1, fun hm => by rw [List.contains_iff_mem.2 hm] at q2; cases q2.1⟩
          · have hst := hj j (hmem j h1 h2 h3)
            refine (wStep_ok H hst).mono fun s2 h4 => ?_
            rw [fW_eq, tab_drop htb h1] at h4
            exact ⟨stillW_ok h4.1, drawW_ok H htb h4.2⟩
theorem wC_ok (H : LyOK P T.L) (hm : P.follows .mixedOrders = true) {lv : List Nat} : ∀ {c : Code} {s : DS} {Q : Ex → DS → Prop}, wC P T M lv c s Q → Ok P T c s Q := by
  intro c
  induction c with
  | skip => intro s Q h; exact Ok.skip h
  | label l => intro s Q h; exact Ok.label h
  | exit id => intro s Q h; exact Ok.exit h
  | ret => intro s Q h; exact Ok.ret h
  | seq x y ihx ihy =>
    intro s Q h
    simp only [wC] at h
    split at h
    · rw [fW_eq] at h; exact h
    refine Ok.seq ((ihx h).mono fun e s1 h1 => ?_)
    cases e with
    | nx => exact ihy h1
    | out id => exact h1
    | ret => exact h1
  | cond co x y ihx ihy =>
    intro s Q h
    simp only [wC] at h
    split at h
    · rename_i hb; exact Ok.condT hb (ihx h)
    · rename_i hb; exact Ok.condF hb (ihy h)
    · exact h.elim
  | block id c ih => intro s Q h; exact Ok.block (ih h)
  | scope c ih => intro s Q h; exact Ok.scope (ih h)
  | region id ops dr =>
    intro s Q h
    have hq : ∀ x s', nrm lv s' (Q x) → Q x (resetS (Lv.prune lv s')) := fun x s' h => by unfold nrm at h; rwa [fW_eq] at h
    cases dr with
    | false => exact nrm_ok (lv := lv) (Q' := fun x s' => nrm lv s' (Q x)) (Ok.region (wOps_ok H h)) hq
    | true =>
      obtain ⟨tb, hwf, h⟩ := h
      rw [Bool.and_eq_true] at hwf
      exact nrm_ok (lv := lv) (Q' := fun x s' => nrm lv s' (Q x)) (Ok.draw (Q := fun x s' => nrm lv s' (Q x)) H hm hwf.1 (drawW_ok H hwf.2 h)) hq
  | _ => intro s Q h; exact h

theorem Tri.walk2 {f ro : Nat} {args : List D} {sto : List Ob} {R : D → List Ob → Prop} {fn : Func} {code : Code} {L : Ly} {c : FC} (M : Ms) (lv : List Nat) (H : LyOK P L) (hm : P.follows .mixedOrders = true) (hf : P.funcs[f]? = some fn) (hb : fn.body = some code) (hn : (fn.name == "runtime.NumGoroutine") = false) (hc : c.n = fn.ntmps ∧ c.kp = []) (hl : args.length ≤ fn.ntmps) (hro : ro ≤ sto.length)
    (h : wC P ⟨L, c, ro, sto.length⟩ M lv code (s0 ro args sto) (fun x s' => match x with
      | .out _ => False
      | _ => sm2 (resD L ro s' fn.results.toList) R)) : Tri P f ro args sto R := by
  refine Tri.of_ok (L := L) (c := c) H hf hb hn hc hl hro ((wC_ok (T := ⟨L, c, ro, sto.length⟩) H hm h).mono fun x s' hx => ?_)
  have fin : sm2 (resD L ro s' fn.results.toList) R → ∃ d s'', resD L ro s' fn.results.toList = some (d, s'') ∧ R d s''.sto := by
    intro h
    unfold sm2 at h
    split at h
    · rename_i d s'' he
      rw [fT_eq, fMap_eq (fun x k => by cases x <;> simp only [fOb2, fMap_eq fC_eq])] at h
      exact ⟨d, s'', he, h⟩
    · exact h.elim
  cases x with
  | nx => exact fin hx
  | out id => exact hx
  | ret => exact fin hx
end

end Go.Lv

namespace Go.Lv
open Go

section
variable {P : Program} {T : St} {X : Ctx} {G G1 : Gh} {s s1 : DS} {a a1 : Act} {w w1 w' : World} {m : Mt}

end

end Go.Lv

namespace Go.Lv
open Go

section
variable {P : Program} {T : St} {X : Ctx} {G G1 : Gh} {s s1 : DS} {a a1 : Act} {w w1 w' : World} {m : Mt} {t k : Nat} {es left : List (D × D)} {last : Option MapEntry}

end

end Go.Lv

namespace Go.Lv
open Go

section
variable {P : Program} {T : St} {X : Ctx} {G G1 : Gh} {s s1 : DS} {a a1 : Act} {w w1 w' : World} {m : Mt} {t k : Nat} {es left : List (D × D)} {last : Option MapEntry}

noncomputable def nmB (lv bs : List Nat) (s : DS) : DS := resetS { s with env := keep lv s.env, loc := keep bs s.loc }
theorem Rel.nmB (h : Rel X G s a w) (lv bs : List Nat) : Rel X G (Lv.nmB lv bs s) a w :=
  (h.less (keep lv s.env) (keep bs s.loc) (fun t d ht => lk_keep lv t _ d ht) (fun t d ht => lk_keep bs t _ d ht)).reset
end

end Go.Lv

namespace Go.Lv

theorem Tri.pureR {P : Program} {f : Nat} {args : List D} {R : D → Prop} (h : Tri P f 0 args [] (fun d' l => R d' ∧ l = [])) (ha : args.all cellsOK = true) (hn : nrBL 0 args = true) (hd : ∀ d, R d → partsOK d = true ∧ nrB 0 d = true) {r : Nat} {sto : List Ob} (hr : r ≤ sto.length) :
    Tri P f r args sto (fun d' l => R d' ∧ l = sto) := by
  have := Tri.ren (r := r) (sto := sto) (fun k => k) h (fun i j hi => by cases hi) (fun i o hi => by simp at hi) (fun i hi => by cases hi) hr ha (fun x hx => nrBL_nr hn x hx) (fun o ho => by cases ho) rfl (fun d' l ⟨h1, h2⟩ => by subst h2; exact ⟨(hd _ h1).1, rfl⟩)
  rw [renL_id _ hn] at this
  refine this.mono fun d' l ⟨d1, l1, ⟨h1, h2⟩, h3, h4⟩ => ?_
  subst h2
  refine ⟨by rw [h3, renD_id _ (hd _ h1).2]; exact h1, by rw [h4]; simp [backSto]⟩
end Go.Lv

namespace Go.Lv
open Go

end Go.Lv

namespace Go.Lv
open Go

section
variable {P : Program} {T : St} {X : Ctx} {G : Gh} {s : DS} {a : Act} {w : World} {M : Ms} {Q : Ex → DS → Prop}
theorem Ok.nmB {c : Code} (lv bs : List Nat) (h : Ok P T c (Lv.nmB lv bs s) Q) : Ok P T c s Q := fun X G a w hX hR => h X G a w hX (hR.nmB lv bs)
theorem Ok.loopN (H : LyOK P T.L) (hm : P.follows .mixedOrders = true) (M : Ms) (lv lv0 bs : List Nat) {c : Code} (I : Nat → DS → Prop) {n : Nat} (h0 : I n (Lv.nmB lv0 bs s))
    (hr : ∀ n s, I n s → wC P T M lv c s (Ex.then (fun s' => ∃ k, k < n ∧ I k (Lv.nmB lv0 bs s')) Q)) : Ok P T (.loop c) s Q :=
  Ok.loop (fun n s => I n (Lv.nmB lv0 bs s)) h0 fun n s h => Ok.nmB lv0 bs (wC_ok H hm (hr n _ h))
theorem wrap64 {z : Int} (h1 : -9223372036854775808 ≤ z) (h2 : z ≤ 9223372036854775807) : IntKind.i64.wrap z = z := by
  rw [IntKind.wrap_i64]; omega
end
end Go.Lv

namespace Go.Lv

theorem mapEntry_new {T : St} {s : DS} {o : Oper} {K : DS → Prop} {t n kt e : Nat} {m k : Operand} {key z : D} {es : List (D × D)} (ho : o.op = .mapEntry t m k) (hm : lookO s m = some (.map n)) (hk : lookO s k = some key) (ht : T.L.tk t = .map kt e)
    (hc : (decide (T.ro ≤ n) && keyT T.L kt key) = true) (hs : s.sto[n]? = some (.map es)) (hz : zeroD T.L e = some z) (hf : findE T.L kt key es = some none) (hkc : keyC z = true)
    (h : Lv.sm (put T.c o.dst (.tup [z, .stamp s.m.era n es.length]) { s with sto := s.sto.set n (.map (es ++ [(key, z)])) }) fun s => fW s K) : anyW T s o K := by
  have hop : opD T.L T.c T.ro s o = put T.c o.dst (.tup [z, .stamp s.m.era n es.length]) { s with sto := s.sto.set n (.map (es ++ [(key, z)])) } := by
    simp only [opD, ho, hm, hk, mapEntryD, ht]
    rw [if_pos hc, hs, hz]
    simp only [hf]
    rw [if_pos hkc]
  unfold anyW
  rw [hop]
  exact sm_iff.1 h
theorem entryStore_any {T : St} {s : DS} {o : Oper} {K : DS → Prop} {t n e i : Nat} {m st x : Operand} {v : D} {y : D × D} {es : List (D × D)} (ho : o.op = .entryStore t m st x) (hm : lookO s m = some (.map n)) (hst : lookO s st = some (.stamp e n i)) (hx : lookO s x = some v)
    (hc : (decide (T.ro ≤ n) && n == n && e == s.m.era && keyC v) = true) (hs : s.sto[n]? = some (.map es)) (hi : es[i]? = some y)
    (h : Lv.sm (voidS T.c o.dst { s with sto := s.sto.set n (.map (es.set i (y.1, v))) }) fun s => fW s K) : anyW T s o K := by
  have hop : opD T.L T.c T.ro s o = voidS T.c o.dst { s with sto := s.sto.set n (.map (es.set i (y.1, v))) } := by
    simp only [opD, ho, hm, hst, hx, entryStoreD]
    rw [if_pos hc, hs]
    simp only [hi]
  unfold anyW
  rw [hop]
  exact sm_iff.1 h
end Go.Lv

namespace Go.Lv
open Go.Proofs

theorem hmix : Tryz.prog.follows .mixedOrders = true := by kernel_rfl
theorem row_at {α : Type} {f : α → List D} (l : List α) {i : Nat} (hi : i < l.length) : (l.map f)[((i : Nat) : Int).toNat]? = some (f l[i]) := by
  rw [Int.toNat_natCast, List.getElem?_map, List.getElem?_eq_getElem hi]
  rfl
theorem wrap_succ {i n : Nat} (hi : i < n) (hn : n ≤ 1000000000000000) : IntKind.i64.wrap ((i : Int) + 1) = ((i + 1 : Nat) : Int) := by
  rw [wrap64 (by omega) (by omega)]
  omega
theorem row_at' {α : Type} (f : α → List D) (l : List α) {n : Int} {i : Nat} (h : n = (i : Int)) (hi : i < l.length) : (l.map f)[n.toNat]? = some (f l[i]) := by
  rw [h]
  exact row_at l hi
theorem nd_true {p : Prop} [Decidable p] (h : (!decide p) = true) : ¬ p := by simpa using h
theorem nd_false {p : Prop} [Decidable p] (h : (!decide p) = false) : p := by simpa using h
theorem NR.up {k k' : Nat} (h : k ≤ k') {d : D} (hd : NR k d) : NR k' d := by
  induction hd with
  | gptr j o hj => exact .gptr _ _ (Nat.lt_of_lt_of_le hj h)
  | map j hj => exact .map _ (Nat.lt_of_lt_of_le hj h)
  | fn f ds _ ih => exact .fn _ _ ih
  | list q xs _ ih => exact .list _ _ ih
  | agg cs _ ih => exact .agg _ ih
  | tup cs _ ih => exact .tup _ ih
  | int k n => exact .int _ _
  | bool b => exact .bool _
  | str s => exact .str _
  | nil => exact .nil
  | nilmap => exact .nilmap
  | nilfn => exact .nilfn
  | dead => exact .dead
theorem Tri.one {f : Nat} {o : Ob} {R : D → List Ob → Prop} (h : Tri Tryz.prog f 0 [.gptr 0 0] [o] R) (ho : nrO 0 o = true) (hbx : ([o].drop 0).all boxOK = true)
    (hok : ∀ d l, R d l → partsOK d = true ∧ (l.drop 0).all boxOK = true) {r b : Nat} {sto : List Ob} (hr : r ≤ b) (hb : sto[b]? = some o) (hid : ∀ ρ, renO ρ o = o) :
    Tri Tryz.prog f r [.gptr b 0] sto (fun d l => ∃ d' l', R d' l' ∧ d = renD (extR (fun _ => b) 1 sto.length) d' ∧ l = backSto (fun _ => b) 1 sto l') := by
  have hlt : b < sto.length := (List.getElem?_eq_some_iff.1 hb).1
  exact Tri.ren (r := r) (sto := sto) (fun _ => b) h (fun i j hi hj e => by
      have hi : i < 1 := hi
      have hj : j < 1 := hj
      omega) (fun i o' hi => by
      match i, hi with
      | 0, hi =>
        have : o' = o := by simpa using hi.symm
        rw [this, hid]
        exact hb
      | i + 1, hi => simp at hi) (fun i hi => ⟨fun h => absurd h (Nat.not_lt_zero _), fun h => by have : b < r := h; omega⟩) (by omega) rfl (fun x hx => by
      have : x = .gptr 0 0 := by simpa using hx
      rw [this]
      exact .gptr _ _ (by show 0 < 1; omega)) (fun o' ho' => by
      have : o' = o := by simpa using ho'
      rw [this]
      have h := nrO_nr (k := 0) ho
      cases o with
      | box cs => exact fun d hd => (h d hd).up (Nat.zero_le _)
      | map es => trivial) hbx hok
theorem nrBLL_I : ∀ l : List Int, nrBLL 0 (l.map rowI) = true
  | [] => rfl
  | b :: r => by
    show (nrBL 0 (rowI b) && nrBLL 0 (r.map rowI)) = true
    rw [nrBLL_I r]
    rfl
end Go.Lv

namespace Go.Lv
open Go.Proofs

structure Stp where
  ord : Int
  drop : Bool
  deriving DecidableEq
structure Rte where
  drv : Int
  srv : Int
  st : List Stp
  deriving DecidableEq
abbrev Pln := List Rte
noncomputable def rowS (s : Stp) : List D := [.int .i64 s.ord, .bool s.drop]
noncomputable def rowR (r : Rte) : List D := [.int .i64 r.drv, .int .i64 r.srv, .list .imm (r.st.map rowS)]
noncomputable def encP (p : Pln) : D := .list .imm (p.map rowR)
theorem nrBLL_S : ∀ l : List Stp, nrBLL 0 (l.map rowS) = true
  | [] => rfl
  | b :: r => by
    show (nrBL 0 (rowS b) && nrBLL 0 (r.map rowS)) = true
    rw [nrBLL_S r]
    rfl
theorem nrBLL_P : ∀ l : Pln, nrBLL 0 (l.map rowR) = true
  | [] => rfl
  | b :: r => by
    show ((true && (true && (nrBLL 0 (b.st.map rowS) && true))) && nrBLL 0 (r.map rowR)) = true
    rw [nrBLL_P r, nrBLL_S]
    rfl
theorem nrBL_S {l : List Stp} {ds : List D} (hd : nrBL 0 ds = true) : nrBL 0 (.list .imm (l.map rowS) :: ds) = true := by
  show (nrBLL 0 (l.map rowS) && nrBL 0 ds) = true
  rw [nrBLL_S, hd]
  rfl
theorem nrBL_P {l : Pln} {ds : List D} (hd : nrBL 0 ds = true) : nrBL 0 (encP l :: ds) = true := by
  show (nrBLL 0 (l.map rowR) && nrBL 0 ds) = true
  rw [nrBLL_P, hd]
  rfl
noncomputable def idxA (s : Stp) : Nat → List Stp → Int
  | _, [] => -1
  | i, x :: r => if x = s then (i : Int) else idxA s (i + 1) r
noncomputable def idxS (l : List Stp) (s : Stp) : Int := idxA s 0 l
theorem idxA_at {s : Stp} {l : List Stp} {i : Nat} (h : i < l.length) : idxA s i (l.drop i) = if l[i] = s then (i : Int) else idxA s (i + 1) (l.drop (i + 1)) := by
  rw [List.drop_eq_getElem_cons h]
  rfl
theorem stp_eq {a b : Stp} (h : (decide (a.ord = b.ord) && (a.drop == b.drop && true)) = true) : a = b := by
  obtain ⟨x, y⟩ := a
  obtain ⟨z, w⟩ := b
  simp only [Bool.and_true, Bool.and_eq_true, decide_eq_true_eq, beq_iff_eq] at h
  obtain ⟨rfl, rfl⟩ := h
  rfl
theorem stp_ne {a b : Stp} (h : (decide (a.ord = b.ord) && (a.drop == b.drop && true)) = false) : a ≠ b := by
  rintro rfl
  simp at h
noncomputable def sIx (l : List Stp) (v : Stp) (i : Nat) : DS := ⟨[(0, .list .imm (l.map rowS)), (3, .lptr 3 0 0), (7, .int .i64 (l.length : Int)), (8, .int .i64 (i : Int)), (4, .int .i64 0)], [(3, rowS v)], [], mR 0⟩
set_option maxHeartbeats 4000000 in
theorem c_slices_Index_Stop_0 (l : List Stp) (hl : l.length ≤ 1000000000000000) (v : Stp) : Tri Tryz.prog 119 0 [.list .imm (l.map rowS), .agg (rowS v)] [] (fun d k => d = .int .i64 (idxS l v) ∧ k = []) := by
  refine Tri.walk2 (L := LT) (c := {n := 19, ko := [4]}) [] [0, 1, 3, 4, 5, 7, 8, 9, 16] hLT hmix Tryz.func119 rfl rfl ⟨rfl, rfl⟩ (by show 2 ≤ 19; decide) (by first | exact Nat.zero_le _ | exact Nat.le_refl _ | exact Nat.le_succ 1 | decide) ?_
  show Ok _ _ _ _ _
  refine Ok.loopN hLT hmix [] [0, 1, 3, 4, 5, 7, 8, 9, 16] [0,3,7,8,4] [3] (fun n s => ∃ i : Nat, n = l.length - i ∧ i ≤ l.length ∧ idxA v i (l.drop i) = idxS l v ∧ s = sIx l v i) (n := l.length) ⟨0, rfl, Nat.zero_le _, rfl, by unfold sIx; rw [← List.length_map (f := rowS)]; rfl⟩ ?_
  rintro n s ⟨i, rfl, hi, hix, rfl⟩
  refine And.intro (fun h1 => ?_) (fun h1 => ?_)
  · have h1 : ((i : Nat) : Int) < (l.length : Int) := of_decide_eq_true h1
    have hw := wrap_succ (i := i) (n := l.length) (by omega) hl
    rw [idxA_at (by omega)] at hix
    refine ⟨⟨63, [0, 0, 0, 6, 8, 17], [1, 2, 4, 14, 30, 63]⟩, by kernel_rfl, ?_⟩
    refine ⟨(l).map rowS, rowS ((l)[i]'(by omega)), rfl, by omega, row_at' rowS (l) (by omega) (by omega), rfl, of_decide_eq_true rfl, ?_⟩
    refine And.intro rfl ?_
    refine And.intro (fun h2 => ?_) (fun h2 => ?_)
    · have h2 := stp_eq h2
      rw [if_pos h2.symm] at hix
      rw [← hix]
      exact And.intro rfl rfl
    · have h2 := stp_ne h2
      rw [if_neg (fun e => h2 e.symm)] at hix
      refine ⟨l.length - (i + 1), by omega, i + 1, rfl, by omega, hix, ?_⟩
      unfold sIx
      rw [← hw]
      rfl
  · have h1 : ¬ ((i : Nat) : Int) < (l.length : Int) := of_decide_eq_false h1
    rw [List.drop_eq_nil_of_le (by omega)] at hix
    rw [← hix]
    exact And.intro rfl rfl
theorem c_slices_Index_Stop (l : List Stp) (hl : l.length ≤ 1000000000000000) (v : Stp) {r : Nat} {sto : List Ob} (hr : r ≤ sto.length) : Tri Tryz.prog 119 r [.list .imm (l.map rowS), .agg (rowS v)] sto (fun d k => d = .int .i64 (idxS l v) ∧ k = sto) :=
  (c_slices_Index_Stop_0 l hl v).pure rfl (nrBL_S rfl) rfl rfl hr
noncomputable def sIw (l : List Stp) (v : Stp) (i : Nat) : DS := ⟨[(0, .list .imm (l.map rowS)), (3, .lptr 3 0 0), (5, .int .i64 (i : Int)), (4, .int .i64 0)], [(3, rowS v)], [], mR 0⟩
set_option maxHeartbeats 4000000 in
theorem c_drayref9_where_0 (l : List Stp) (hl : l.length ≤ 1000000000000000) (v : Stp) : Tri Tryz.prog 153 0 [.list .imm (l.map rowS), .agg (rowS v)] [] (fun d k => d = .int .i64 (idxS l v) ∧ k = []) := by
  refine Tri.walk2 (L := LT) (c := {n := 19, ko := [4]}) [] [0, 1, 3, 4, 5, 9, 17] hLT hmix Tryz.func153 rfl rfl ⟨rfl, rfl⟩ (by show 2 ≤ 19; decide) (by first | exact Nat.zero_le _ | exact Nat.le_refl _ | exact Nat.le_succ 1 | decide) ?_
  show Ok _ _ _ _ _
  refine Ok.loopN hLT hmix [] [0, 1, 3, 4, 5, 9, 17] [0,3,5,4] [3] (fun n s => ∃ i : Nat, n = l.length - i ∧ i ≤ l.length ∧ idxA v i (l.drop i) = idxS l v ∧ s = sIw l v i) (n := l.length) ⟨0, rfl, Nat.zero_le _, rfl, rfl⟩ ?_
  rintro n s ⟨i, rfl, hi, hix, rfl⟩
  refine And.intro (fun h1 => ?_) (fun h1 => ?_)
  · have h1 : ((i : Nat) : Int) < ((l.map rowS).length : Int) := of_decide_eq_true h1
    rw [List.length_map] at h1
    have hw := wrap_succ (i := i) (n := l.length) (by omega) hl
    rw [idxA_at (by omega)] at hix
    refine ⟨⟨63, [0, 0, 3, 4, 0, 24], [1, 2, 7, 15, 16, 63]⟩, by kernel_rfl, ?_⟩
    refine ⟨(l).map rowS, rowS ((l)[i]'(by omega)), rfl, by omega, row_at' rowS (l) (by omega) (by omega), rfl, of_decide_eq_true rfl, ?_⟩
    refine And.intro rfl ?_
    refine And.intro (fun h2 => ?_) (fun h2 => ?_)
    · have h2 := stp_eq h2
      rw [if_pos h2] at hix
      rw [← hix]
      exact And.intro rfl rfl
    · have h2 := stp_ne h2
      rw [if_neg h2] at hix
      refine ⟨l.length - (i + 1), by omega, i + 1, rfl, by omega, hix, ?_⟩
      unfold sIw
      rw [← hw]
      rfl
  · have h1 : ¬ ((i : Nat) : Int) < ((l.map rowS).length : Int) := of_decide_eq_false h1
    rw [List.length_map] at h1
    rw [List.drop_eq_nil_of_le (by omega)] at hix
    rw [← hix]
    exact And.intro rfl rfl
theorem c_drayref9_where (l : List Stp) (hl : l.length ≤ 1000000000000000) (v : Stp) {r : Nat} {sto : List Ob} (hr : r ≤ sto.length) : Tri Tryz.prog 153 r [.list .imm (l.map rowS), .agg (rowS v)] sto (fun d k => d = .int .i64 (idxS l v) ∧ k = sto) :=
  (c_drayref9_where_0 l hl v).pure rfl (nrBL_S rfl) rfl rfl hr

structure Spt where
  drv : Int
  pick : Int
  drop : Int
  cost : Int
  deriving DecidableEq
noncomputable def encSpt (s : Spt) : D := .agg [.int .i64 s.drv, .int .i64 s.pick, .int .i64 s.drop, .int .i64 s.cost]
noncomputable def findP (o : Int) : Pln → Option Spt
  | [] => none
  | r :: p => if idxS r.st ⟨o, false⟩ ≥ 0 ∨ idxS r.st ⟨o, true⟩ ≥ 0 then some ⟨r.drv, idxS r.st ⟨o, false⟩, idxS r.st ⟨o, true⟩, 0⟩ else findP o p
noncomputable def findD (o : Int) (p : Pln) : D := match findP o p with
  | some s => .tup [encSpt s, .bool true]
  | none => .tup [encSpt ⟨0, 0, 0, 0⟩, .bool false]
theorem findP_at {o : Int} {p : Pln} {i : Nat} (h : i < p.length) : findP o (p.drop i) = if idxS p[i].st ⟨o, false⟩ ≥ 0 ∨ idxS p[i].st ⟨o, true⟩ ≥ 0 then some ⟨p[i].drv, idxS p[i].st ⟨o, false⟩, idxS p[i].st ⟨o, true⟩, 0⟩ else findP o (p.drop (i + 1)) := by
  rw [List.drop_eq_getElem_cons h]
  rfl
structure szP (p : Pln) : Prop where
  len : p.length ≤ 1000000000000000
  st : ∀ r, r ∈ p → r.st.length ≤ 1000000000000000
noncomputable def sFi (p : Pln) (o : Int) (i : Nat) : DS := ⟨[(1, .int .i64 o), (9, encP p), (10, .int .i64 (p.length : Int)), (11, .int .i64 (i : Int)), (4, .lptr 4 0 0), (5, .bool false)], [(4, [.int .i64 0, .int .i64 0, .int .i64 0, .int .i64 0])], [], mR 0⟩
set_option maxHeartbeats 4000000 in
theorem c_plan_Find_0 (p : Pln) (hp : szP p) (o : Int) : Tri Tryz.prog 72 0 [encP p, .int .i64 o] [] (fun d k => d = findD o p ∧ k = []) := by
  refine Tri.walk2 (L := LT) (c := {n := 39, ko := [5], kb := [4]}) [] [0, 1, 4, 5, 7, 8, 9, 10, 11, 12, 35] hLT hmix Tryz.func72 rfl rfl ⟨rfl, rfl⟩ (by show 2 ≤ 39; decide) (by first | exact Nat.zero_le _ | exact Nat.le_refl _ | exact Nat.le_succ 1 | decide) ?_
  show Ok _ _ _ _ _
  refine Ok.loopN hLT hmix [] [0, 1, 4, 5, 7, 8, 9, 10, 11, 12, 35] [1,9,10,11,4,5] [4] (fun n s => ∃ i : Nat, n = p.length - i ∧ i ≤ p.length ∧ findP o (p.drop i) = findP o p ∧ s = sFi p o i) (n := p.length) ⟨0, rfl, Nat.zero_le _, rfl, by unfold sFi; rw [← List.length_map (f := rowR)]; rfl⟩ ?_
  rintro n s ⟨i, rfl, hi, hix, rfl⟩
  unfold findD
  refine And.intro (fun h1 => ?_) (fun h1 => ?_)
  · have h1 : ((i : Nat) : Int) < (p.length : Int) := of_decide_eq_true h1
    have hw := wrap_succ (i := i) (n := p.length) (by omega) hp.len
    have hst := hp.st p[i] (List.getElem_mem _)
    rw [findP_at (by omega)] at hix
    refine ⟨(p).map rowR, rowR ((p)[i]'(by omega)), rfl, by omega, row_at' rowR (p) (by omega) (by omega), rfl, of_decide_eq_true rfl, ?_⟩
    refine ⟨⟨16383, [0, 1, 0, 4, 0, 16, 40, 0, 128, 0, 512, 1344, 2114, 0, 16383], [1, 3, 4, 12, 16, 48, 124, 128, 384, 512, 1536, 4092, 8191, 8192, 32767]⟩, by kernel_rfl, ?_⟩
    refine And.intro ?_ (And.intro ?_ trivial)
    rotate_left
    refine And.intro (by repeat (first | exact trivial | refine And.intro ⟨rfl, rfl⟩ ?_)) ?_
    refine And.intro ?_ trivial
    refine ⟨rfl, (by first | exact Nat.zero_le _ | exact Nat.le_refl _ | exact Nat.le_succ 1 | decide), (c_slices_Index_Stop p[i].st hst ⟨o, false⟩ (r := 0) (sto := []) (Nat.le_refl 0)).mono ?_⟩
    rintro d l ⟨rfl, rfl⟩
    refine ⟨rfl, fun _ _ => rfl, rfl, ?_⟩
    refine And.intro (by repeat (first | exact trivial | refine And.intro ⟨rfl, rfl⟩ ?_)) ?_
    refine And.intro ?_ trivial
    refine ⟨rfl, (by first | exact Nat.zero_le _ | exact Nat.le_refl _ | exact Nat.le_succ 1 | decide), (c_slices_Index_Stop p[i].st hst ⟨o, true⟩ (r := 0) (sto := []) (Nat.le_refl 0)).mono ?_⟩
    rintro d l ⟨rfl, rfl⟩
    refine ⟨rfl, fun _ _ => rfl, rfl, ?_⟩
    refine And.intro (by repeat (first | exact trivial | refine And.intro ⟨rfl, rfl⟩ ?_)) ?_
    refine And.intro ?_ trivial
    refine And.intro (by repeat (first | exact trivial | refine And.intro ⟨rfl, rfl⟩ ?_)) ?_
    rotate_left
    refine ⟨rfl, (by first | exact Nat.zero_le _ | exact Nat.le_refl _ | exact Nat.le_succ 1 | decide), (c_slices_Index_Stop p[i].st hst ⟨o, false⟩ (r := 0) (sto := []) (Nat.le_refl 0)).mono ?_⟩
    rintro d l ⟨rfl, rfl⟩
    refine ⟨rfl, fun _ _ => rfl, rfl, ?_⟩
    refine And.intro (by repeat (first | exact trivial | refine And.intro ⟨rfl, rfl⟩ ?_)) ?_
    refine And.intro ?_ (And.intro ?_ trivial)
    rotate_left
    refine And.intro (by repeat (first | exact trivial | refine And.intro ⟨rfl, rfl⟩ ?_)) ?_
    refine And.intro ?_ trivial
    refine ⟨rfl, (by first | exact Nat.zero_le _ | exact Nat.le_refl _ | exact Nat.le_succ 1 | decide), (c_slices_Index_Stop p[i].st hst ⟨o, true⟩ (r := 0) (sto := []) (Nat.le_refl 0)).mono ?_⟩
    rintro d l ⟨rfl, rfl⟩
    refine ⟨rfl, fun _ _ => rfl, rfl, ?_⟩
    refine And.intro (by repeat (first | exact trivial | refine And.intro ⟨rfl, rfl⟩ ?_)) ?_
    refine And.intro ?_ trivial
    refine And.intro (by repeat (first | exact trivial | refine And.intro ⟨rfl, rfl⟩ ?_)) ?_
    rotate_left
    rotate_left
    refine ⟨rfl, (by first | exact Nat.zero_le _ | exact Nat.le_refl _ | exact Nat.le_succ 1 | decide), (c_slices_Index_Stop p[i].st hst ⟨o, true⟩ (r := 0) (sto := []) (Nat.le_refl 0)).mono ?_⟩
    rintro d l ⟨rfl, rfl⟩
    refine ⟨rfl, fun _ _ => rfl, rfl, ?_⟩
    refine And.intro (by repeat (first | exact trivial | refine And.intro ⟨rfl, rfl⟩ ?_)) ?_
    refine And.intro ?_ trivial
    refine And.intro (by repeat (first | exact trivial | refine And.intro ⟨rfl, rfl⟩ ?_)) ?_
    refine And.intro ?_ trivial
    refine And.intro (by repeat (first | exact trivial | refine And.intro ⟨rfl, rfl⟩ ?_)) ?_
    all_goals
      refine And.intro (fun h2 => ?_) (fun h2 => ?_)
      · repeat (first | refine And.intro (fun _ => ?_) (fun h => Bool.noConfusion h) | refine And.intro (fun h => Bool.noConfusion h) (fun _ => ?_))
        have h2 : idxS p[i].st ⟨o, false⟩ ≥ 0 := of_decide_eq_true h2
        rw [if_pos (.inl h2)] at hix
        rw [← hix]
        exact And.intro rfl rfl
      · repeat (first | refine And.intro (fun _ => ?_) (fun h => Bool.noConfusion h) | refine And.intro (fun h => Bool.noConfusion h) (fun _ => ?_))
        have h2 : ¬ idxS p[i].st ⟨o, false⟩ ≥ 0 := of_decide_eq_false h2
        refine And.intro (fun h3 => ?_) (fun h3 => ?_)
        · repeat (first | refine And.intro (fun _ => ?_) (fun h => Bool.noConfusion h) | refine And.intro (fun h => Bool.noConfusion h) (fun _ => ?_))
          have h3 : idxS p[i].st ⟨o, true⟩ ≥ 0 := of_decide_eq_true h3
          rw [if_pos (.inr h3)] at hix
          rw [← hix]
          exact And.intro rfl rfl
        · repeat (first | refine And.intro (fun _ => ?_) (fun h => Bool.noConfusion h) | refine And.intro (fun h => Bool.noConfusion h) (fun _ => ?_))
          have h3 : ¬ idxS p[i].st ⟨o, true⟩ ≥ 0 := of_decide_eq_false h3
          rw [if_neg (fun h => h.elim h2 h3)] at hix
          refine ⟨p.length - (i + 1), by omega, i + 1, rfl, by omega, hix, ?_⟩
          unfold sFi
          rw [← hw]
          rfl
  · have h1 : ¬ ((i : Nat) : Int) < (p.length : Int) := of_decide_eq_false h1
    rw [List.drop_eq_nil_of_le (by omega)] at hix
    rw [← hix]
    exact And.intro rfl rfl
theorem findD_ok (o : Int) (p : Pln) : partsOK (findD o p) = true ∧ nrB 0 (findD o p) = true := by
  unfold findD
  split <;> exact ⟨rfl, rfl⟩
theorem c_plan_Find (p : Pln) (hp : szP p) (o : Int) {r : Nat} {sto : List Ob} (hr : r ≤ sto.length) : Tri Tryz.prog 72 r [encP p, .int .i64 o] sto (fun d k => d = findD o p ∧ k = sto) :=
  (c_plan_Find_0 p hp o).pure rfl (nrBL_P rfl) (findD_ok o p).1 (findD_ok o p).2 hr
noncomputable def sFw (p : Pln) (o : Int) (i : Nat) : DS := ⟨[(0, encP p), (1, .int .i64 o), (6, .int .i64 (i : Int)), (4, .lptr 4 0 0), (5, .bool false)], [(4, [.int .i64 0, .int .i64 0, .int .i64 0, .int .i64 0])], [], mR 0⟩
set_option maxHeartbeats 4000000 in
theorem c_drayref9_Find_0 (p : Pln) (hp : szP p) (o : Int) : Tri Tryz.prog 97 0 [encP p, .int .i64 o] [] (fun d k => d = findD o p ∧ k = []) := by
  refine Tri.walk2 (L := LT) (c := {n := 46, ko := [5], kb := [4]}) [] [0, 1, 4, 5, 6, 7, 8, 12, 36] hLT hmix Tryz.func97 rfl rfl ⟨rfl, rfl⟩ (by show 2 ≤ 46; decide) (by first | exact Nat.zero_le _ | exact Nat.le_refl _ | exact Nat.le_succ 1 | decide) ?_
  show Ok _ _ _ _ _
  refine Ok.loopN hLT hmix [] [0, 1, 4, 5, 6, 7, 8, 12, 36] [0,1,6,4,5] [4] (fun n s => ∃ i : Nat, n = p.length - i ∧ i ≤ p.length ∧ findP o (p.drop i) = findP o p ∧ s = sFw p o i) (n := p.length) ⟨0, rfl, Nat.zero_le _, rfl, rfl⟩ ?_
  rintro n s ⟨i, rfl, hi, hix, rfl⟩
  unfold findD
  refine And.intro (fun h1 => ?_) (fun h1 => ?_)
  · have h1 : ((i : Nat) : Int) < ((p.map rowR).length : Int) := of_decide_eq_true h1
    rw [List.length_map] at h1
    have hw := wrap_succ (i := i) (n := p.length) (by omega) hp.len
    have hst := hp.st p[i] (List.getElem_mem _)
    rw [findP_at (by omega)] at hix
    refine ⟨(p).map rowR, rowR ((p)[i]'(by omega)), rfl, by omega, row_at' rowR (p) (by omega) (by omega), rfl, of_decide_eq_true rfl, ?_⟩
    refine ⟨rfl, (by first | exact Nat.zero_le _ | exact Nat.le_refl _ | exact Nat.le_succ 1 | decide), (c_drayref9_where p[i].st hst ⟨o, false⟩ (r := 0) (sto := []) (Nat.le_refl 0)).mono ?_⟩
    rintro d l ⟨rfl, rfl⟩
    refine ⟨rfl, fun _ _ => rfl, rfl, ?_⟩
    refine ⟨(p).map rowR, rowR ((p)[i]'(by omega)), rfl, by omega, row_at' rowR (p) (by omega) (by omega), rfl, of_decide_eq_true rfl, ?_⟩
    refine ⟨rfl, (by first | exact Nat.zero_le _ | exact Nat.le_refl _ | exact Nat.le_succ 1 | decide), (c_drayref9_where p[i].st hst ⟨o, true⟩ (r := 0) (sto := []) (Nat.le_refl 0)).mono ?_⟩
    rintro d l ⟨rfl, rfl⟩
    refine ⟨rfl, fun _ _ => rfl, rfl, ?_⟩
    refine And.intro (fun h2 => ?_) (fun h2 => ?_)
    · repeat (first | refine And.intro (fun _ => ?_) (fun h => Bool.noConfusion h) | refine And.intro (fun h => Bool.noConfusion h) (fun _ => ?_))
      have h2 : idxS p[i].st ⟨o, false⟩ ≥ 0 := of_decide_eq_true h2
      rw [if_pos (.inl h2)] at hix
      rw [← hix]
      refine ⟨(p).map rowR, rowR ((p)[i]'(by omega)), rfl, by omega, row_at' rowR (p) (by omega) (by omega), rfl, of_decide_eq_true rfl, ?_⟩
      exact And.intro rfl rfl
    · repeat (first | refine And.intro (fun _ => ?_) (fun h => Bool.noConfusion h) | refine And.intro (fun h => Bool.noConfusion h) (fun _ => ?_))
      have h2 : ¬ idxS p[i].st ⟨o, false⟩ ≥ 0 := of_decide_eq_false h2
      refine And.intro (fun h3 => ?_) (fun h3 => ?_)
      · repeat (first | refine And.intro (fun _ => ?_) (fun h => Bool.noConfusion h) | refine And.intro (fun h => Bool.noConfusion h) (fun _ => ?_))
        have h3 : idxS p[i].st ⟨o, true⟩ ≥ 0 := of_decide_eq_true h3
        rw [if_pos (.inr h3)] at hix
        rw [← hix]
        refine ⟨(p).map rowR, rowR ((p)[i]'(by omega)), rfl, by omega, row_at' rowR (p) (by omega) (by omega), rfl, of_decide_eq_true rfl, ?_⟩
        exact And.intro rfl rfl
      · repeat (first | refine And.intro (fun _ => ?_) (fun h => Bool.noConfusion h) | refine And.intro (fun h => Bool.noConfusion h) (fun _ => ?_))
        have h3 : ¬ idxS p[i].st ⟨o, true⟩ ≥ 0 := of_decide_eq_false h3
        rw [if_neg (fun h => h.elim h2 h3)] at hix
        refine ⟨p.length - (i + 1), by omega, i + 1, rfl, by omega, hix, ?_⟩
        unfold sFw
        rw [← hw]
        rfl
  · have h1 : ¬ ((i : Nat) : Int) < ((p.map rowR).length : Int) := of_decide_eq_false h1
    rw [List.length_map] at h1
    rw [List.drop_eq_nil_of_le (by omega)] at hix
    rw [← hix]
    exact And.intro rfl rfl
theorem c_drayref9_Find (p : Pln) (hp : szP p) (o : Int) {r : Nat} {sto : List Ob} (hr : r ≤ sto.length) : Tri Tryz.prog 97 r [encP p, .int .i64 o] sto (fun d k => d = findD o p ∧ k = sto) :=
  (c_drayref9_Find_0 p hp o).pure rfl (nrBL_P rfl) (findD_ok o p).1 (findD_ok o p).2 hr
end Go.Lv

namespace Go.Lv
open Go.Proofs

structure szQ (p : Pln) : Prop where
  len : p.length * 40 ≤ 140737488351232
  st : ∀ r, r ∈ p → r.st.length * 16 ≤ 140737488351232
theorem szQ.P {p : Pln} (h : szQ p) : szP p := ⟨by have := h.len; omega, fun r hr => by have := h.st r hr; omega⟩
theorem allLenS (l : List Stp) : allLen 2 (l.map rowS) = true := by simp [allLen, rowS]
noncomputable def sCp (p : Pln) (sz i : Nat) : DS := ⟨[(0, encP p), (3, .list (.own sz) ((p.take i).map rowR)), (4, .int .i64 (i : Int)), (2, .list (.own 0) [])], [], [], mR 0⟩
noncomputable def copD (p : Pln) (d : D) : Prop := ∃ sz, d = .list (.own sz) (p.map rowR) ∧ (sz = 0 ∨ sz = 3)
set_option maxHeartbeats 8000000 in
theorem c_draykeep_Copy_0 (p : Pln) (hp : szQ p) : Tri Tryz.prog 57 0 [encP p] [] (fun d l => copD p d ∧ l = []) := by
  refine Tri.walk2 (L := LT) (c := {n := 33, ko := [2, 3], xf := [11, 32]}) [] [0, 2, 3, 4, 8] hLT hmix Tryz.func57 rfl rfl ⟨rfl, rfl⟩ (by show 1 ≤ 33; decide) (by first | exact Nat.zero_le _ | exact Nat.le_refl _ | exact Nat.le_succ 1 | decide) ?_
  show Ok _ _ _ _ _
  refine Ok.loopN hLT hmix [] [0, 2, 3, 4, 8] [0,3,4,2] [] (fun n s => ∃ i sz : Nat, n = p.length - i ∧ i ≤ p.length ∧ (sz = 0 ∨ sz = 3) ∧ s = sCp p sz i) (n := p.length) ⟨0, 0, rfl, Nat.zero_le _, .inl rfl, rfl⟩ ?_
  rintro n s ⟨i, sz, rfl, hi, hsz, rfl⟩
  have hpl := hp.len
  refine And.intro (fun h1 => ?_) (fun h1 => ?_)
  · have h1 : ((i : Nat) : Int) < ((p.map rowR).length : Int) := of_decide_eq_true h1
    rw [List.length_map] at h1
    have hip : i < p.length := by omega
    have hw := wrap_succ (i := i) (n := p.length) (by omega) (by omega)
    have hps := hp.st p[i] (List.getElem_mem _)
    refine ⟨⟨2097151, [0, 0, 0, 6, 8, 16, 0, 0, 192, 256, 512, 0, 0, 0, 12288, 16384, 32768, 67584, 132128, 262144, 655361, 2097151], [1, 2, 4, 14, 30, 62, 64, 128, 448, 960, 1984, 2048, 4096, 8192, 28672, 61440, 126976, 260096, 524286, 1048574, 2097151, 4194303]⟩, by kernel_rfl, ?_⟩
    refine ⟨(p).map rowR, rowR ((p)[i]'(by omega)), rfl, by omega, row_at' rowR (p) (by omega) (by omega), rfl, of_decide_eq_true rfl, ?_⟩
    refine And.intro rfl ?_
    refine ⟨(p).map rowR, rowR ((p)[i]'(by omega)), rfl, by omega, row_at' rowR (p) (by omega) (by omega), rfl, of_decide_eq_true rfl, ?_⟩
    refine And.intro rfl ?_
    refine ⟨(p).map rowR, rowR ((p)[i]'(by omega)), rfl, by omega, row_at' rowR (p) (by omega) (by omega), rfl, of_decide_eq_true rfl, ?_⟩
    refine And.intro rfl ?_
    have hrm1 : (0 + (p[i].st.map rowS).length) * 16 ≤ 140737488355328 := by
      rw [List.length_map]
      omega
    have hrm2 : (((p.take i).map rowR).length + 1) * 40 ≤ 140737488355328 := by
      rw [List.length_map, List.length_take]
      omega
    have hszk : ((sz == 0 || sz == LT.size 37) && decide (0 < LT.size 37) && decide (0 < LT.bytes 37) && (LT.zero 37).isSome) = true := by rcases hsz with rfl | rfl <;> rfl
    refine And.intro ?_ (And.intro ?_ trivial)
    · refine And.intro (by repeat (first | exact trivial | refine And.intro ⟨rfl, rfl⟩ ?_ | refine And.intro ⟨_, _, rfl, by omega, row_at' _ _ rfl (by omega), rfl, of_decide_eq_true rfl, And.intro rfl (And.intro rfl rfl)⟩ ?_)) ?_
      refine And.intro ?_ trivial
      refine And.intro (by repeat (first | exact trivial | refine And.intro ⟨rfl, rfl⟩ ?_ | refine And.intro ⟨_, _, rfl, by omega, row_at' _ _ rfl (by omega), rfl, of_decide_eq_true rfl, And.intro rfl (And.intro rfl rfl)⟩ ?_)) ?_
      refine And.intro ?_ trivial
      refine And.intro trivial (And.intro rfl (And.intro hrm1 (And.intro (allLenS _) ?_)))
      refine And.intro (by repeat (first | exact trivial | refine And.intro ⟨rfl, rfl⟩ ?_ | refine And.intro ⟨_, _, rfl, by omega, row_at' _ _ rfl (by omega), rfl, of_decide_eq_true rfl, And.intro rfl (And.intro rfl rfl)⟩ ?_)) ?_
      refine And.intro ?_ trivial
      refine And.intro (by repeat (first | exact trivial | refine And.intro ⟨rfl, rfl⟩ ?_ | refine And.intro ⟨_, _, rfl, by omega, row_at' _ _ rfl (by omega), rfl, of_decide_eq_true rfl, And.intro rfl (And.intro rfl rfl)⟩ ?_)) ?_
      refine And.intro ?_ trivial
      refine And.intro (by repeat (first | exact trivial | refine And.intro ⟨rfl, rfl⟩ ?_ | refine And.intro ⟨_, _, rfl, by omega, row_at' _ _ rfl (by omega), rfl, of_decide_eq_true rfl, And.intro rfl (And.intro rfl rfl)⟩ ?_)) ?_
      refine And.intro ?_ trivial
      refine And.intro trivial (And.intro hszk (And.intro hrm2 (And.intro rfl ?_)))
      refine And.intro (by repeat (first | exact trivial | refine And.intro ⟨rfl, rfl⟩ ?_ | refine And.intro ⟨_, _, rfl, by omega, row_at' _ _ rfl (by omega), rfl, of_decide_eq_true rfl, And.intro rfl (And.intro rfl rfl)⟩ ?_)) ?_
      refine And.intro ?_ trivial
      refine And.intro (by repeat (first | exact trivial | refine And.intro ⟨rfl, rfl⟩ ?_ | refine And.intro ⟨_, _, rfl, by omega, row_at' _ _ rfl (by omega), rfl, of_decide_eq_true rfl, And.intro rfl (And.intro rfl rfl)⟩ ?_)) ?_
      refine ⟨p.length - (i + 1), by omega, i + 1, 3, rfl, by omega, .inr rfl, ?_⟩
      unfold sCp
      rw [← hw, List.take_succ_eq_append_getElem hip, List.map_append]
      rfl
    refine And.intro (by repeat (first | exact trivial | refine And.intro ⟨rfl, rfl⟩ ?_ | refine And.intro ⟨_, _, rfl, by omega, row_at' _ _ rfl (by omega), rfl, of_decide_eq_true rfl, And.intro rfl (And.intro rfl rfl)⟩ ?_)) ?_
    refine And.intro ?_ (And.intro ?_ trivial)
    · refine And.intro (by repeat (first | exact trivial | refine And.intro ⟨rfl, rfl⟩ ?_ | refine And.intro ⟨_, _, rfl, by omega, row_at' _ _ rfl (by omega), rfl, of_decide_eq_true rfl, And.intro rfl (And.intro rfl rfl)⟩ ?_)) ?_
      refine And.intro ?_ trivial
      refine And.intro trivial (And.intro rfl (And.intro hrm1 (And.intro (allLenS _) ?_)))
      refine And.intro (by repeat (first | exact trivial | refine And.intro ⟨rfl, rfl⟩ ?_ | refine And.intro ⟨_, _, rfl, by omega, row_at' _ _ rfl (by omega), rfl, of_decide_eq_true rfl, And.intro rfl (And.intro rfl rfl)⟩ ?_)) ?_
      refine And.intro ?_ trivial
      refine And.intro (by repeat (first | exact trivial | refine And.intro ⟨rfl, rfl⟩ ?_ | refine And.intro ⟨_, _, rfl, by omega, row_at' _ _ rfl (by omega), rfl, of_decide_eq_true rfl, And.intro rfl (And.intro rfl rfl)⟩ ?_)) ?_
      refine And.intro ?_ trivial
      refine And.intro (by repeat (first | exact trivial | refine And.intro ⟨rfl, rfl⟩ ?_ | refine And.intro ⟨_, _, rfl, by omega, row_at' _ _ rfl (by omega), rfl, of_decide_eq_true rfl, And.intro rfl (And.intro rfl rfl)⟩ ?_)) ?_
      refine And.intro ?_ trivial
      refine And.intro trivial (And.intro hszk (And.intro hrm2 (And.intro rfl ?_)))
      refine And.intro (by repeat (first | exact trivial | refine And.intro ⟨rfl, rfl⟩ ?_ | refine And.intro ⟨_, _, rfl, by omega, row_at' _ _ rfl (by omega), rfl, of_decide_eq_true rfl, And.intro rfl (And.intro rfl rfl)⟩ ?_)) ?_
      refine And.intro ?_ trivial
      refine And.intro (by repeat (first | exact trivial | refine And.intro ⟨rfl, rfl⟩ ?_ | refine And.intro ⟨_, _, rfl, by omega, row_at' _ _ rfl (by omega), rfl, of_decide_eq_true rfl, And.intro rfl (And.intro rfl rfl)⟩ ?_)) ?_
      refine ⟨p.length - (i + 1), by omega, i + 1, 3, rfl, by omega, .inr rfl, ?_⟩
      unfold sCp
      rw [← hw, List.take_succ_eq_append_getElem hip, List.map_append]
      rfl
    refine And.intro trivial (And.intro rfl (And.intro hrm1 (And.intro (allLenS _) ?_)))
    refine And.intro (by repeat (first | exact trivial | refine And.intro ⟨rfl, rfl⟩ ?_ | refine And.intro ⟨_, _, rfl, by omega, row_at' _ _ rfl (by omega), rfl, of_decide_eq_true rfl, And.intro rfl (And.intro rfl rfl)⟩ ?_)) ?_
    refine And.intro ?_ (And.intro ?_ trivial)
    · refine And.intro (by repeat (first | exact trivial | refine And.intro ⟨rfl, rfl⟩ ?_ | refine And.intro ⟨_, _, rfl, by omega, row_at' _ _ rfl (by omega), rfl, of_decide_eq_true rfl, And.intro rfl (And.intro rfl rfl)⟩ ?_)) ?_
      refine And.intro ?_ trivial
      refine And.intro (by repeat (first | exact trivial | refine And.intro ⟨rfl, rfl⟩ ?_ | refine And.intro ⟨_, _, rfl, by omega, row_at' _ _ rfl (by omega), rfl, of_decide_eq_true rfl, And.intro rfl (And.intro rfl rfl)⟩ ?_)) ?_
      refine And.intro ?_ trivial
      refine And.intro (by repeat (first | exact trivial | refine And.intro ⟨rfl, rfl⟩ ?_ | refine And.intro ⟨_, _, rfl, by omega, row_at' _ _ rfl (by omega), rfl, of_decide_eq_true rfl, And.intro rfl (And.intro rfl rfl)⟩ ?_)) ?_
      refine And.intro ?_ trivial
      refine And.intro trivial (And.intro hszk (And.intro hrm2 (And.intro rfl ?_)))
      refine And.intro (by repeat (first | exact trivial | refine And.intro ⟨rfl, rfl⟩ ?_ | refine And.intro ⟨_, _, rfl, by omega, row_at' _ _ rfl (by omega), rfl, of_decide_eq_true rfl, And.intro rfl (And.intro rfl rfl)⟩ ?_)) ?_
      refine And.intro ?_ trivial
      refine And.intro (by repeat (first | exact trivial | refine And.intro ⟨rfl, rfl⟩ ?_ | refine And.intro ⟨_, _, rfl, by omega, row_at' _ _ rfl (by omega), rfl, of_decide_eq_true rfl, And.intro rfl (And.intro rfl rfl)⟩ ?_)) ?_
      refine ⟨p.length - (i + 1), by omega, i + 1, 3, rfl, by omega, .inr rfl, ?_⟩
      unfold sCp
      rw [← hw, List.take_succ_eq_append_getElem hip, List.map_append]
      rfl
    refine And.intro (by repeat (first | exact trivial | refine And.intro ⟨rfl, rfl⟩ ?_ | refine And.intro ⟨_, _, rfl, by omega, row_at' _ _ rfl (by omega), rfl, of_decide_eq_true rfl, And.intro rfl (And.intro rfl rfl)⟩ ?_)) ?_
    refine And.intro ?_ (And.intro ?_ trivial)
    · refine And.intro (by repeat (first | exact trivial | refine And.intro ⟨rfl, rfl⟩ ?_ | refine And.intro ⟨_, _, rfl, by omega, row_at' _ _ rfl (by omega), rfl, of_decide_eq_true rfl, And.intro rfl (And.intro rfl rfl)⟩ ?_)) ?_
      refine And.intro ?_ trivial
      refine And.intro (by repeat (first | exact trivial | refine And.intro ⟨rfl, rfl⟩ ?_ | refine And.intro ⟨_, _, rfl, by omega, row_at' _ _ rfl (by omega), rfl, of_decide_eq_true rfl, And.intro rfl (And.intro rfl rfl)⟩ ?_)) ?_
      refine And.intro ?_ trivial
      refine And.intro trivial (And.intro hszk (And.intro hrm2 (And.intro rfl ?_)))
      refine And.intro (by repeat (first | exact trivial | refine And.intro ⟨rfl, rfl⟩ ?_ | refine And.intro ⟨_, _, rfl, by omega, row_at' _ _ rfl (by omega), rfl, of_decide_eq_true rfl, And.intro rfl (And.intro rfl rfl)⟩ ?_)) ?_
      refine And.intro ?_ trivial
      refine And.intro (by repeat (first | exact trivial | refine And.intro ⟨rfl, rfl⟩ ?_ | refine And.intro ⟨_, _, rfl, by omega, row_at' _ _ rfl (by omega), rfl, of_decide_eq_true rfl, And.intro rfl (And.intro rfl rfl)⟩ ?_)) ?_
      refine ⟨p.length - (i + 1), by omega, i + 1, 3, rfl, by omega, .inr rfl, ?_⟩
      unfold sCp
      rw [← hw, List.take_succ_eq_append_getElem hip, List.map_append]
      rfl
    refine And.intro (by repeat (first | exact trivial | refine And.intro ⟨rfl, rfl⟩ ?_ | refine And.intro ⟨_, _, rfl, by omega, row_at' _ _ rfl (by omega), rfl, of_decide_eq_true rfl, And.intro rfl (And.intro rfl rfl)⟩ ?_)) ?_
    refine And.intro ?_ trivial
    refine And.intro (by repeat (first | exact trivial | refine And.intro ⟨rfl, rfl⟩ ?_ | refine And.intro ⟨_, _, rfl, by omega, row_at' _ _ rfl (by omega), rfl, of_decide_eq_true rfl, And.intro rfl (And.intro rfl rfl)⟩ ?_)) ?_
    refine And.intro ?_ trivial
    refine And.intro trivial (And.intro hszk (And.intro hrm2 (And.intro rfl ?_)))
    refine And.intro (by repeat (first | exact trivial | refine And.intro ⟨rfl, rfl⟩ ?_ | refine And.intro ⟨_, _, rfl, by omega, row_at' _ _ rfl (by omega), rfl, of_decide_eq_true rfl, And.intro rfl (And.intro rfl rfl)⟩ ?_)) ?_
    refine And.intro ?_ trivial
    refine And.intro (by repeat (first | exact trivial | refine And.intro ⟨rfl, rfl⟩ ?_ | refine And.intro ⟨_, _, rfl, by omega, row_at' _ _ rfl (by omega), rfl, of_decide_eq_true rfl, And.intro rfl (And.intro rfl rfl)⟩ ?_)) ?_
    refine ⟨p.length - (i + 1), by omega, i + 1, 3, rfl, by omega, .inr rfl, ?_⟩
    unfold sCp
    rw [← hw, List.take_succ_eq_append_getElem hip, List.map_append]
    rfl
  · have h1 : ¬ ((i : Nat) : Int) < ((p.map rowR).length : Int) := of_decide_eq_false h1
    rw [List.length_map] at h1
    rw [List.take_of_length_le (by omega)]
    exact And.intro ⟨sz, rfl, hsz⟩ rfl
theorem copD_ok {p : Pln} {d : D} (h : copD p d) : partsOK d = true ∧ nrB 0 d = true := by
  obtain ⟨sz, rfl, _⟩ := h
  exact ⟨rfl, nrBLL_P p⟩
theorem c_draykeep_Copy (p : Pln) (hp : szQ p) {r : Nat} {sto : List Ob} (hr : r ≤ sto.length) : Tri Tryz.prog 57 r [encP p] sto (fun d l => copD p d ∧ l = sto) :=
  (c_draykeep_Copy_0 p hp).pureR rfl (nrBL_P rfl) (fun d h => copD_ok h) hr
end Go.Lv

namespace Go.Lv
open Go.Proofs

theorem okStop {n : Nat} {x : List D} (h : OkD LT (n + 2) 48 x) : ∃ s : Stp, x = rowS s := by
  obtain ⟨x1, y1, rfl, _, h1, x2, y2, rfl, _, h2, rfl⟩ := h
  obtain ⟨i1, rfl, _⟩ := h1
  obtain ⟨b, rfl⟩ := h2
  exact ⟨⟨i1, b⟩, rfl⟩
theorem okStops {n m : Nat} {x : List D} (h : OkD LT (n + 3) 35 x) (z : SzD LT (m + 1) 35 x) : ∃ l : List Stp, x = [.list .imm (l.map rowS)] ∧ l.length * 16 ≤ 140737488351232 := by
  obtain ⟨xs, rfl, _, h⟩ := h
  obtain ⟨xs', e, z, _⟩ := z
  cases e
  have key : ∀ xs : List (List D), (∀ r, r ∈ xs → r.length = LT.size 48 ∧ OkD LT (n + 2) 48 r) → ∃ l : List Stp, xs = l.map rowS := by
    intro xs
    induction xs with
    | nil => intro _; exact ⟨[], rfl⟩
    | cons x r ih =>
      intro h
      obtain ⟨s, rfl⟩ := okStop (h x (by simp)).2
      obtain ⟨l, rfl⟩ := ih fun y hy => h y (by simp [hy])
      exact ⟨s :: l, rfl⟩
  obtain ⟨l, rfl⟩ := key xs h
  have z : (l.map rowS).length * 16 ≤ 140737488351232 := z
  rw [List.length_map] at z
  exact ⟨l, rfl, z⟩
theorem okRoute {n m : Nat} {x : List D} (h : OkD LT (n + 4) 37 x) (z : SzD LT (m + 2) 37 x) : ∃ r : Rte, x = rowR r ∧ r.st.length * 16 ≤ 140737488351232 := by
  obtain ⟨x1, y1, rfl, l1, h1, x2, y2, rfl, l2, h2, x3, y3, rfl, l3, h3, rfl⟩ := h
  obtain ⟨i1, rfl, _⟩ := h1
  obtain ⟨i2, rfl, _⟩ := h2
  obtain ⟨a1, b1, e1, k1, _, a2, b2, e2, k2, _, a3, b3, e3, k3, z3, e4⟩ := z
  have l3' : x3.length = 1 := l3
  obtain ⟨c, rfl⟩ : ∃ c, x3 = [c] := List.length_eq_one_iff.1 l3'
  have k1' : a1.length = 1 := k1
  have k2' : a2.length = 1 := k2
  have k3' : a3.length = 1 := k3
  obtain ⟨d1, rfl⟩ : ∃ c, a1 = [c] := List.length_eq_one_iff.1 k1'
  obtain ⟨d2, rfl⟩ : ∃ c, a2 = [c] := List.length_eq_one_iff.1 k2'
  obtain ⟨d3, rfl⟩ : ∃ c, a3 = [c] := List.length_eq_one_iff.1 k3'
  subst e4; subst e3; subst e2
  simp only [List.cons_append, List.nil_append, List.cons.injEq] at e1
  obtain ⟨_, _, e, _⟩ := e1
  subst e
  obtain ⟨l, e, hl⟩ := okStops h3 z3
  cases e
  exact ⟨⟨i1, i2, l⟩, rfl, hl⟩
theorem okPlan {n m : Nat} {x : List D} (h : OkD LT (n + 5) 39 x) (z : SzD LT (m + 3) 39 x) : ∃ p : Pln, x = [encP p] ∧ szQ p := by
  obtain ⟨xs, rfl, _, h⟩ := h
  obtain ⟨xs', e, z, z2⟩ := z
  cases e
  have key : ∀ xs : List (List D), (∀ r, r ∈ xs → r.length = LT.size 37 ∧ OkD LT (n + 4) 37 r) → (∀ r, r ∈ xs → SzD LT (m + 2) 37 r) → ∃ p : Pln, xs = p.map rowR ∧ ∀ r, r ∈ p → r.st.length * 16 ≤ 140737488351232 := by
    intro xs
    induction xs with
    | nil => intro _ _; exact ⟨[], rfl, fun r hr => by cases hr⟩
    | cons x r ih =>
      intro h z
      obtain ⟨s, rfl, hs⟩ := okRoute (h x (by simp)).2 (z x (by simp))
      obtain ⟨l, rfl, hl⟩ := ih (fun y hy => h y (by simp [hy])) (fun y hy => z y (by simp [hy]))
      exact ⟨s :: l, rfl, fun r hr => by
        rcases List.mem_cons.1 hr with e | hr
        · rw [e]; exact hs
        · exact hl r hr⟩
  obtain ⟨p, rfl, hp⟩ := key xs h z2
  have z : (p.map rowR).length * 40 ≤ 140737488351232 := z
  rw [List.length_map] at z
  exact ⟨p, rfl, z, hp⟩
end Go.Lv

namespace Go.Lv
open Go.Proofs

noncomputable def stOK (seen : List Stp) : List Stp → Bool
  | [] => true
  | s :: l => decide (1 ≤ s.ord ∧ s.ord ≤ 1000000 ∧ s ∉ seen) && stOK (seen ++ [s]) l
noncomputable def hdOK (last : Int) (r : Rte) : Prop := last < r.drv ∧ r.drv ≤ 1000000 ∧ r.st.length ≤ 80 ∧ 0 ≤ r.srv ∧ r.srv ≤ r.st.length
noncomputable instance (last : Int) (r : Rte) : Decidable (hdOK last r) := by unfold hdOK; infer_instance
noncomputable def rightG (last : Int) (seen : List Stp) : Pln → Bool
  | [] => true
  | r :: p => decide (hdOK last r) && (stOK seen r.st && rightG r.drv (seen ++ r.st) p)
noncomputable def rightP (p : Pln) : Bool := decide (p.length ≤ 8) && rightG 0 [] p
noncomputable def encM (seen : List Stp) : List (D × D) := seen.map fun s => (.agg (rowS s), .int .i64 1)
theorem findM (s : Stp) : ∀ seen : List Stp, findE LT 48 (.agg (rowS s)) (encM seen) = some (if s ∈ seen then some (.int .i64 1) else none)
  | [] => rfl
  | x :: r => by
    have ih := findM s r
    have e : eqD LT 48 (.agg (rowS s)) (.agg (rowS x)) = some (decide (s.ord = x.ord) && (s.drop == x.drop && true)) := rfl
    show (match eqD LT 48 (.agg (rowS s)) (.agg (rowS x)) with | some true => some (some (D.int .i64 1)) | some false => findE LT 48 (.agg (rowS s)) (encM r) | none => none) = _
    rw [e]
    cases hb : (decide (s.ord = x.ord) && (s.drop == x.drop && true)) with
    | true => rw [if_pos (by rw [stp_eq hb]; simp)]
    | false =>
      have hn := stp_ne hb
      simp only [ih, List.mem_cons, hn, false_or]
theorem findM_new {s : Stp} {v : D} : ∀ {seen : List Stp}, s ∉ seen → findE LT 48 (.agg (rowS s)) (encM seen ++ [(D.agg (rowS s), v)]) = some (some v)
  | [], _ => by
    have e : eqD LT 48 (.agg (rowS s)) (.agg (rowS s)) = some (decide (s.ord = s.ord) && (s.drop == s.drop && true)) := rfl
    show (match eqD LT 48 (.agg (rowS s)) (.agg (rowS s)) with | some true => some (some v) | some false => some none | none => none) = _
    rw [e]
    simp
  | x :: r, h => by
    have ih := findM_new (v := v) (seen := r) (fun q => h (List.mem_cons_of_mem _ q))
    have e : eqD LT 48 (.agg (rowS s)) (.agg (rowS x)) = some (decide (s.ord = x.ord) && (s.drop == x.drop && true)) := rfl
    show (match eqD LT 48 (.agg (rowS s)) (.agg (rowS x)) with | some true => some (some (D.int .i64 1)) | some false => findE LT 48 (.agg (rowS s)) (encM r ++ [(D.agg (rowS s), v)]) | none => none) = _
    rw [e]
    cases hb : (decide (s.ord = x.ord) && (s.drop == x.drop && true)) with
    | true => exact absurd (by rw [stp_eq hb]; simp) h
    | false => exact ih
theorem findM_no {s : Stp} {seen : List Stp} (h : s ∉ seen) : findE LT 48 (.agg (rowS s)) (encM seen) = some none := by rw [findM, if_neg h]
theorem encM_snoc (seen : List Stp) (s : Stp) : (encM seen ++ [(D.agg (rowS s), D.int .i64 0)]).set (encM seen).length (D.agg (rowS s), D.int .i64 1) = encM (seen ++ [s]) := by
  rw [List.set_append_right _ _ (Nat.le_refl _), Nat.sub_self]
  simp [encM]
theorem stOK_at {seen l : List Stp} {i : Nat} (h : i < l.length) : stOK (seen ++ l.take i) (l.drop i) = (decide (1 ≤ l[i].ord ∧ l[i].ord ≤ 1000000 ∧ l[i] ∉ seen ++ l.take i) && stOK (seen ++ l.take (i + 1)) (l.drop (i + 1))) := by
  rw [List.drop_eq_getElem_cons h]
  show (_ && stOK (seen ++ l.take i ++ [l[i]]) (l.drop (i + 1))) = _
  rw [List.append_assoc, List.take_succ_eq_append_getElem h]
theorem rightG_at {last : Int} {seen : List Stp} {p : Pln} {i : Nat} (h : i < p.length) : rightG last seen (p.drop i) = (decide (hdOK last p[i]) && (stOK seen p[i].st && rightG p[i].drv (seen ++ p[i].st) (p.drop (i + 1)))) := by
  rw [List.drop_eq_getElem_cons h]
  rfl
noncomputable def sRi (p : Pln) (last : Int) (seen : List Stp) (i : Nat) : DS := ⟨[(3, .int .i64 last), (4, .map 0), (13, encP p), (14, .int .i64 (p.length : Int)), (15, .int .i64 (i : Int)), (2, .bool false)], [], [.map (encM seen)], mR 0⟩
noncomputable def sRj (p : Pln) (last : Int) (seen : List Stp) (l : List Stp) (i j : Nat) : DS := ⟨[(3, .int .i64 last), (4, .map 0), (13, encP p), (14, .int .i64 (p.length : Int)), (15, .int .i64 (i : Int)), (50, .list .imm (l.map rowS)), (51, .int .i64 (l.length : Int)), (52, .int .i64 (j : Int)), (2, .bool false)], [], [.map (encM seen)], mR 0⟩
set_option maxHeartbeats 8000000 in
theorem c_plan_Right_1 (p : Pln) : Tri Tryz.prog 73 0 [encP p] [] (fun d k => d = .bool (rightP p) ∧ (k = [] ∨ ∃ es, k = [.map es])) := by
  refine Tri.walk2 (L := LT) (c := {n := 78, ko := [2]}) [] [0, 2, 3, 4, 6, 8, 11, 13, 14, 15, 16, 46, 50, 51, 52, 53, 69] hLT hmix Tryz.func73 rfl rfl ⟨rfl, rfl⟩ (by show 1 ≤ 78; decide) (by first | exact Nat.zero_le _ | exact Nat.le_refl _ | exact Nat.le_succ 1 | decide) ?_
  unfold rightP
  refine And.intro (fun h0 => ?_) (fun h0 => ?_)
  · have h0 : ((p.map rowR).length : Int) > 8 := of_decide_eq_true h0
    rw [List.length_map] at h0
    rw [decide_eq_false (show ¬ p.length ≤ 8 by omega)]
    exact And.intro rfl (.inl rfl)
  · have h0 : ¬ ((p.map rowR).length : Int) > 8 := of_decide_eq_false h0
    rw [List.length_map] at h0
    have hp8 : p.length ≤ 8 := by omega
    rw [decide_eq_true hp8, Bool.true_and]
    show Ok _ _ _ _ _
    refine Ok.loopN hLT hmix [] [0, 2, 3, 4, 6, 8, 11, 13, 14, 15, 16, 46, 50, 51, 52, 53, 69] [3,4,13,14,15,2] [] (fun n s => ∃ (i : Nat) (last : Int) (seen : List Stp), n = p.length - i ∧ i ≤ p.length ∧ rightG last seen (p.drop i) = rightG 0 [] p ∧ s = sRi p last seen i) (n := p.length) ⟨0, 0, [], rfl, Nat.zero_le _, rfl, by unfold sRi; rw [← List.length_map (f := rowR)]; rfl⟩ ?_
    rintro n s ⟨i, last, seen, rfl, hi, hix, rfl⟩
    refine And.intro (fun h1 => ?_) (fun h1 => ?_)
    · have h1 : ((i : Nat) : Int) < (p.length : Int) := of_decide_eq_true h1
      have hw := wrap_succ (i := i) (n := p.length) (by omega) (by omega)
      rw [rightG_at (by omega)] at hix
      refine ⟨(p).map rowR, rowR ((p)[i]'(by omega)), rfl, by omega, row_at' rowR (p) (by omega) (by omega), rfl, of_decide_eq_true rfl, ?_⟩
      generalize p[i] = r at hix ⊢
      have bad : ¬ hdOK last r → false = rightG 0 [] p := fun h => by rw [← hix, decide_eq_false h]; rfl
      refine And.intro (fun q1 => ?_) (fun q1 => ?_)
      · repeat (first | refine And.intro (fun _ => ?_) (fun h => Bool.noConfusion h) | refine And.intro (fun h => Bool.noConfusion h) (fun _ => ?_))
        exact And.intro (congrArg D.bool (bad (fun h => absurd (of_decide_eq_true q1) (by exact Int.not_le.2 h.1)))) (.inr ⟨_, rfl⟩)
      repeat (first | refine And.intro (fun _ => ?_) (fun h => Bool.noConfusion h) | refine And.intro (fun h => Bool.noConfusion h) (fun _ => ?_))
      have q1 := of_decide_eq_false q1
      refine And.intro (fun q2 => ?_) (fun q2 => ?_)
      · repeat (first | refine And.intro (fun _ => ?_) (fun h => Bool.noConfusion h) | refine And.intro (fun h => Bool.noConfusion h) (fun _ => ?_))
        exact And.intro (congrArg D.bool (bad (fun h => absurd (of_decide_eq_true q2) (by exact Int.not_lt.2 h.2.1)))) (.inr ⟨_, rfl⟩)
      repeat (first | refine And.intro (fun _ => ?_) (fun h => Bool.noConfusion h) | refine And.intro (fun h => Bool.noConfusion h) (fun _ => ?_))
      have q2 := of_decide_eq_false q2
      refine And.intro (fun q3 => ?_) (fun q3 => ?_)
      · repeat (first | refine And.intro (fun _ => ?_) (fun h => Bool.noConfusion h) | refine And.intro (fun h => Bool.noConfusion h) (fun _ => ?_))
        exact And.intro (congrArg D.bool (bad (fun h => absurd (of_decide_eq_true q3) (by rw [List.length_map]; have := h.2.2.1; omega)))) (.inr ⟨_, rfl⟩)
      repeat (first | refine And.intro (fun _ => ?_) (fun h => Bool.noConfusion h) | refine And.intro (fun h => Bool.noConfusion h) (fun _ => ?_))
      have q3 := of_decide_eq_false q3
      refine And.intro (fun q4 => ?_) (fun q4 => ?_)
      · repeat (first | refine And.intro (fun _ => ?_) (fun h => Bool.noConfusion h) | refine And.intro (fun h => Bool.noConfusion h) (fun _ => ?_))
        exact And.intro (congrArg D.bool (bad (fun h => absurd (of_decide_eq_true q4) (by exact Int.not_lt.2 h.2.2.2.1)))) (.inr ⟨_, rfl⟩)
      repeat (first | refine And.intro (fun _ => ?_) (fun h => Bool.noConfusion h) | refine And.intro (fun h => Bool.noConfusion h) (fun _ => ?_))
      have q4 := of_decide_eq_false q4
      refine And.intro (fun q5 => ?_) (fun q5 => ?_)
      · repeat (first | refine And.intro (fun _ => ?_) (fun h => Bool.noConfusion h) | refine And.intro (fun h => Bool.noConfusion h) (fun _ => ?_))
        exact And.intro (congrArg D.bool (bad (fun h => absurd (of_decide_eq_true q5) (by rw [List.length_map]; exact Int.not_lt.2 h.2.2.2.2)))) (.inr ⟨_, rfl⟩)
      repeat (first | refine And.intro (fun _ => ?_) (fun h => Bool.noConfusion h) | refine And.intro (fun h => Bool.noConfusion h) (fun _ => ?_))
      have q5 := of_decide_eq_false q5
      rw [List.length_map] at q3 q5
      have hok : hdOK last r := ⟨by omega, by omega, by omega, by omega, by omega⟩
      rw [decide_eq_true hok, Bool.true_and] at hix
      show Ok _ _ _ _ _
      refine Ok.loopN hLT hmix [] [0, 2, 3, 4, 6, 8, 11, 13, 14, 15, 16, 46, 50, 51, 52, 53, 69] [3,4,13,14,15,50,51,52,2] [] (fun n s => ∃ (j : Nat), n = r.st.length - j ∧ j ≤ r.st.length ∧ (stOK (seen ++ r.st.take j) (r.st.drop j) && rightG r.drv (seen ++ r.st) (p.drop (i + 1))) = rightG 0 [] p ∧ s = sRj p r.drv (seen ++ r.st.take j) r.st i j) (n := r.st.length) ⟨0, rfl, Nat.zero_le _, by rw [List.take_zero, List.append_nil]; exact hix, by rw [List.take_zero, List.append_nil]; unfold sRj; rw [← List.length_map (f := rowS)]; rfl⟩ ?_
      rintro n s ⟨j, rfl, hj, hjx, rfl⟩
      refine And.intro (fun g1 => ?_) (fun g1 => ?_)
      · have g1 : ((j : Nat) : Int) < (r.st.length : Int) := of_decide_eq_true g1
        have hwj := wrap_succ (i := j) (n := r.st.length) (by omega) (by omega)
        rw [stOK_at (by omega)] at hjx
        have htk : seen ++ r.st.take (j + 1) = seen ++ r.st.take j ++ [r.st[j]] := by
          rw [List.append_assoc, List.take_succ_eq_append_getElem (by omega)]
        rw [htk] at hjx
        refine ⟨(r.st).map rowS, rowS ((r.st)[j]'(by omega)), rfl, by omega, row_at' rowS (r.st) (by omega) (by omega), rfl, of_decide_eq_true rfl, ?_⟩
        generalize r.st[j] = x at hjx htk ⊢
        generalize seen ++ r.st.take j = sn at hjx htk ⊢
        have badx : ¬ (1 ≤ x.ord ∧ x.ord ≤ 1000000 ∧ x ∉ sn) → false = rightG 0 [] p := fun h => by rw [← hjx, decide_eq_false h]; rfl
        refine And.intro (fun w1 => ?_) (fun w1 => ?_)
        · repeat (first | refine And.intro (fun _ => ?_) (fun h => Bool.noConfusion h) | refine And.intro (fun h => Bool.noConfusion h) (fun _ => ?_))
          exact And.intro (congrArg D.bool (badx (fun h => absurd (of_decide_eq_true w1) (by have := h.1; omega)))) (.inr ⟨_, rfl⟩)
        repeat (first | refine And.intro (fun _ => ?_) (fun h => Bool.noConfusion h) | refine And.intro (fun h => Bool.noConfusion h) (fun _ => ?_))
        have w1 := of_decide_eq_false w1
        refine And.intro (fun w2 => ?_) (fun w2 => ?_)
        · repeat (first | refine And.intro (fun _ => ?_) (fun h => Bool.noConfusion h) | refine And.intro (fun h => Bool.noConfusion h) (fun _ => ?_))
          exact And.intro (congrArg D.bool (badx (fun h => absurd (of_decide_eq_true w2) (by have := h.2.1; omega)))) (.inr ⟨_, rfl⟩)
        repeat (first | refine And.intro (fun _ => ?_) (fun h => Bool.noConfusion h) | refine And.intro (fun h => Bool.noConfusion h) (fun _ => ?_))
        have w2 := of_decide_eq_false w2
        refine And.intro rfl ⟨_, findM x sn, ?_⟩
        by_cases hm : x ∈ sn
        · rw [if_pos hm]
          repeat (first | refine And.intro (fun _ => ?_) (fun h => Bool.noConfusion h) | refine And.intro (fun h => Bool.noConfusion h) (fun _ => ?_))
          exact And.intro (congrArg D.bool (badx (fun h => h.2.2 hm))) (.inr ⟨_, rfl⟩)
        · rw [if_neg hm]
          repeat (first | refine And.intro (fun _ => ?_) (fun h => Bool.noConfusion h) | refine And.intro (fun h => Bool.noConfusion h) (fun _ => ?_))
          have hxok : 1 ≤ x.ord ∧ x.ord ≤ 1000000 ∧ x ∉ sn := ⟨by omega, by omega, hm⟩
          rw [decide_eq_true hxok, Bool.true_and] at hjx
          refine ⟨⟨63, [0, 0, 3, 4, 3, 16, 63], [1, 2, 7, 15, 19, 51, 127]⟩, by kernel_rfl, ?_⟩
          refine And.intro rfl ⟨_, findM x sn, ?_⟩
          rw [if_neg hm]
          refine And.intro rfl ?_
          refine And.intro ?_ trivial
          refine mapEntry_new rfl rfl rfl rfl rfl rfl rfl (findM_no hm) rfl ?_
          refine And.intro (And.intro ⟨rfl, rfl⟩ (And.intro ⟨rfl, _, findM_new hm, And.intro rfl (And.intro rfl rfl)⟩ trivial)) ?_
          refine And.intro ?_ trivial
          refine entryStore_any rfl rfl rfl rfl rfl rfl List.getElem?_concat_length ?_
          refine And.intro trivial ?_
          refine ⟨r.st.length - (j + 1), by omega, j + 1, rfl, by omega, by rw [htk]; exact hjx, ?_⟩
          unfold sRj
          rw [htk, ← encM_snoc, ← hwj]
          rfl
      · have g1 : ¬ ((j : Nat) : Int) < (r.st.length : Int) := of_decide_eq_false g1
        rw [List.drop_eq_nil_of_le (by omega)] at hjx
        have hjx : rightG r.drv (seen ++ r.st) (p.drop (i + 1)) = rightG 0 [] p := hjx
        rw [List.take_of_length_le (by omega)]
        refine ⟨p.length - (i + 1), by omega, i + 1, r.drv, seen ++ r.st, rfl, by omega, hjx, ?_⟩
        unfold sRi
        rw [← hw]
        rfl
    · have h1 : ¬ ((i : Nat) : Int) < (p.length : Int) := of_decide_eq_false h1
      rw [List.drop_eq_nil_of_le (by omega)] at hix
      rw [← hix]
      exact And.intro rfl (.inr ⟨_, rfl⟩)
theorem c_plan_Right_0 (p : Pln) : Tri Tryz.prog 73 0 [encP p] [] (fun d k => d = .bool (rightP p) ∧ k = []) :=
  Tri.forget (c_plan_Right_1 p) (fun d l h _ => ⟨0, Nat.zero_le _, Nat.zero_le _, by rw [h.1]; exact .bool _, fun o ho => absurd ho (by simp), h.1, rfl⟩)
theorem c_plan_Right (p : Pln) {r : Nat} {sto : List Ob} (hr : r ≤ sto.length) : Tri Tryz.prog 73 r [encP p] sto (fun d k => d = .bool (rightP p) ∧ k = sto) :=
  (c_plan_Right_0 p).pure rfl (nrBL_P rfl) rfl rfl hr
noncomputable def sTi (p : Pln) (seen : List Stp) (sz i : Nat) : DS := ⟨[(0, encP p), (3, .list (.own sz) (seen.map rowS)), (4, .int .i64 (i : Int)), (2, .bool false)], [], [], mR 0⟩
noncomputable def sTk (p : Pln) (r : Rte) (seen : List Stp) (sz i k : Nat) : DS := ⟨[(0, encP p), (3, .list (.own sz) (seen.map rowS)), (4, .int .i64 (i : Int)), (5, .lptr 5 0 0), (6, .int .i64 (k : Int)), (2, .bool false)], [(5, rowR r)], [], mR 0⟩
noncomputable def sTj (p : Pln) (r : Rte) (s : Stp) (seen : List Stp) (sz i k j : Nat) : DS := ⟨[(0, encP p), (3, .list (.own sz) (seen.map rowS)), (4, .int .i64 (i : Int)), (5, .lptr 5 0 0), (6, .int .i64 (k : Int)), (7, .lptr 7 0 0), (8, .int .i64 (j : Int)), (2, .bool false)], [(5, rowR r), (7, rowS s)], [], mR 0⟩
noncomputable def lastP (p : Pln) (i : Nat) : Int := if h : 0 < i ∧ i - 1 < p.length then p[i - 1].drv else 0
theorem lastP_succ {p : Pln} {i : Nat} (h : i < p.length) : lastP p (i + 1) = p[i].drv := by
  unfold lastP
  rw [dif_pos ⟨by omega, by omega⟩]
  rfl
set_option maxHeartbeats 8000000 in
theorem c_drayref9_Right_0 (p : Pln) : Tri Tryz.prog 98 0 [encP p] [] (fun d k => d = .bool (rightP p) ∧ k = []) := by
  refine Tri.walk2 (L := LT) (c := {n := 100, ko := [2, 3], xf := [96]}) [] [0, 2, 3, 4, 5, 6, 7, 8, 11, 15, 63, 68, 83, 87, 95] hLT hmix Tryz.func98 rfl rfl ⟨rfl, rfl⟩ (by show 1 ≤ 100; decide) (by first | exact Nat.zero_le _ | exact Nat.le_refl _ | exact Nat.le_succ 1 | decide) ?_
  unfold rightP
  refine And.intro (fun h0 => ?_) (fun h0 => ?_)
  · have h0 : ((p.map rowR).length : Int) > 8 := of_decide_eq_true h0
    rw [List.length_map] at h0
    rw [decide_eq_false (show ¬ p.length ≤ 8 by omega)]
    exact And.intro rfl rfl
  have h0 : ¬ ((p.map rowR).length : Int) > 8 := of_decide_eq_false h0
  rw [List.length_map] at h0
  have hp8 : p.length ≤ 8 := by omega
  rw [decide_eq_true hp8, Bool.true_and]
  show Ok _ _ _ _ _
  refine Ok.loopN hLT hmix [] [0, 2, 3, 4, 5, 6, 7, 8, 11, 15, 63, 68, 83, 87, 95] [0,3,4,2] [] (fun n s => ∃ (i sz : Nat) (seen : List Stp), n = p.length - i ∧ i ≤ p.length ∧ (sz = 0 ∨ sz = 2) ∧ seen.length ≤ 80 * i ∧ 0 ≤ lastP p i ∧ rightG (lastP p i) seen (p.drop i) = rightG 0 [] p ∧ s = sTi p seen sz i) (n := p.length) ⟨0, 0, [], rfl, Nat.zero_le _, .inl rfl, Nat.zero_le _, Int.le_refl 0, rfl, rfl⟩ ?_
  rintro n s ⟨i, sz, seen, rfl, hi, hsz, hsl, hla, hix, rfl⟩
  refine And.intro (fun h1 => ?_) (fun h1 => ?_)
  · have h1 : ((i : Nat) : Int) < ((p.map rowR).length : Int) := of_decide_eq_true h1
    rw [List.length_map] at h1
    have hw := wrap_succ (i := i) (n := p.length) (by omega) (by omega)
    rw [rightG_at (by omega)] at hix
    have hls := lastP_succ (p := p) (i := i) (by omega)
    refine ⟨(p).map rowR, rowR ((p)[i]'(by omega)), rfl, by omega, row_at' rowR (p) (by omega) (by omega), rfl, of_decide_eq_true rfl, ?_⟩
    generalize p[i] = r at hix hls ⊢
    have bad : ¬ hdOK (lastP p i) r → false = rightG 0 [] p := fun h => by rw [← hix, decide_eq_false h]; rfl
    refine ⟨⟨4398046511103, [0, 1, 2, 4, 8, 24, 40, 72, 136, 256, 768, 1280, 2048, 2048, 10240, 22528, 34816, 67584, 2048, 264192, 657408, 1050880, 2097408, 4196352, 8388608, 25165824, 41943040, 75497472, 142606336, 276824064, 536870912, 1610612736, 2684354560, 4831838208, 9126805504, 17179869184, 51539607552, 17179869184, 154618822656, 292057776128, 635655159808, 1116691496960], [1, 3, 7, 15, 31, 63, 127, 255, 511, 1023, 2047, 4095, 8191, 12287, 28671, 65535, 131071, 262143, 266239, 790527, 2097151, 4194303, 8388607, 16777215, 33554431, 67108863, 134217727, 268435455, 536870911, 1073741823, 2147483647, 4294967295, 8589934591, 17179869183, 34359738367, 68719476735, 137438953471, 171798691839, 446676598783, 996432412671, 2199023255551, 4398046511103]⟩, by kernel_rfl, ?_⟩
    refine And.intro (fun q1 => ?_) (fun q1 => ?_)
    · repeat (first | refine And.intro (fun _ => ?_) (fun h => Bool.noConfusion h) | refine And.intro (fun h => Bool.noConfusion h) (fun _ => ?_))
      exact And.intro (congrArg D.bool (bad (fun h => absurd (of_decide_eq_true q1) (by have := h.1; omega)))) rfl
    repeat (first | refine And.intro (fun _ => ?_) (fun h => Bool.noConfusion h) | refine And.intro (fun h => Bool.noConfusion h) (fun _ => ?_))
    have q1 := of_decide_eq_false q1
    refine And.intro (fun q2 => ?_) (fun q2 => ?_)
    · repeat (first | refine And.intro (fun _ => ?_) (fun h => Bool.noConfusion h) | refine And.intro (fun h => Bool.noConfusion h) (fun _ => ?_))
      exact And.intro (congrArg D.bool (bad (fun h => absurd (of_decide_eq_true q2) (by have := h.2.1; omega)))) rfl
    repeat (first | refine And.intro (fun _ => ?_) (fun h => Bool.noConfusion h) | refine And.intro (fun h => Bool.noConfusion h) (fun _ => ?_))
    have q2 := of_decide_eq_false q2
    refine And.intro (fun q3 => ?_) (fun q3 => ?_)
    · have q3 : ((i : Nat) : Int) > 0 := of_decide_eq_true q3
      repeat (first | refine And.intro (fun _ => ?_) (fun h => Bool.noConfusion h) | refine And.intro (fun h => Bool.noConfusion h) (fun _ => ?_))
      have hwm : IntKind.i64.wrap ((i : Int) - 1) = ((i - 1 : Nat) : Int) := by
        rw [wrap64 (by omega) (by omega)]
        omega
      have hlp : lastP p i = (p[i - 1]'(by omega)).drv := by
        unfold lastP
        rw [dif_pos ⟨by omega, by omega⟩]
      refine ⟨(p).map rowR, rowR ((p)[(i-1)]'(by omega)), rfl, by omega, row_at' rowR (p) (by omega) (by omega), rfl, of_decide_eq_true rfl, ?_⟩
      refine And.intro rfl ?_
      refine And.intro (fun q4 => ?_) (fun q4 => ?_)
      · have q4 : (p[i - 1]'(by omega)).drv ≥ r.drv := of_decide_eq_true q4
        repeat (first | refine And.intro (fun _ => ?_) (fun h => Bool.noConfusion h) | refine And.intro (fun h => Bool.noConfusion h) (fun _ => ?_))
        exact And.intro (congrArg D.bool (bad (fun h => by have := h.1; omega))) rfl
      have q4 : ¬ (p[i - 1]'(by omega)).drv ≥ r.drv := of_decide_eq_false q4
      have hlt : lastP p i < r.drv := by omega
      clear hlp
      repeat (first | refine And.intro (fun _ => ?_) (fun h => Bool.noConfusion h) | refine And.intro (fun h => Bool.noConfusion h) (fun _ => ?_))
      refine And.intro (fun q5 => ?_) (fun q5 => ?_)
      · repeat (first | refine And.intro (fun _ => ?_) (fun h => Bool.noConfusion h) | refine And.intro (fun h => Bool.noConfusion h) (fun _ => ?_))
        exact And.intro (congrArg D.bool (bad (fun h => absurd (of_decide_eq_true q5) (by rw [List.length_map]; have := h.2.2.1; omega)))) rfl
      repeat (first | refine And.intro (fun _ => ?_) (fun h => Bool.noConfusion h) | refine And.intro (fun h => Bool.noConfusion h) (fun _ => ?_))
      have q5 := of_decide_eq_false q5
      refine And.intro (fun q6 => ?_) (fun q6 => ?_)
      · repeat (first | refine And.intro (fun _ => ?_) (fun h => Bool.noConfusion h) | refine And.intro (fun h => Bool.noConfusion h) (fun _ => ?_))
        exact And.intro (congrArg D.bool (bad (fun h => absurd (of_decide_eq_true q6) (by have := h.2.2.2.1; omega)))) rfl
      repeat (first | refine And.intro (fun _ => ?_) (fun h => Bool.noConfusion h) | refine And.intro (fun h => Bool.noConfusion h) (fun _ => ?_))
      have q6 := of_decide_eq_false q6
      refine And.intro (fun q7 => ?_) (fun q7 => ?_)
      · repeat (first | refine And.intro (fun _ => ?_) (fun h => Bool.noConfusion h) | refine And.intro (fun h => Bool.noConfusion h) (fun _ => ?_))
        exact And.intro (congrArg D.bool (bad (fun h => absurd (of_decide_eq_true q7) (by rw [List.length_map]; have := h.2.2.2.2; omega)))) rfl
      repeat (first | refine And.intro (fun _ => ?_) (fun h => Bool.noConfusion h) | refine And.intro (fun h => Bool.noConfusion h) (fun _ => ?_))
      have q7 := of_decide_eq_false q7
      rw [List.length_map] at q5 q7
      have hok : hdOK (lastP p i) r := ⟨hlt, by omega, by omega, by omega, by omega⟩
      rw [decide_eq_true hok, Bool.true_and] at hix
      show Ok _ _ _ _ _
      refine Ok.loopN hLT hmix [] [0, 2, 3, 4, 5, 6, 7, 8, 11, 15, 63, 68, 83, 87, 95] [0,3,4,5,6,2] [5] (fun n s => ∃ (k sz : Nat), n = r.st.length - k ∧ k ≤ r.st.length ∧ (sz = 0 ∨ sz = 2) ∧ (stOK (seen ++ r.st.take k) (r.st.drop k) && rightG r.drv (seen ++ r.st) (p.drop (i + 1))) = rightG 0 [] p ∧ s = sTk p r (seen ++ r.st.take k) sz i k) (n := r.st.length) ⟨0, sz, rfl, Nat.zero_le _, hsz, by rw [List.take_zero, List.append_nil]; exact hix, by rw [List.take_zero, List.append_nil]; rfl⟩ ?_
      rintro n s ⟨k, sz, rfl, hk, hsz, hkx, rfl⟩
      refine And.intro (fun g1 => ?_) (fun g1 => ?_)
      · have g1 : ((k : Nat) : Int) < ((r.st.map rowS).length : Int) := of_decide_eq_true g1
        rw [List.length_map] at g1
        have hwk := wrap_succ (i := k) (n := r.st.length) (by omega) (by omega)
        rw [stOK_at (by omega)] at hkx
        have htk : seen ++ r.st.take (k + 1) = seen ++ r.st.take k ++ [r.st[k]] := by
          rw [List.append_assoc, List.take_succ_eq_append_getElem (by omega)]
        have hsn : (seen ++ r.st.take k).length ≤ 800 := by
          rw [List.length_append, List.length_take]
          omega
        rw [htk] at hkx
        refine ⟨(r.st).map rowS, rowS ((r.st)[k]'(by omega)), rfl, by omega, row_at' rowS (r.st) (by omega) (by omega), rfl, of_decide_eq_true rfl, ?_⟩
        generalize r.st[k] = x at hkx htk ⊢
        generalize seen ++ r.st.take k = sn at hkx htk hsn ⊢
        have badx : ¬ (1 ≤ x.ord ∧ x.ord ≤ 1000000 ∧ x ∉ sn) → false = rightG 0 [] p := fun h => by rw [← hkx, decide_eq_false h]; rfl
        refine And.intro (fun w1 => ?_) (fun w1 => ?_)
        · repeat (first | refine And.intro (fun _ => ?_) (fun h => Bool.noConfusion h) | refine And.intro (fun h => Bool.noConfusion h) (fun _ => ?_))
          exact And.intro (congrArg D.bool (badx (fun h => absurd (of_decide_eq_true w1) (by have := h.1; omega)))) rfl
        repeat (first | refine And.intro (fun _ => ?_) (fun h => Bool.noConfusion h) | refine And.intro (fun h => Bool.noConfusion h) (fun _ => ?_))
        have w1 := of_decide_eq_false w1
        refine And.intro (fun w2 => ?_) (fun w2 => ?_)
        · repeat (first | refine And.intro (fun _ => ?_) (fun h => Bool.noConfusion h) | refine And.intro (fun h => Bool.noConfusion h) (fun _ => ?_))
          exact And.intro (congrArg D.bool (badx (fun h => absurd (of_decide_eq_true w2) (by have := h.2.1; omega)))) rfl
        repeat (first | refine And.intro (fun _ => ?_) (fun h => Bool.noConfusion h) | refine And.intro (fun h => Bool.noConfusion h) (fun _ => ?_))
        have w2 := of_decide_eq_false w2
        show Ok _ _ _ _ _
        refine Ok.loopN hLT hmix [] [0, 2, 3, 4, 5, 6, 7, 8, 11, 15, 63, 68, 83, 87, 95] [0,3,4,5,6,7,8,2] [5,7] (fun n s => ∃ (j : Nat), n = sn.length - j ∧ j ≤ sn.length ∧ x ∉ sn.take j ∧ s = sTj p r x sn sz i k j) (n := sn.length) ⟨0, rfl, Nat.zero_le _, by simp, rfl⟩ ?_
        rintro n s ⟨j, rfl, hj, hjx, rfl⟩
        refine And.intro (fun v1 => ?_) (fun v1 => ?_)
        · have v1 : ((j : Nat) : Int) < ((sn.map rowS).length : Int) := of_decide_eq_true v1
          rw [List.length_map] at v1
          have hwj := wrap_succ (i := j) (n := sn.length) (by omega) (by omega)
          refine ⟨⟨63, [0, 0, 3, 4, 0, 24], [1, 2, 7, 15, 16, 63]⟩, by kernel_rfl, ?_⟩
          refine ⟨(sn).map rowS, rowS ((sn)[j]'(by omega)), rfl, by omega, row_at' rowS (sn) (by omega) (by omega), rfl, of_decide_eq_true rfl, ?_⟩
          refine And.intro rfl ?_
          refine ⟨_, _, rfl, rfl, rfl, ?_⟩
          refine And.intro rfl ?_
          refine And.intro (fun v2 => ?_) (fun v2 => ?_)
          · have v2 := stp_eq v2
            exact And.intro (congrArg D.bool (badx (fun h => h.2.2 (by rw [← v2]; exact List.getElem_mem _)))) rfl
          · have v2 := stp_ne v2
            refine ⟨sn.length - (j + 1), by omega, j + 1, rfl, by omega, ?_, ?_⟩
            · rw [List.take_succ_eq_append_getElem (by omega), List.mem_append]
              rintro (h | h)
              · exact hjx h
              · exact v2 (List.mem_singleton.1 h).symm
            · unfold sTj
              rw [← hwj]
              rfl
        · have v1 : ¬ ((j : Nat) : Int) < ((sn.map rowS).length : Int) := of_decide_eq_false v1
          rw [List.length_map] at v1
          rw [List.take_of_length_le (by omega)] at hjx
          have hxok : 1 ≤ x.ord ∧ x.ord ≤ 1000000 ∧ x ∉ sn := ⟨by omega, by omega, hjx⟩
          rw [decide_eq_true hxok, Bool.true_and] at hkx
          refine And.intro trivial (And.intro (by rcases hsz with rfl | rfl <;> rfl) (And.intro ?_ (And.intro rfl ?_)))
          · show ((sn.map rowS).length + 1) * 16 ≤ 140737488355328
            rw [List.length_map]
            omega
          refine ⟨r.st.length - (k + 1), by omega, k + 1, 2, rfl, by omega, .inr rfl, by rw [htk]; exact hkx, ?_⟩
          unfold sTk
          rw [htk, List.map_append, ← hwk]
          rfl
      · have g1 : ¬ ((k : Nat) : Int) < ((r.st.map rowS).length : Int) := of_decide_eq_false g1
        rw [List.length_map] at g1
        rw [List.drop_eq_nil_of_le (by omega)] at hkx
        have hkx : rightG r.drv (seen ++ r.st) (p.drop (i + 1)) = rightG 0 [] p := hkx
        rw [List.take_of_length_le (by omega)]
        refine ⟨p.length - (i + 1), by omega, i + 1, sz, seen ++ r.st, rfl, by omega, hsz, by rw [List.length_append]; omega, by rw [hls]; omega, by rw [hls]; exact hkx, ?_⟩
        unfold sTi
        rw [← hw]
        rfl
    · have q3 : ¬ ((i : Nat) : Int) > 0 := of_decide_eq_false q3
      have hlt : lastP p i < r.drv := by
        unfold lastP
        rw [dif_neg (by omega)]
        omega
      repeat (first | refine And.intro (fun _ => ?_) (fun h => Bool.noConfusion h) | refine And.intro (fun h => Bool.noConfusion h) (fun _ => ?_))
      refine And.intro (fun q5 => ?_) (fun q5 => ?_)
      · repeat (first | refine And.intro (fun _ => ?_) (fun h => Bool.noConfusion h) | refine And.intro (fun h => Bool.noConfusion h) (fun _ => ?_))
        exact And.intro (congrArg D.bool (bad (fun h => absurd (of_decide_eq_true q5) (by rw [List.length_map]; have := h.2.2.1; omega)))) rfl
      repeat (first | refine And.intro (fun _ => ?_) (fun h => Bool.noConfusion h) | refine And.intro (fun h => Bool.noConfusion h) (fun _ => ?_))
      have q5 := of_decide_eq_false q5
      refine And.intro (fun q6 => ?_) (fun q6 => ?_)
      · repeat (first | refine And.intro (fun _ => ?_) (fun h => Bool.noConfusion h) | refine And.intro (fun h => Bool.noConfusion h) (fun _ => ?_))
        exact And.intro (congrArg D.bool (bad (fun h => absurd (of_decide_eq_true q6) (by have := h.2.2.2.1; omega)))) rfl
      repeat (first | refine And.intro (fun _ => ?_) (fun h => Bool.noConfusion h) | refine And.intro (fun h => Bool.noConfusion h) (fun _ => ?_))
      have q6 := of_decide_eq_false q6
      refine And.intro (fun q7 => ?_) (fun q7 => ?_)
      · repeat (first | refine And.intro (fun _ => ?_) (fun h => Bool.noConfusion h) | refine And.intro (fun h => Bool.noConfusion h) (fun _ => ?_))
        exact And.intro (congrArg D.bool (bad (fun h => absurd (of_decide_eq_true q7) (by rw [List.length_map]; have := h.2.2.2.2; omega)))) rfl
      repeat (first | refine And.intro (fun _ => ?_) (fun h => Bool.noConfusion h) | refine And.intro (fun h => Bool.noConfusion h) (fun _ => ?_))
      have q7 := of_decide_eq_false q7
      rw [List.length_map] at q5 q7
      have hok : hdOK (lastP p i) r := ⟨hlt, by omega, by omega, by omega, by omega⟩
      rw [decide_eq_true hok, Bool.true_and] at hix
      show Ok _ _ _ _ _
      refine Ok.loopN hLT hmix [] [0, 2, 3, 4, 5, 6, 7, 8, 11, 15, 63, 68, 83, 87, 95] [0,3,4,5,6,2] [5] (fun n s => ∃ (k sz : Nat), n = r.st.length - k ∧ k ≤ r.st.length ∧ (sz = 0 ∨ sz = 2) ∧ (stOK (seen ++ r.st.take k) (r.st.drop k) && rightG r.drv (seen ++ r.st) (p.drop (i + 1))) = rightG 0 [] p ∧ s = sTk p r (seen ++ r.st.take k) sz i k) (n := r.st.length) ⟨0, sz, rfl, Nat.zero_le _, hsz, by rw [List.take_zero, List.append_nil]; exact hix, by rw [List.take_zero, List.append_nil]; rfl⟩ ?_
      rintro n s ⟨k, sz, rfl, hk, hsz, hkx, rfl⟩
      refine And.intro (fun g1 => ?_) (fun g1 => ?_)
      · have g1 : ((k : Nat) : Int) < ((r.st.map rowS).length : Int) := of_decide_eq_true g1
        rw [List.length_map] at g1
        have hwk := wrap_succ (i := k) (n := r.st.length) (by omega) (by omega)
        rw [stOK_at (by omega)] at hkx
        have htk : seen ++ r.st.take (k + 1) = seen ++ r.st.take k ++ [r.st[k]] := by
          rw [List.append_assoc, List.take_succ_eq_append_getElem (by omega)]
        have hsn : (seen ++ r.st.take k).length ≤ 800 := by
          rw [List.length_append, List.length_take]
          omega
        rw [htk] at hkx
        refine ⟨(r.st).map rowS, rowS ((r.st)[k]'(by omega)), rfl, by omega, row_at' rowS (r.st) (by omega) (by omega), rfl, of_decide_eq_true rfl, ?_⟩
        generalize r.st[k] = x at hkx htk ⊢
        generalize seen ++ r.st.take k = sn at hkx htk hsn ⊢
        have badx : ¬ (1 ≤ x.ord ∧ x.ord ≤ 1000000 ∧ x ∉ sn) → false = rightG 0 [] p := fun h => by rw [← hkx, decide_eq_false h]; rfl
        refine And.intro (fun w1 => ?_) (fun w1 => ?_)
        · repeat (first | refine And.intro (fun _ => ?_) (fun h => Bool.noConfusion h) | refine And.intro (fun h => Bool.noConfusion h) (fun _ => ?_))
          exact And.intro (congrArg D.bool (badx (fun h => absurd (of_decide_eq_true w1) (by have := h.1; omega)))) rfl
        repeat (first | refine And.intro (fun _ => ?_) (fun h => Bool.noConfusion h) | refine And.intro (fun h => Bool.noConfusion h) (fun _ => ?_))
        have w1 := of_decide_eq_false w1
        refine And.intro (fun w2 => ?_) (fun w2 => ?_)
        · repeat (first | refine And.intro (fun _ => ?_) (fun h => Bool.noConfusion h) | refine And.intro (fun h => Bool.noConfusion h) (fun _ => ?_))
          exact And.intro (congrArg D.bool (badx (fun h => absurd (of_decide_eq_true w2) (by have := h.2.1; omega)))) rfl
        repeat (first | refine And.intro (fun _ => ?_) (fun h => Bool.noConfusion h) | refine And.intro (fun h => Bool.noConfusion h) (fun _ => ?_))
        have w2 := of_decide_eq_false w2
        show Ok _ _ _ _ _
        refine Ok.loopN hLT hmix [] [0, 2, 3, 4, 5, 6, 7, 8, 11, 15, 63, 68, 83, 87, 95] [0,3,4,5,6,7,8,2] [5,7] (fun n s => ∃ (j : Nat), n = sn.length - j ∧ j ≤ sn.length ∧ x ∉ sn.take j ∧ s = sTj p r x sn sz i k j) (n := sn.length) ⟨0, rfl, Nat.zero_le _, by simp, rfl⟩ ?_
        rintro n s ⟨j, rfl, hj, hjx, rfl⟩
        refine And.intro (fun v1 => ?_) (fun v1 => ?_)
        · have v1 : ((j : Nat) : Int) < ((sn.map rowS).length : Int) := of_decide_eq_true v1
          rw [List.length_map] at v1
          have hwj := wrap_succ (i := j) (n := sn.length) (by omega) (by omega)
          refine ⟨⟨63, [0, 0, 3, 4, 0, 24], [1, 2, 7, 15, 16, 63]⟩, by kernel_rfl, ?_⟩
          refine ⟨(sn).map rowS, rowS ((sn)[j]'(by omega)), rfl, by omega, row_at' rowS (sn) (by omega) (by omega), rfl, of_decide_eq_true rfl, ?_⟩
          refine And.intro rfl ?_
          refine ⟨_, _, rfl, rfl, rfl, ?_⟩
          refine And.intro rfl ?_
          refine And.intro (fun v2 => ?_) (fun v2 => ?_)
          · have v2 := stp_eq v2
            exact And.intro (congrArg D.bool (badx (fun h => h.2.2 (by rw [← v2]; exact List.getElem_mem _)))) rfl
          · have v2 := stp_ne v2
            refine ⟨sn.length - (j + 1), by omega, j + 1, rfl, by omega, ?_, ?_⟩
            · rw [List.take_succ_eq_append_getElem (by omega), List.mem_append]
              rintro (h | h)
              · exact hjx h
              · exact v2 (List.mem_singleton.1 h).symm
            · unfold sTj
              rw [← hwj]
              rfl
        · have v1 : ¬ ((j : Nat) : Int) < ((sn.map rowS).length : Int) := of_decide_eq_false v1
          rw [List.length_map] at v1
          rw [List.take_of_length_le (by omega)] at hjx
          have hxok : 1 ≤ x.ord ∧ x.ord ≤ 1000000 ∧ x ∉ sn := ⟨by omega, by omega, hjx⟩
          rw [decide_eq_true hxok, Bool.true_and] at hkx
          refine And.intro trivial (And.intro (by rcases hsz with rfl | rfl <;> rfl) (And.intro ?_ (And.intro rfl ?_)))
          · show ((sn.map rowS).length + 1) * 16 ≤ 140737488355328
            rw [List.length_map]
            omega
          refine ⟨r.st.length - (k + 1), by omega, k + 1, 2, rfl, by omega, .inr rfl, by rw [htk]; exact hkx, ?_⟩
          unfold sTk
          rw [htk, List.map_append, ← hwk]
          rfl
      · have g1 : ¬ ((k : Nat) : Int) < ((r.st.map rowS).length : Int) := of_decide_eq_false g1
        rw [List.length_map] at g1
        rw [List.drop_eq_nil_of_le (by omega)] at hkx
        have hkx : rightG r.drv (seen ++ r.st) (p.drop (i + 1)) = rightG 0 [] p := hkx
        rw [List.take_of_length_le (by omega)]
        refine ⟨p.length - (i + 1), by omega, i + 1, sz, seen ++ r.st, rfl, by omega, hsz, by rw [List.length_append]; omega, by rw [hls]; omega, by rw [hls]; exact hkx, ?_⟩
        unfold sTi
        rw [← hw]
        rfl
  · have h1 : ¬ ((i : Nat) : Int) < ((p.map rowR).length : Int) := of_decide_eq_false h1
    rw [List.length_map] at h1
    rw [List.drop_eq_nil_of_le (by omega)] at hix
    rw [← hix]
    exact And.intro rfl rfl
theorem c_drayref9_Right (p : Pln) {r : Nat} {sto : List Ob} (hr : r ≤ sto.length) : Tri Tryz.prog 98 r [encP p] sto (fun d k => d = .bool (rightP p) ∧ k = sto) :=
  (c_drayref9_Right_0 p).pure rfl (nrBL_P rfl) rfl rfl hr
end Go.Lv

namespace Go.Lv
open Go.Proofs

structure Win where
  lo : Int
  hi : Int
  deriving DecidableEq
structure Sit where
  place : Int
  w : Win
  serv : Int
  deriving DecidableEq
structure Ord where
  id : Int
  size : Int
  pick : Sit
  drop : Sit
  deriving DecidableEq
structure Drv where
  id : Int
  room : Int
  home : Int
  w : Win
  ret : Bool
  deriving DecidableEq
structure Mp where
  n : Int
  l : List Int
  deriving DecidableEq
structure okMp (m : Mp) : Prop where
  n1 : 1 ≤ m.n
  n12 : m.n ≤ 12
  len : (m.l.length : Int) = m.n * m.n
  t : ∀ x, x ∈ m.l → 0 ≤ x ∧ x ≤ 1000000
noncomputable def rowW (w : Win) : List D := [.int .i64 w.lo, .int .i64 w.hi]
noncomputable def rowSi (s : Sit) : List D := [.int .i64 s.place, .int .i64 s.w.lo, .int .i64 s.w.hi, .int .i64 s.serv]
noncomputable def rowO (o : Ord) : List D := [.int .i64 o.id, .int .i64 o.size, .int .i64 o.pick.place, .int .i64 o.pick.w.lo, .int .i64 o.pick.w.hi, .int .i64 o.pick.serv, .int .i64 o.drop.place, .int .i64 o.drop.w.lo, .int .i64 o.drop.w.hi, .int .i64 o.drop.serv]
noncomputable def rowDr (d : Drv) : List D := [.int .i64 d.id, .int .i64 d.room, .int .i64 d.home, .int .i64 d.w.lo, .int .i64 d.w.hi, .bool d.ret]
noncomputable def mcs (m : Mp) : List D := [.int .i64 m.n, .list .imm (m.l.map rowI)]
noncomputable def mbox (m : Mp) : Ob := .box (mcs m)
noncomputable def encOs (os : List Ord) : D := .list .imm (os.map rowO)
noncomputable def encDs (ds : List Drv) : D := .list .imm (ds.map rowDr)
theorem nrBLL_O : ∀ l : List Ord, nrBLL 0 (l.map rowO) = true
  | [] => rfl
  | b :: r => by
    show (nrBL 0 (rowO b) && nrBLL 0 (r.map rowO)) = true
    rw [nrBLL_O r]
    rfl
theorem nrBLL_Dr : ∀ l : List Drv, nrBLL 0 (l.map rowDr) = true
  | [] => rfl
  | b :: r => by
    show (nrBL 0 (rowDr b) && nrBLL 0 (r.map rowDr)) = true
    rw [nrBLL_Dr r]
    rfl
theorem nrBL_O {l : List Ord} {ds : List D} (hd : nrBL 0 ds = true) : nrBL 0 (encOs l :: ds) = true := by
  show (nrBLL 0 (l.map rowO) && nrBL 0 ds) = true
  rw [nrBLL_O, hd]
  rfl
theorem nrBL_Dr {l : List Drv} {ds : List D} (hd : nrBL 0 ds = true) : nrBL 0 (encDs l :: ds) = true := by
  show (nrBLL 0 (l.map rowDr) && nrBL 0 ds) = true
  rw [nrBLL_Dr, hd]
  rfl
theorem nr_mcs (m : Mp) : nrBL 0 (mcs m) = true := by
  show (nrBLL 0 (m.l.map rowI) && true) = true
  rw [nrBLL_I]
  rfl
theorem nrBL_up {k : Nat} {ds : List D} (h : nrBL 0 ds = true) (x : D) (hx : x ∈ ds) : NR k x := (nrBL_nr h x hx).up (Nat.zero_le _)
theorem Tri.boxRO {P : Program} {f : Nat} {cs : List D} {args : List D} {R : D → Prop} (h : Tri P f 1 (.gptr 0 0 :: args) [.box cs] (fun d l => R d ∧ l = [.box cs])) (hc : nrBL 0 cs = true) (ha : args.all cellsOK = true) (hn : nrBL 0 args = true) (hd : ∀ d, R d → partsOK d = true ∧ nrB 0 d = true)
    {r b : Nat} {sto : List Ob} (hr : r ≤ sto.length) (hb : sto[b]? = some (.box cs)) (hbr : b < r) : Tri P f r (.gptr b 0 :: args) sto (fun d l => R d ∧ l = sto) := by
  have := Tri.ren (r := r) (sto := sto) (fun _ => b) h (fun i j hi hj e => by
      have hi : i < 1 := hi
      have hj : j < 1 := hj
      omega) (fun i o hi => by
      match i, hi with
      | 0, hi =>
        simp at hi
        subst hi
        show _ = some (Ob.box (renL _ cs))
        rw [renL_id _ hc]
        exact hb
      | i + 1, hi => simp at hi) (fun i hi => by
      have hi : i < 1 := hi
      exact ⟨fun _ => hbr, fun _ => by omega⟩) hr (by show (true && args.all cellsOK) = true; rw [ha]; rfl) (fun x hx => by
      rcases List.mem_cons.1 hx with e | hx
      · rw [e]; exact .gptr _ _ (by show 0 < 1; omega)
      · exact nrBL_up hn x hx) (fun o ho => by
      have : o = .box cs := by simpa using ho
      rw [this]
      exact fun x hx => nrBL_up hc x hx) rfl (fun d l ⟨h1, h2⟩ => by subst h2; exact ⟨(hd _ h1).1, rfl⟩)
  rw [show renL (fun _ => b) (.gptr 0 0 :: args) = .gptr b 0 :: args by show D.gptr b 0 :: renL _ args = _; rw [renL_id _ hn]] at this
  refine this.mono fun d l ⟨d1, l1, ⟨h1, h2⟩, h3, h4⟩ => ?_
  subst h2
  refine ⟨by rw [h3, renD_id _ (hd _ h1).2]; exact h1, ?_⟩
  rw [h4]
  show (sto.set b (.box (renL _ cs))) ++ [] = sto
  rw [renL_id _ hc, List.append_nil]
  apply List.ext_getElem?
  intro i
  rw [List.getElem?_set]
  split
  · rename_i e
    subst e
    rw [if_pos (List.getElem?_eq_some_iff.1 hb).1, hb]
  · rfl

noncomputable def timeM (m : Mp) (a b : Int) : Int := if 0 ≤ a ∧ 0 ≤ b ∧ a < m.n ∧ b < m.n then m.l.getD (a * m.n + b).toNat 0 else 0
noncomputable def inM (m : Mp) (a b : Int) : Bool := decide (0 ≤ a ∧ 0 ≤ b ∧ a < m.n ∧ b < m.n)
noncomputable def timeD (m : Mp) (a b : Int) : D := .tup [.int .i64 (timeM m a b), .bool (inM m a b)]
noncomputable def rightW (w : Win) : Bool := decide (0 ≤ w.lo ∧ w.lo ≤ w.hi ∧ w.hi ≤ 1000000)
theorem idx_lt {n a b : Int} (h1 : 0 ≤ a) (h2 : 0 ≤ b) (h3 : a < n) (h4 : b < n) : 0 ≤ a * n + b ∧ a * n + b < n * n := by
  have h5 : 0 ≤ a * n := Int.mul_nonneg h1 (by omega)
  have h6 : a * n ≤ (n - 1) * n := Int.mul_le_mul_of_nonneg_right (by omega) (by omega)
  rw [Int.sub_mul] at h6
  omega
end Go.Lv

namespace Go.Lv
open Go.Proofs

theorem rightW_t {w : Win} (h1 : 0 ≤ w.lo) (h2 : w.lo ≤ w.hi) (h3 : w.hi ≤ 1000000) : rightW w = true := decide_eq_true ⟨h1, h2, h3⟩
theorem rightW_f {w : Win} (h : ¬ (0 ≤ w.lo ∧ w.lo ≤ w.hi ∧ w.hi ≤ 1000000)) : rightW w = false := decide_eq_false h
set_option maxHeartbeats 2000000 in
theorem c_span_Right_0 (w : Win) : Tri Tryz.prog 81 0 [.agg (rowW w)] [] (fun d k => d = .bool (rightW w) ∧ k = []) := by
  refine Tri.walk2 (L := LT) (c := {n := 18, ko := [2]}) [] [0, 1, 2] hLT hmix Tryz.func81 rfl rfl ⟨rfl, rfl⟩ (by show 1 ≤ 18; decide) (by first | exact Nat.zero_le _ | exact Nat.le_refl _ | exact Nat.le_succ 1 | decide) ?_
  refine And.intro (fun h1 => ?_) (fun h1 => ?_)
  · have h1 := of_decide_eq_true h1
    repeat (first | refine And.intro (fun _ => ?_) (fun h => Bool.noConfusion h) | refine And.intro (fun h => Bool.noConfusion h) (fun _ => ?_))
    refine And.intro (fun h2 => ?_) (fun h2 => ?_)
    · have h2 := of_decide_eq_true h2
      repeat (first | refine And.intro (fun _ => ?_) (fun h => Bool.noConfusion h) | refine And.intro (fun h => Bool.noConfusion h) (fun _ => ?_))
      refine And.intro (fun h3 => ?_) (fun h3 => ?_)
      · rw [rightW_t h1 h2 (of_decide_eq_true h3)]
        exact And.intro rfl rfl
      · rw [rightW_f (fun h => of_decide_eq_false h3 h.2.2)]
        exact And.intro rfl rfl
    · repeat (first | refine And.intro (fun _ => ?_) (fun h => Bool.noConfusion h) | refine And.intro (fun h => Bool.noConfusion h) (fun _ => ?_))
      rw [rightW_f (fun h => of_decide_eq_false h2 h.2.1)]
      exact And.intro rfl rfl
  · repeat (first | refine And.intro (fun _ => ?_) (fun h => Bool.noConfusion h) | refine And.intro (fun h => Bool.noConfusion h) (fun _ => ?_))
    rw [rightW_f (fun h => of_decide_eq_false h1 h.1)]
    exact And.intro rfl rfl
theorem c_span_Right (w : Win) {r : Nat} {sto : List Ob} (hr : r ≤ sto.length) : Tri Tryz.prog 81 r [.agg (rowW w)] sto (fun d k => d = .bool (rightW w) ∧ k = sto) :=
  (c_span_Right_0 w).pure rfl rfl rfl rfl hr
set_option maxHeartbeats 2000000 in
theorem c_drayref4_Right_0 (w : Win) : Tri Tryz.prog 157 0 [.agg (rowW w)] [] (fun d k => d = .bool (rightW w) ∧ k = []) := by
  refine Tri.walk2 (L := LT) (c := {n := 18, ko := [2]}) [] [0, 1, 2] hLT hmix Tryz.func157 rfl rfl ⟨rfl, rfl⟩ (by show 1 ≤ 18; decide) (by first | exact Nat.zero_le _ | exact Nat.le_refl _ | exact Nat.le_succ 1 | decide) ?_
  refine And.intro (fun h1 => ?_) (fun h1 => ?_)
  · have h1 := of_decide_eq_true h1
    repeat (first | refine And.intro (fun _ => ?_) (fun h => Bool.noConfusion h) | refine And.intro (fun h => Bool.noConfusion h) (fun _ => ?_))
    refine And.intro (fun h2 => ?_) (fun h2 => ?_)
    · have h2 := of_decide_eq_true h2
      repeat (first | refine And.intro (fun _ => ?_) (fun h => Bool.noConfusion h) | refine And.intro (fun h => Bool.noConfusion h) (fun _ => ?_))
      refine And.intro (fun h3 => ?_) (fun h3 => ?_)
      · rw [rightW_t h1 h2 (of_decide_eq_true h3)]
        exact And.intro rfl rfl
      · rw [rightW_f (fun h => of_decide_eq_false h3 h.2.2)]
        exact And.intro rfl rfl
    · repeat (first | refine And.intro (fun _ => ?_) (fun h => Bool.noConfusion h) | refine And.intro (fun h => Bool.noConfusion h) (fun _ => ?_))
      rw [rightW_f (fun h => of_decide_eq_false h2 h.2.1)]
      exact And.intro rfl rfl
  · repeat (first | refine And.intro (fun _ => ?_) (fun h => Bool.noConfusion h) | refine And.intro (fun h => Bool.noConfusion h) (fun _ => ?_))
    rw [rightW_f (fun h => of_decide_eq_false h1 h.1)]
    exact And.intro rfl rfl
theorem c_drayref4_Right (w : Win) {r : Nat} {sto : List Ob} (hr : r ≤ sto.length) : Tri Tryz.prog 157 r [.agg (rowW w)] sto (fun d k => d = .bool (rightW w) ∧ k = sto) :=
  (c_drayref4_Right_0 w).pure rfl rfl rfl rfl hr
theorem inM_t {m : Mp} {a b : Int} (h1 : 0 ≤ a) (h2 : 0 ≤ b) (h3 : a < m.n) (h4 : b < m.n) : timeD m a b = .tup [.int .i64 (m.l.getD (a * m.n + b).toNat 0), .bool true] := by
  unfold timeD timeM inM
  rw [if_pos ⟨h1, h2, h3, h4⟩, decide_eq_true ⟨h1, h2, h3, h4⟩]
theorem inM_f {m : Mp} {a b : Int} (h : ¬ (0 ≤ a ∧ 0 ≤ b ∧ a < m.n ∧ b < m.n)) : timeD m a b = .tup [.int .i64 0, .bool false] := by
  unfold timeD timeM inM
  rw [if_neg h, decide_eq_false h]
theorem okMp.at {m : Mp} (hm : okMp m) {a b : Int} (h1 : 0 ≤ a) (h2 : 0 ≤ b) (h3 : a < m.n) (h4 : b < m.n) : 0 ≤ a * m.n + b ∧ (a * m.n + b).toNat < m.l.length ∧ a * m.n ≤ 144 ∧ 0 ≤ a * m.n ∧ IntKind.i64.wrap (IntKind.i64.wrap (a * m.n) + b) = (((a * m.n + b).toNat : Nat) : Int) := by
  have h5 := idx_lt h1 h2 h3 h4
  have h6 := hm.len
  have h7 : 0 ≤ a * m.n := Int.mul_nonneg h1 (by omega)
  have h8 : m.n * m.n ≤ 12 * 12 := Int.mul_le_mul hm.n12 hm.n12 (by have := hm.n1; omega) (by decide)
  have h9 := hm.n12
  refine ⟨h5.1, by omega, by omega, h7, ?_⟩
  rw [wrap64 (z := a * m.n) (by omega) (by omega), wrap64 (by omega) (by omega)]
  omega
set_option maxHeartbeats 2000000 in
theorem c_geo_Time_0 (m : Mp) (hm : okMp m) (a b : Int) : Tri Tryz.prog 132 1 [.gptr 0 0, .int .i64 a, .int .i64 b] [mbox m] (fun d k => d = timeD m a b ∧ k = [mbox m]) := by
  refine Tri.walk2 (L := LT) (c := {n := 48, ko := [6, 7]}) [] [0, 1, 2, 6, 7, 33] hLT hmix Tryz.func132 rfl rfl ⟨rfl, rfl⟩ (by show 3 ≤ 48; decide) (by first | exact Nat.zero_le _ | exact Nat.le_refl _ | exact Nat.le_succ 1 | decide) ?_
  repeat (first | refine And.intro (fun _ => ?_) (fun h => Bool.noConfusion h) | refine And.intro (fun h => Bool.noConfusion h) (fun _ => ?_))
  refine And.intro (fun h0 => ?_) (fun h0 => ?_)
  · have h0 := of_decide_eq_true h0
    repeat (first | refine And.intro (fun _ => ?_) (fun h => Bool.noConfusion h) | refine And.intro (fun h => Bool.noConfusion h) (fun _ => ?_))
    rw [inM_f (by omega)]
    exact And.intro rfl rfl
  have h0 := of_decide_eq_false h0
  repeat (first | refine And.intro (fun _ => ?_) (fun h => Bool.noConfusion h) | refine And.intro (fun h => Bool.noConfusion h) (fun _ => ?_))
  refine And.intro (fun h1 => ?_) (fun h1 => ?_)
  · have h1 := of_decide_eq_true h1
    repeat (first | refine And.intro (fun _ => ?_) (fun h => Bool.noConfusion h) | refine And.intro (fun h => Bool.noConfusion h) (fun _ => ?_))
    rw [inM_f (by omega)]
    exact And.intro rfl rfl
  have h1 := of_decide_eq_false h1
  repeat (first | refine And.intro (fun _ => ?_) (fun h => Bool.noConfusion h) | refine And.intro (fun h => Bool.noConfusion h) (fun _ => ?_))
  refine And.intro (fun h2 => ?_) (fun h2 => ?_)
  · have h2 := of_decide_eq_true h2
    repeat (first | refine And.intro (fun _ => ?_) (fun h => Bool.noConfusion h) | refine And.intro (fun h => Bool.noConfusion h) (fun _ => ?_))
    rw [inM_f (by omega)]
    exact And.intro rfl rfl
  have h2 := of_decide_eq_false h2
  repeat (first | refine And.intro (fun _ => ?_) (fun h => Bool.noConfusion h) | refine And.intro (fun h => Bool.noConfusion h) (fun _ => ?_))
  refine And.intro (fun h3 => ?_) (fun h3 => ?_)
  · have h3 := of_decide_eq_true h3
    repeat (first | refine And.intro (fun _ => ?_) (fun h => Bool.noConfusion h) | refine And.intro (fun h => Bool.noConfusion h) (fun _ => ?_))
    rw [inM_f (by omega)]
    exact And.intro rfl rfl
  have h3 := of_decide_eq_false h3
  repeat (first | refine And.intro (fun _ => ?_) (fun h => Bool.noConfusion h) | refine And.intro (fun h => Bool.noConfusion h) (fun _ => ?_))
  obtain ⟨q1, q2, q3, q4, q5⟩ := hm.at (a := a) (b := b) (by omega) (by omega) (by omega) (by omega)
  refine ⟨⟨65535, [0, 1, 2, 4, 0, 0, 32, 64, 128, 272, 0, 1536, 2056, 4096, 16383, 32767], [1, 3, 7, 15, 16, 32, 96, 224, 480, 1008, 1024, 4080, 8191, 16383, 32767, 65535]⟩, by kernel_rfl, ?_⟩
  refine ⟨(m.l).map rowI, rowI ((m.l)[(a * m.n + b).toNat]'q2), rfl, by rw [q5]; exact Int.natCast_nonneg _, row_at' rowI m.l q5 q2, rfl, of_decide_eq_true rfl, ?_⟩
  refine And.intro rfl ?_
  refine And.intro ?_ trivial
  refine And.intro (by repeat (first | exact trivial | refine And.intro ⟨rfl, rfl⟩ ?_ | refine And.intro ⟨_, _, rfl, by rw [q5]; exact Int.natCast_nonneg _, row_at' rowI m.l q5 q2, rfl, of_decide_eq_true rfl, And.intro rfl (And.intro rfl rfl)⟩ ?_)) ?_
  refine And.intro ?_ trivial
  refine And.intro (by repeat (first | exact trivial | refine And.intro ⟨rfl, rfl⟩ ?_ | refine And.intro ⟨_, _, rfl, by rw [q5]; exact Int.natCast_nonneg _, row_at' rowI m.l q5 q2, rfl, of_decide_eq_true rfl, And.intro rfl (And.intro rfl rfl)⟩ ?_)) ?_
  rw [inM_t (by omega) (by omega) (by omega) (by omega), List.getD_eq_getElem?_getD, List.getElem?_eq_getElem q2]
  exact And.intro rfl rfl
theorem c_geo_Time (m : Mp) (hm : okMp m) (a b : Int) {r b1 : Nat} {sto : List Ob} (hr : r ≤ sto.length) (hb : sto[b1]? = some (mbox m)) (hbr : b1 < r) : Tri Tryz.prog 132 r [.gptr b1 0, .int .i64 a, .int .i64 b] sto (fun d k => d = timeD m a b ∧ k = sto) :=
  (c_geo_Time_0 m hm a b).boxRO (nr_mcs m) rfl rfl (fun d h => by subst h; exact ⟨rfl, rfl⟩) hr hb hbr
set_option maxHeartbeats 2000000 in
theorem c_drayref4_Time_0 (m : Mp) (hm : okMp m) (a b : Int) : Tri Tryz.prog 155 1 [.gptr 0 0, .int .i64 a, .int .i64 b] [mbox m] (fun d k => d = timeD m a b ∧ k = [mbox m]) := by
  refine Tri.walk2 (L := LT) (c := {n := 44, ko := [6, 7]}) [] [0, 1, 2, 6, 7, 29] hLT hmix Tryz.func155 rfl rfl ⟨rfl, rfl⟩ (by show 3 ≤ 44; decide) (by first | exact Nat.zero_le _ | exact Nat.le_refl _ | exact Nat.le_succ 1 | decide) ?_
  repeat (first | refine And.intro (fun _ => ?_) (fun h => Bool.noConfusion h) | refine And.intro (fun h => Bool.noConfusion h) (fun _ => ?_))
  refine And.intro (fun h0 => ?_) (fun h0 => ?_)
  · have h0 := of_decide_eq_true h0
    repeat (first | refine And.intro (fun _ => ?_) (fun h => Bool.noConfusion h) | refine And.intro (fun h => Bool.noConfusion h) (fun _ => ?_))
    rw [inM_f (by omega)]
    exact And.intro rfl rfl
  have h0 := of_decide_eq_false h0
  repeat (first | refine And.intro (fun _ => ?_) (fun h => Bool.noConfusion h) | refine And.intro (fun h => Bool.noConfusion h) (fun _ => ?_))
  refine And.intro (fun h1 => ?_) (fun h1 => ?_)
  · have h1 := of_decide_eq_true h1
    repeat (first | refine And.intro (fun _ => ?_) (fun h => Bool.noConfusion h) | refine And.intro (fun h => Bool.noConfusion h) (fun _ => ?_))
    rw [inM_f (by omega)]
    exact And.intro rfl rfl
  have h1 := of_decide_eq_false h1
  repeat (first | refine And.intro (fun _ => ?_) (fun h => Bool.noConfusion h) | refine And.intro (fun h => Bool.noConfusion h) (fun _ => ?_))
  refine And.intro (fun h2 => ?_) (fun h2 => ?_)
  · have h2 := of_decide_eq_true h2
    repeat (first | refine And.intro (fun _ => ?_) (fun h => Bool.noConfusion h) | refine And.intro (fun h => Bool.noConfusion h) (fun _ => ?_))
    rw [inM_f (by omega)]
    exact And.intro rfl rfl
  have h2 := of_decide_eq_false h2
  repeat (first | refine And.intro (fun _ => ?_) (fun h => Bool.noConfusion h) | refine And.intro (fun h => Bool.noConfusion h) (fun _ => ?_))
  refine And.intro (fun h3 => ?_) (fun h3 => ?_)
  · have h3 := of_decide_eq_true h3
    repeat (first | refine And.intro (fun _ => ?_) (fun h => Bool.noConfusion h) | refine And.intro (fun h => Bool.noConfusion h) (fun _ => ?_))
    rw [inM_f (by omega)]
    exact And.intro rfl rfl
  have h3 := of_decide_eq_false h3
  repeat (first | refine And.intro (fun _ => ?_) (fun h => Bool.noConfusion h) | refine And.intro (fun h => Bool.noConfusion h) (fun _ => ?_))
  obtain ⟨q1, q2, q3, q4, q5⟩ := hm.at (a := a) (b := b) (by omega) (by omega) (by omega) (by omega)
  refine ⟨⟨65535, [0, 1, 2, 4, 0, 0, 32, 64, 128, 272, 0, 1536, 2056, 4096, 16383, 32767], [1, 3, 7, 15, 16, 32, 96, 224, 480, 1008, 1024, 4080, 8191, 16383, 32767, 65535]⟩, by kernel_rfl, ?_⟩
  refine ⟨(m.l).map rowI, rowI ((m.l)[(a * m.n + b).toNat]'q2), rfl, by rw [q5]; exact Int.natCast_nonneg _, row_at' rowI m.l q5 q2, rfl, of_decide_eq_true rfl, ?_⟩
  refine And.intro rfl ?_
  refine And.intro ?_ trivial
  refine And.intro (by repeat (first | exact trivial | refine And.intro ⟨rfl, rfl⟩ ?_ | refine And.intro ⟨_, _, rfl, by rw [q5]; exact Int.natCast_nonneg _, row_at' rowI m.l q5 q2, rfl, of_decide_eq_true rfl, And.intro rfl (And.intro rfl rfl)⟩ ?_)) ?_
  refine And.intro ?_ trivial
  refine And.intro (by repeat (first | exact trivial | refine And.intro ⟨rfl, rfl⟩ ?_ | refine And.intro ⟨_, _, rfl, by rw [q5]; exact Int.natCast_nonneg _, row_at' rowI m.l q5 q2, rfl, of_decide_eq_true rfl, And.intro rfl (And.intro rfl rfl)⟩ ?_)) ?_
  rw [inM_t (by omega) (by omega) (by omega) (by omega), List.getD_eq_getElem?_getD, List.getElem?_eq_getElem q2]
  exact And.intro rfl rfl
theorem c_drayref4_Time (m : Mp) (hm : okMp m) (a b : Int) {r b1 : Nat} {sto : List Ob} (hr : r ≤ sto.length) (hb : sto[b1]? = some (mbox m)) (hbr : b1 < r) : Tri Tryz.prog 155 r [.gptr b1 0, .int .i64 a, .int .i64 b] sto (fun d k => d = timeD m a b ∧ k = sto) :=
  (c_drayref4_Time_0 m hm a b).boxRO (nr_mcs m) rfl rfl (fun d h => by subst h; exact ⟨rfl, rfl⟩) hr hb hbr
end Go.Lv

namespace Go.Lv
open Go.Proofs

noncomputable def errO (n : Int) (o : Ord) : Int :=
  if ¬ (1 ≤ o.id ∧ o.id ≤ 1000000) then 1 else
  if ¬ (1 ≤ o.size ∧ o.size ≤ 1000) then 14 else
  if ¬ ((0 ≤ o.pick.place ∧ o.pick.place < n) ∧ (0 ≤ o.drop.place ∧ o.drop.place < n)) then 12 else
  if ¬ ((0 ≤ o.pick.w.lo ∧ o.pick.w.lo ≤ o.pick.w.hi ∧ o.pick.w.hi ≤ 1000000) ∧ (0 ≤ o.drop.w.lo ∧ o.drop.w.lo ≤ o.drop.w.hi ∧ o.drop.w.hi ≤ 1000000)) then 13 else
  if ¬ ((0 ≤ o.pick.serv ∧ o.pick.serv ≤ 1000000) ∧ (0 ≤ o.drop.serv ∧ o.drop.serv ≤ 1000000)) then 7 else 0
noncomputable def errD (n : Int) (d : Drv) : Int :=
  if ¬ (1 ≤ d.id ∧ d.id ≤ 1000000) then 1 else
  if ¬ (1 ≤ d.room ∧ d.room ≤ 1000) then 14 else
  if ¬ (0 ≤ d.home ∧ d.home < n) then 12 else
  if ¬ (0 ≤ d.w.lo ∧ d.w.lo ≤ d.w.hi ∧ d.w.hi ≤ 1000000) then 13 else 0
theorem c_deal_within_0 (n lo hi : Int) : Tri Tryz.prog 79 0 [.int .i64 n, .int .i64 lo, .int .i64 hi] [] (fun d k => d = .bool (decide (lo ≤ n ∧ n ≤ hi)) ∧ k = []) := by
  refine Tri.walk2 (L := LT) (c := {n := 15, ko := [6]}) [] [0, 1, 2, 6] hLT hmix Tryz.func79 rfl rfl ⟨rfl, rfl⟩ (by show 3 ≤ 15; decide) (by first | exact Nat.zero_le _ | exact Nat.le_refl _ | exact Nat.le_succ 1 | decide) ?_
  refine And.intro (fun h1 => ?_) (fun h1 => ?_)
  · have h1 := of_decide_eq_true h1
    repeat (first | refine And.intro (fun _ => ?_) (fun h => Bool.noConfusion h) | refine And.intro (fun h => Bool.noConfusion h) (fun _ => ?_))
    refine And.intro (fun h2 => ?_) (fun h2 => ?_)
    · rw [decide_eq_true (show lo ≤ n ∧ n ≤ hi from ⟨h1, of_decide_eq_true h2⟩)]
      exact And.intro rfl rfl
    · rw [decide_eq_false (show ¬ (lo ≤ n ∧ n ≤ hi) from fun h => of_decide_eq_false h2 h.2)]
      exact And.intro rfl rfl
  · repeat (first | refine And.intro (fun _ => ?_) (fun h => Bool.noConfusion h) | refine And.intro (fun h => Bool.noConfusion h) (fun _ => ?_))
    rw [decide_eq_false (show ¬ (lo ≤ n ∧ n ≤ hi) from fun h => of_decide_eq_false h1 h.1)]
    exact And.intro rfl rfl
theorem c_deal_within (n lo hi : Int) {r : Nat} {sto : List Ob} (hr : r ≤ sto.length) : Tri Tryz.prog 79 r [.int .i64 n, .int .i64 lo, .int .i64 hi] sto (fun d k => d = .bool (decide (lo ≤ n ∧ n ≤ hi)) ∧ k = sto) :=
  (c_deal_within_0 n lo hi).pure rfl rfl rfl rfl hr
theorem c_geo_Places_0 (m : Mp) : Tri Tryz.prog 124 1 [.gptr 0 0] [mbox m] (fun d k => d = .int .i64 m.n ∧ k = [mbox m]) := by
  refine Tri.walk2 (L := LT) (c := {n := 9, ko := [2]}) [] [0, 2, 4] hLT hmix Tryz.func124 rfl rfl ⟨rfl, rfl⟩ (by show 1 ≤ 9; decide) (by first | exact Nat.zero_le _ | exact Nat.le_refl _ | exact Nat.le_succ 1 | decide) ?_
  repeat (first | refine And.intro (fun _ => ?_) (fun h => Bool.noConfusion h) | refine And.intro (fun h => Bool.noConfusion h) (fun _ => ?_))
  exact And.intro rfl rfl
theorem c_geo_Places (m : Mp) {r b : Nat} {sto : List Ob} (hr : r ≤ sto.length) (hb : sto[b]? = some (mbox m)) (hbr : b < r) : Tri Tryz.prog 124 r [.gptr b 0] sto (fun d k => d = .int .i64 m.n ∧ k = sto) :=
  (c_geo_Places_0 m).boxRO (nr_mcs m) rfl rfl (fun d h => by subst h; exact ⟨rfl, rfl⟩) hr hb hbr
theorem c_deal_place_0 (m : Mp) (hm : okMp m) (p : Int) : Tri Tryz.prog 80 1 [.gptr 0 0, .int .i64 p] [mbox m] (fun d k => d = .bool (decide (0 ≤ p ∧ p < m.n)) ∧ k = [mbox m]) := by
  refine Tri.walk2 (L := LT) (c := {n := 10, ko := [4]}) [] [0, 1, 4] hLT hmix Tryz.func80 rfl rfl ⟨rfl, rfl⟩ (by show 2 ≤ 10; decide) (by first | exact Nat.zero_le _ | exact Nat.le_refl _ | exact Nat.le_succ 1 | decide) ?_
  refine ⟨rfl, (by first | exact Nat.zero_le _ | exact Nat.le_refl _ | exact Nat.le_succ 1 | decide), (c_geo_Places m (r := 1) (sto := [mbox m]) (Nat.le_refl 1) rfl (Nat.lt_succ_self 0)).mono ?_⟩
  rintro d l ⟨rfl, rfl⟩
  refine ⟨rfl, fun _ _ => rfl, rfl, ?_⟩
  refine ⟨rfl, (by first | exact Nat.zero_le _ | exact Nat.le_refl _ | exact Nat.le_succ 1 | decide), (c_deal_within p 0 (IntKind.i64.wrap (m.n - 1)) (r := 1) (sto := [mbox m]) (Nat.le_refl 1)).mono ?_⟩
  rintro d l ⟨rfl, rfl⟩
  refine ⟨rfl, fun _ _ => rfl, rfl, ?_⟩
  rw [wrap64 (by have := hm.n1; omega) (by have := hm.n12; omega), show decide (0 ≤ p ∧ p ≤ m.n - 1) = decide (0 ≤ p ∧ p < m.n) from decide_eq_decide.2 (by omega)]
  exact And.intro rfl rfl
theorem c_deal_place (m : Mp) (hm : okMp m) (p : Int) {r b : Nat} {sto : List Ob} (hr : r ≤ sto.length) (hb : sto[b]? = some (mbox m)) (hbr : b < r) : Tri Tryz.prog 80 r [.gptr b 0, .int .i64 p] sto (fun d k => d = .bool (decide (0 ≤ p ∧ p < m.n)) ∧ k = sto) :=
  (c_deal_place_0 m hm p).boxRO (nr_mcs m) rfl rfl (fun d h => by subst h; exact ⟨rfl, rfl⟩) hr hb hbr
theorem c_drayref6_place_0 (m : Mp) (p : Int) : Tri Tryz.prog 156 1 [.gptr 0 0, .int .i64 p] [mbox m] (fun d k => d = .bool (decide (0 ≤ p ∧ p < m.n)) ∧ k = [mbox m]) := by
  refine Tri.walk2 (L := LT) (c := {n := 15, ko := [4]}) [] [0, 1, 4] hLT hmix Tryz.func156 rfl rfl ⟨rfl, rfl⟩ (by show 2 ≤ 15; decide) (by first | exact Nat.zero_le _ | exact Nat.le_refl _ | exact Nat.le_succ 1 | decide) ?_
  refine And.intro (fun h1 => ?_) (fun h1 => ?_)
  · have h1 := of_decide_eq_true h1
    repeat (first | refine And.intro (fun _ => ?_) (fun h => Bool.noConfusion h) | refine And.intro (fun h => Bool.noConfusion h) (fun _ => ?_))
    refine And.intro (fun h2 => ?_) (fun h2 => ?_)
    · rw [decide_eq_true (show 0 ≤ p ∧ p < m.n from ⟨h1, of_decide_eq_true h2⟩)]
      exact And.intro rfl rfl
    · rw [decide_eq_false (show ¬ (0 ≤ p ∧ p < m.n) from fun h => of_decide_eq_false h2 h.2)]
      exact And.intro rfl rfl
  · repeat (first | refine And.intro (fun _ => ?_) (fun h => Bool.noConfusion h) | refine And.intro (fun h => Bool.noConfusion h) (fun _ => ?_))
    rw [decide_eq_false (show ¬ (0 ≤ p ∧ p < m.n) from fun h => of_decide_eq_false h1 h.1)]
    exact And.intro rfl rfl
theorem c_drayref6_place (m : Mp) (p : Int) {r b : Nat} {sto : List Ob} (hr : r ≤ sto.length) (hb : sto[b]? = some (mbox m)) (hbr : b < r) : Tri Tryz.prog 156 r [.gptr b 0, .int .i64 p] sto (fun d k => d = .bool (decide (0 ≤ p ∧ p < m.n)) ∧ k = sto) :=
  (c_drayref6_place_0 m p).boxRO (nr_mcs m) rfl rfl (fun d h => by subst h; exact ⟨rfl, rfl⟩) hr hb hbr

set_option maxHeartbeats 4000000 in
theorem c_deal_Order_0 (m : Mp) (hm : okMp m) (o : Ord) : Tri Tryz.prog 37 1 [.gptr 0 0, .agg (rowO o)] [mbox m] (fun d k => d = .int .i64 (errO m.n o) ∧ k = [mbox m]) := by
  refine Tri.walk2 (L := LT) (c := {n := 55, ko := [4]}) [] [0, 1, 3, 4, 12, 16, 30, 42, 54] hLT hmix Tryz.func37 rfl rfl ⟨rfl, rfl⟩ (by show 2 ≤ 55; decide) (by first | exact Nat.zero_le _ | exact Nat.le_refl _ | exact Nat.le_succ 1 | decide) ?_
  repeat (first | refine And.intro (fun _ => ?_) (fun h => Bool.noConfusion h) | refine And.intro (fun h => Bool.noConfusion h) (fun _ => ?_))
  -- step
  refine ⟨rfl, (by first | exact Nat.zero_le _ | exact Nat.le_refl _ | exact Nat.le_succ 1 | decide), (c_deal_within o.id 1 1000000 (r := 1) (sto := [mbox m]) (Nat.le_refl 1)).mono ?_⟩
  rintro d l ⟨rfl, rfl⟩
  refine ⟨rfl, fun _ _ => rfl, rfl, ?_⟩
  cases h0 : decide (1 ≤ o.id ∧ o.id ≤ 1000000)
  · (repeat (first | refine And.intro (fun _ => ?_) (fun h => Bool.noConfusion h) | refine And.intro (fun h => Bool.noConfusion h) (fun _ => ?_)))
    simp only [rightW, Bool.not_eq_true', Bool.not_eq_false', decide_eq_true_eq, decide_eq_false_iff_not] at *
    unfold errO
    repeat (first | rw [if_pos (by omega)] | rw [if_neg (by omega)])
    exact And.intro rfl rfl
  repeat (first | refine And.intro (fun _ => ?_) (fun h => Bool.noConfusion h) | refine And.intro (fun h => Bool.noConfusion h) (fun _ => ?_))
  -- step
  refine ⟨rfl, (by first | exact Nat.zero_le _ | exact Nat.le_refl _ | exact Nat.le_succ 1 | decide), (c_deal_within o.size 1 1000 (r := 1) (sto := [mbox m]) (Nat.le_refl 1)).mono ?_⟩
  rintro d l ⟨rfl, rfl⟩
  refine ⟨rfl, fun _ _ => rfl, rfl, ?_⟩
  cases h1 : decide (1 ≤ o.size ∧ o.size ≤ 1000)
  · (repeat (first | refine And.intro (fun _ => ?_) (fun h => Bool.noConfusion h) | refine And.intro (fun h => Bool.noConfusion h) (fun _ => ?_)))
    simp only [rightW, Bool.not_eq_true', Bool.not_eq_false', decide_eq_true_eq, decide_eq_false_iff_not] at *
    unfold errO
    repeat (first | rw [if_pos (by omega)] | rw [if_neg (by omega)])
    exact And.intro rfl rfl
  repeat (first | refine And.intro (fun _ => ?_) (fun h => Bool.noConfusion h) | refine And.intro (fun h => Bool.noConfusion h) (fun _ => ?_))
  -- step
  refine ⟨rfl, (by first | exact Nat.zero_le _ | exact Nat.le_refl _ | exact Nat.le_succ 1 | decide), (c_deal_place m hm o.pick.place (r := 1) (sto := [mbox m]) (Nat.le_refl 1) rfl (Nat.lt_succ_self 0)).mono ?_⟩
  rintro d l ⟨rfl, rfl⟩
  refine ⟨rfl, fun _ _ => rfl, rfl, ?_⟩
  cases h2 : decide (0 ≤ o.pick.place ∧ o.pick.place < m.n)
  · (repeat (first | refine And.intro (fun _ => ?_) (fun h => Bool.noConfusion h) | refine And.intro (fun h => Bool.noConfusion h) (fun _ => ?_)))
    simp only [rightW, Bool.not_eq_true', Bool.not_eq_false', decide_eq_true_eq, decide_eq_false_iff_not] at *
    unfold errO
    repeat (first | rw [if_pos (by omega)] | rw [if_neg (by omega)])
    exact And.intro rfl rfl
  repeat (first | refine And.intro (fun _ => ?_) (fun h => Bool.noConfusion h) | refine And.intro (fun h => Bool.noConfusion h) (fun _ => ?_))
  -- step
  refine ⟨rfl, (by first | exact Nat.zero_le _ | exact Nat.le_refl _ | exact Nat.le_succ 1 | decide), (c_deal_place m hm o.drop.place (r := 1) (sto := [mbox m]) (Nat.le_refl 1) rfl (Nat.lt_succ_self 0)).mono ?_⟩
  rintro d l ⟨rfl, rfl⟩
  refine ⟨rfl, fun _ _ => rfl, rfl, ?_⟩
  cases h3 : decide (0 ≤ o.drop.place ∧ o.drop.place < m.n)
  · (repeat (first | refine And.intro (fun _ => ?_) (fun h => Bool.noConfusion h) | refine And.intro (fun h => Bool.noConfusion h) (fun _ => ?_)))
    simp only [rightW, Bool.not_eq_true', Bool.not_eq_false', decide_eq_true_eq, decide_eq_false_iff_not] at *
    unfold errO
    repeat (first | rw [if_pos (by omega)] | rw [if_neg (by omega)])
    exact And.intro rfl rfl
  repeat (first | refine And.intro (fun _ => ?_) (fun h => Bool.noConfusion h) | refine And.intro (fun h => Bool.noConfusion h) (fun _ => ?_))
  -- step
  refine ⟨rfl, (by first | exact Nat.zero_le _ | exact Nat.le_refl _ | exact Nat.le_succ 1 | decide), (c_span_Right o.pick.w (r := 1) (sto := [mbox m]) (Nat.le_refl 1)).mono ?_⟩
  rintro d l ⟨rfl, rfl⟩
  refine ⟨rfl, fun _ _ => rfl, rfl, ?_⟩
  cases h4 : rightW o.pick.w
  · (repeat (first | refine And.intro (fun _ => ?_) (fun h => Bool.noConfusion h) | refine And.intro (fun h => Bool.noConfusion h) (fun _ => ?_)))
    simp only [rightW, Bool.not_eq_true', Bool.not_eq_false', decide_eq_true_eq, decide_eq_false_iff_not] at *
    unfold errO
    repeat (first | rw [if_pos (by omega)] | rw [if_neg (by omega)])
    exact And.intro rfl rfl
  repeat (first | refine And.intro (fun _ => ?_) (fun h => Bool.noConfusion h) | refine And.intro (fun h => Bool.noConfusion h) (fun _ => ?_))
  -- step
  refine ⟨rfl, (by first | exact Nat.zero_le _ | exact Nat.le_refl _ | exact Nat.le_succ 1 | decide), (c_span_Right o.drop.w (r := 1) (sto := [mbox m]) (Nat.le_refl 1)).mono ?_⟩
  rintro d l ⟨rfl, rfl⟩
  refine ⟨rfl, fun _ _ => rfl, rfl, ?_⟩
  cases h5 : rightW o.drop.w
  · (repeat (first | refine And.intro (fun _ => ?_) (fun h => Bool.noConfusion h) | refine And.intro (fun h => Bool.noConfusion h) (fun _ => ?_)))
    simp only [rightW, Bool.not_eq_true', Bool.not_eq_false', decide_eq_true_eq, decide_eq_false_iff_not] at *
    unfold errO
    repeat (first | rw [if_pos (by omega)] | rw [if_neg (by omega)])
    exact And.intro rfl rfl
  repeat (first | refine And.intro (fun _ => ?_) (fun h => Bool.noConfusion h) | refine And.intro (fun h => Bool.noConfusion h) (fun _ => ?_))
  -- step
  refine ⟨rfl, (by first | exact Nat.zero_le _ | exact Nat.le_refl _ | exact Nat.le_succ 1 | decide), (c_deal_within o.pick.serv 0 1000000 (r := 1) (sto := [mbox m]) (Nat.le_refl 1)).mono ?_⟩
  rintro d l ⟨rfl, rfl⟩
  refine ⟨rfl, fun _ _ => rfl, rfl, ?_⟩
  cases h6 : decide (0 ≤ o.pick.serv ∧ o.pick.serv ≤ 1000000)
  · (repeat (first | refine And.intro (fun _ => ?_) (fun h => Bool.noConfusion h) | refine And.intro (fun h => Bool.noConfusion h) (fun _ => ?_)))
    simp only [rightW, Bool.not_eq_true', Bool.not_eq_false', decide_eq_true_eq, decide_eq_false_iff_not] at *
    unfold errO
    repeat (first | rw [if_pos (by omega)] | rw [if_neg (by omega)])
    exact And.intro rfl rfl
  repeat (first | refine And.intro (fun _ => ?_) (fun h => Bool.noConfusion h) | refine And.intro (fun h => Bool.noConfusion h) (fun _ => ?_))
  -- step
  refine ⟨rfl, (by first | exact Nat.zero_le _ | exact Nat.le_refl _ | exact Nat.le_succ 1 | decide), (c_deal_within o.drop.serv 0 1000000 (r := 1) (sto := [mbox m]) (Nat.le_refl 1)).mono ?_⟩
  rintro d l ⟨rfl, rfl⟩
  refine ⟨rfl, fun _ _ => rfl, rfl, ?_⟩
  cases h7 : decide (0 ≤ o.drop.serv ∧ o.drop.serv ≤ 1000000)
  · (repeat (first | refine And.intro (fun _ => ?_) (fun h => Bool.noConfusion h) | refine And.intro (fun h => Bool.noConfusion h) (fun _ => ?_)))
    simp only [rightW, Bool.not_eq_true', Bool.not_eq_false', decide_eq_true_eq, decide_eq_false_iff_not] at *
    unfold errO
    repeat (first | rw [if_pos (by omega)] | rw [if_neg (by omega)])
    exact And.intro rfl rfl
  repeat (first | refine And.intro (fun _ => ?_) (fun h => Bool.noConfusion h) | refine And.intro (fun h => Bool.noConfusion h) (fun _ => ?_))
  simp only [rightW, Bool.not_eq_true', Bool.not_eq_false', decide_eq_true_eq, decide_eq_false_iff_not] at *
  unfold errO
  repeat (first | rw [if_pos (by omega)] | rw [if_neg (by omega)])
  exact And.intro rfl rfl
theorem c_deal_Order (m : Mp) (hm : okMp m) (o : Ord) {r b : Nat} {sto : List Ob} (hr : r ≤ sto.length) (hb : sto[b]? = some (mbox m)) (hbr : b < r) : Tri Tryz.prog 37 r [.gptr b 0, .agg (rowO o)] sto (fun d k => d = .int .i64 (errO m.n o) ∧ k = sto) :=
  (c_deal_Order_0 m hm o).boxRO (nr_mcs m) rfl rfl (fun d h => by subst h; exact ⟨rfl, rfl⟩) hr hb hbr
set_option maxHeartbeats 4000000 in
theorem c_deal_Driver_0 (m : Mp) (hm : okMp m) (e : Drv) : Tri Tryz.prog 49 1 [.gptr 0 0, .agg (rowDr e)] [mbox m] (fun d k => d = .int .i64 (errD m.n e) ∧ k = [mbox m]) := by
  refine Tri.walk2 (L := LT) (c := {n := 26, ko := [4]}) [] [0, 1, 3, 4, 12, 16, 21, 25] hLT hmix Tryz.func49 rfl rfl ⟨rfl, rfl⟩ (by show 2 ≤ 26; decide) (by first | exact Nat.zero_le _ | exact Nat.le_refl _ | exact Nat.le_succ 1 | decide) ?_
  repeat (first | refine And.intro (fun _ => ?_) (fun h => Bool.noConfusion h) | refine And.intro (fun h => Bool.noConfusion h) (fun _ => ?_))
  -- step
  refine ⟨rfl, (by first | exact Nat.zero_le _ | exact Nat.le_refl _ | exact Nat.le_succ 1 | decide), (c_deal_within e.id 1 1000000 (r := 1) (sto := [mbox m]) (Nat.le_refl 1)).mono ?_⟩
  rintro d l ⟨rfl, rfl⟩
  refine ⟨rfl, fun _ _ => rfl, rfl, ?_⟩
  cases h0 : decide (1 ≤ e.id ∧ e.id ≤ 1000000)
  · (repeat (first | refine And.intro (fun _ => ?_) (fun h => Bool.noConfusion h) | refine And.intro (fun h => Bool.noConfusion h) (fun _ => ?_)))
    simp only [rightW, Bool.not_eq_true', Bool.not_eq_false', decide_eq_true_eq, decide_eq_false_iff_not] at *
    unfold errD
    repeat (first | rw [if_pos (by omega)] | rw [if_neg (by omega)])
    exact And.intro rfl rfl
  repeat (first | refine And.intro (fun _ => ?_) (fun h => Bool.noConfusion h) | refine And.intro (fun h => Bool.noConfusion h) (fun _ => ?_))
  -- step
  refine ⟨rfl, (by first | exact Nat.zero_le _ | exact Nat.le_refl _ | exact Nat.le_succ 1 | decide), (c_deal_within e.room 1 1000 (r := 1) (sto := [mbox m]) (Nat.le_refl 1)).mono ?_⟩
  rintro d l ⟨rfl, rfl⟩
  refine ⟨rfl, fun _ _ => rfl, rfl, ?_⟩
  cases h1 : decide (1 ≤ e.room ∧ e.room ≤ 1000)
  · (repeat (first | refine And.intro (fun _ => ?_) (fun h => Bool.noConfusion h) | refine And.intro (fun h => Bool.noConfusion h) (fun _ => ?_)))
    simp only [rightW, Bool.not_eq_true', Bool.not_eq_false', decide_eq_true_eq, decide_eq_false_iff_not] at *
    unfold errD
    repeat (first | rw [if_pos (by omega)] | rw [if_neg (by omega)])
    exact And.intro rfl rfl
  repeat (first | refine And.intro (fun _ => ?_) (fun h => Bool.noConfusion h) | refine And.intro (fun h => Bool.noConfusion h) (fun _ => ?_))
  -- step
  refine ⟨rfl, (by first | exact Nat.zero_le _ | exact Nat.le_refl _ | exact Nat.le_succ 1 | decide), (c_deal_place m hm e.home (r := 1) (sto := [mbox m]) (Nat.le_refl 1) rfl (Nat.lt_succ_self 0)).mono ?_⟩
  rintro d l ⟨rfl, rfl⟩
  refine ⟨rfl, fun _ _ => rfl, rfl, ?_⟩
  cases h2 : decide (0 ≤ e.home ∧ e.home < m.n)
  · (repeat (first | refine And.intro (fun _ => ?_) (fun h => Bool.noConfusion h) | refine And.intro (fun h => Bool.noConfusion h) (fun _ => ?_)))
    simp only [rightW, Bool.not_eq_true', Bool.not_eq_false', decide_eq_true_eq, decide_eq_false_iff_not] at *
    unfold errD
    repeat (first | rw [if_pos (by omega)] | rw [if_neg (by omega)])
    exact And.intro rfl rfl
  repeat (first | refine And.intro (fun _ => ?_) (fun h => Bool.noConfusion h) | refine And.intro (fun h => Bool.noConfusion h) (fun _ => ?_))
  -- step
  refine ⟨rfl, (by first | exact Nat.zero_le _ | exact Nat.le_refl _ | exact Nat.le_succ 1 | decide), (c_span_Right e.w (r := 1) (sto := [mbox m]) (Nat.le_refl 1)).mono ?_⟩
  rintro d l ⟨rfl, rfl⟩
  refine ⟨rfl, fun _ _ => rfl, rfl, ?_⟩
  cases h3 : rightW e.w
  · (repeat (first | refine And.intro (fun _ => ?_) (fun h => Bool.noConfusion h) | refine And.intro (fun h => Bool.noConfusion h) (fun _ => ?_)))
    simp only [rightW, Bool.not_eq_true', Bool.not_eq_false', decide_eq_true_eq, decide_eq_false_iff_not] at *
    unfold errD
    repeat (first | rw [if_pos (by omega)] | rw [if_neg (by omega)])
    exact And.intro rfl rfl
  repeat (first | refine And.intro (fun _ => ?_) (fun h => Bool.noConfusion h) | refine And.intro (fun h => Bool.noConfusion h) (fun _ => ?_))
  simp only [rightW, Bool.not_eq_true', Bool.not_eq_false', decide_eq_true_eq, decide_eq_false_iff_not] at *
  unfold errD
  repeat (first | rw [if_pos (by omega)] | rw [if_neg (by omega)])
  exact And.intro rfl rfl
theorem c_deal_Driver (m : Mp) (hm : okMp m) (e : Drv) {r b : Nat} {sto : List Ob} (hr : r ≤ sto.length) (hb : sto[b]? = some (mbox m)) (hbr : b < r) : Tri Tryz.prog 49 r [.gptr b 0, .agg (rowDr e)] sto (fun d k => d = .int .i64 (errD m.n e) ∧ k = sto) :=
  (c_deal_Driver_0 m hm e).boxRO (nr_mcs m) rfl rfl (fun d h => by subst h; exact ⟨rfl, rfl⟩) hr hb hbr
set_option maxHeartbeats 4000000 in
theorem c_drayref6_Order_0 (m : Mp) (hm : okMp m) (o : Ord) : Tri Tryz.prog 101 1 [.gptr 0 0, .agg (rowO o)] [mbox m] (fun d k => d = .int .i64 (errO m.n o) ∧ k = [mbox m]) := by
  refine Tri.walk2 (L := LT) (c := {n := 78, ko := [4]}) [] [0, 1, 3, 4, 5, 18, 27, 42, 55] hLT hmix Tryz.func101 rfl rfl ⟨rfl, rfl⟩ (by show 2 ≤ 78; decide) (by first | exact Nat.zero_le _ | exact Nat.le_refl _ | exact Nat.le_succ 1 | decide) ?_
  repeat (first | refine And.intro (fun _ => ?_) (fun h => Bool.noConfusion h) | refine And.intro (fun h => Bool.noConfusion h) (fun _ => ?_))
  -- step
  refine And.intro (fun h0 => ?_) (fun h0 => ?_)
  · (repeat (first | refine And.intro (fun _ => ?_) (fun h => Bool.noConfusion h) | refine And.intro (fun h => Bool.noConfusion h) (fun _ => ?_)))
    simp only [rightW, Bool.not_eq_true', Bool.not_eq_false', decide_eq_true_eq, decide_eq_false_iff_not] at *
    unfold errO
    repeat (first | rw [if_pos (by omega)] | rw [if_neg (by omega)])
    exact And.intro rfl rfl
  repeat (first | refine And.intro (fun _ => ?_) (fun h => Bool.noConfusion h) | refine And.intro (fun h => Bool.noConfusion h) (fun _ => ?_))
  -- step
  refine And.intro (fun h1 => ?_) (fun h1 => ?_)
  · (repeat (first | refine And.intro (fun _ => ?_) (fun h => Bool.noConfusion h) | refine And.intro (fun h => Bool.noConfusion h) (fun _ => ?_)))
    simp only [rightW, Bool.not_eq_true', Bool.not_eq_false', decide_eq_true_eq, decide_eq_false_iff_not] at *
    unfold errO
    repeat (first | rw [if_pos (by omega)] | rw [if_neg (by omega)])
    exact And.intro rfl rfl
  repeat (first | refine And.intro (fun _ => ?_) (fun h => Bool.noConfusion h) | refine And.intro (fun h => Bool.noConfusion h) (fun _ => ?_))
  -- step
  refine And.intro (fun h2 => ?_) (fun h2 => ?_)
  · (repeat (first | refine And.intro (fun _ => ?_) (fun h => Bool.noConfusion h) | refine And.intro (fun h => Bool.noConfusion h) (fun _ => ?_)))
    simp only [rightW, Bool.not_eq_true', Bool.not_eq_false', decide_eq_true_eq, decide_eq_false_iff_not] at *
    unfold errO
    repeat (first | rw [if_pos (by omega)] | rw [if_neg (by omega)])
    exact And.intro rfl rfl
  repeat (first | refine And.intro (fun _ => ?_) (fun h => Bool.noConfusion h) | refine And.intro (fun h => Bool.noConfusion h) (fun _ => ?_))
  -- step
  refine And.intro (fun h3 => ?_) (fun h3 => ?_)
  · (repeat (first | refine And.intro (fun _ => ?_) (fun h => Bool.noConfusion h) | refine And.intro (fun h => Bool.noConfusion h) (fun _ => ?_)))
    simp only [rightW, Bool.not_eq_true', Bool.not_eq_false', decide_eq_true_eq, decide_eq_false_iff_not] at *
    unfold errO
    repeat (first | rw [if_pos (by omega)] | rw [if_neg (by omega)])
    exact And.intro rfl rfl
  repeat (first | refine And.intro (fun _ => ?_) (fun h => Bool.noConfusion h) | refine And.intro (fun h => Bool.noConfusion h) (fun _ => ?_))
  -- step
  refine ⟨rfl, (by first | exact Nat.zero_le _ | exact Nat.le_refl _ | exact Nat.le_succ 1 | decide), (c_drayref6_place m o.pick.place (r := 1) (sto := [mbox m]) (Nat.le_refl 1) rfl (Nat.lt_succ_self 0)).mono ?_⟩
  rintro d l ⟨rfl, rfl⟩
  refine ⟨rfl, fun _ _ => rfl, rfl, ?_⟩
  cases h4 : decide (0 ≤ o.pick.place ∧ o.pick.place < m.n)
  · (repeat (first | refine And.intro (fun _ => ?_) (fun h => Bool.noConfusion h) | refine And.intro (fun h => Bool.noConfusion h) (fun _ => ?_)))
    simp only [rightW, Bool.not_eq_true', Bool.not_eq_false', decide_eq_true_eq, decide_eq_false_iff_not] at *
    unfold errO
    repeat (first | rw [if_pos (by omega)] | rw [if_neg (by omega)])
    exact And.intro rfl rfl
  repeat (first | refine And.intro (fun _ => ?_) (fun h => Bool.noConfusion h) | refine And.intro (fun h => Bool.noConfusion h) (fun _ => ?_))
  -- step
  refine ⟨rfl, (by first | exact Nat.zero_le _ | exact Nat.le_refl _ | exact Nat.le_succ 1 | decide), (c_drayref6_place m o.drop.place (r := 1) (sto := [mbox m]) (Nat.le_refl 1) rfl (Nat.lt_succ_self 0)).mono ?_⟩
  rintro d l ⟨rfl, rfl⟩
  refine ⟨rfl, fun _ _ => rfl, rfl, ?_⟩
  cases h5 : decide (0 ≤ o.drop.place ∧ o.drop.place < m.n)
  · (repeat (first | refine And.intro (fun _ => ?_) (fun h => Bool.noConfusion h) | refine And.intro (fun h => Bool.noConfusion h) (fun _ => ?_)))
    simp only [rightW, Bool.not_eq_true', Bool.not_eq_false', decide_eq_true_eq, decide_eq_false_iff_not] at *
    unfold errO
    repeat (first | rw [if_pos (by omega)] | rw [if_neg (by omega)])
    exact And.intro rfl rfl
  repeat (first | refine And.intro (fun _ => ?_) (fun h => Bool.noConfusion h) | refine And.intro (fun h => Bool.noConfusion h) (fun _ => ?_))
  -- step
  refine ⟨rfl, (by first | exact Nat.zero_le _ | exact Nat.le_refl _ | exact Nat.le_succ 1 | decide), (c_drayref4_Right o.pick.w (r := 1) (sto := [mbox m]) (Nat.le_refl 1)).mono ?_⟩
  rintro d l ⟨rfl, rfl⟩
  refine ⟨rfl, fun _ _ => rfl, rfl, ?_⟩
  cases h6 : rightW o.pick.w
  · (repeat (first | refine And.intro (fun _ => ?_) (fun h => Bool.noConfusion h) | refine And.intro (fun h => Bool.noConfusion h) (fun _ => ?_)))
    simp only [rightW, Bool.not_eq_true', Bool.not_eq_false', decide_eq_true_eq, decide_eq_false_iff_not] at *
    unfold errO
    repeat (first | rw [if_pos (by omega)] | rw [if_neg (by omega)])
    exact And.intro rfl rfl
  repeat (first | refine And.intro (fun _ => ?_) (fun h => Bool.noConfusion h) | refine And.intro (fun h => Bool.noConfusion h) (fun _ => ?_))
  -- step
  refine ⟨rfl, (by first | exact Nat.zero_le _ | exact Nat.le_refl _ | exact Nat.le_succ 1 | decide), (c_drayref4_Right o.drop.w (r := 1) (sto := [mbox m]) (Nat.le_refl 1)).mono ?_⟩
  rintro d l ⟨rfl, rfl⟩
  refine ⟨rfl, fun _ _ => rfl, rfl, ?_⟩
  cases h7 : rightW o.drop.w
  · (repeat (first | refine And.intro (fun _ => ?_) (fun h => Bool.noConfusion h) | refine And.intro (fun h => Bool.noConfusion h) (fun _ => ?_)))
    simp only [rightW, Bool.not_eq_true', Bool.not_eq_false', decide_eq_true_eq, decide_eq_false_iff_not] at *
    unfold errO
    repeat (first | rw [if_pos (by omega)] | rw [if_neg (by omega)])
    exact And.intro rfl rfl
  repeat (first | refine And.intro (fun _ => ?_) (fun h => Bool.noConfusion h) | refine And.intro (fun h => Bool.noConfusion h) (fun _ => ?_))
  -- step
  refine And.intro (fun h8 => ?_) (fun h8 => ?_)
  · (repeat (first | refine And.intro (fun _ => ?_) (fun h => Bool.noConfusion h) | refine And.intro (fun h => Bool.noConfusion h) (fun _ => ?_)))
    simp only [rightW, Bool.not_eq_true', Bool.not_eq_false', decide_eq_true_eq, decide_eq_false_iff_not] at *
    unfold errO
    repeat (first | rw [if_pos (by omega)] | rw [if_neg (by omega)])
    exact And.intro rfl rfl
  repeat (first | refine And.intro (fun _ => ?_) (fun h => Bool.noConfusion h) | refine And.intro (fun h => Bool.noConfusion h) (fun _ => ?_))
  -- step
  refine And.intro (fun h9 => ?_) (fun h9 => ?_)
  · (repeat (first | refine And.intro (fun _ => ?_) (fun h => Bool.noConfusion h) | refine And.intro (fun h => Bool.noConfusion h) (fun _ => ?_)))
    simp only [rightW, Bool.not_eq_true', Bool.not_eq_false', decide_eq_true_eq, decide_eq_false_iff_not] at *
    unfold errO
    repeat (first | rw [if_pos (by omega)] | rw [if_neg (by omega)])
    exact And.intro rfl rfl
  repeat (first | refine And.intro (fun _ => ?_) (fun h => Bool.noConfusion h) | refine And.intro (fun h => Bool.noConfusion h) (fun _ => ?_))
  -- step
  refine And.intro (fun h10 => ?_) (fun h10 => ?_)
  · (repeat (first | refine And.intro (fun _ => ?_) (fun h => Bool.noConfusion h) | refine And.intro (fun h => Bool.noConfusion h) (fun _ => ?_)))
    simp only [rightW, Bool.not_eq_true', Bool.not_eq_false', decide_eq_true_eq, decide_eq_false_iff_not] at *
    unfold errO
    repeat (first | rw [if_pos (by omega)] | rw [if_neg (by omega)])
    exact And.intro rfl rfl
  repeat (first | refine And.intro (fun _ => ?_) (fun h => Bool.noConfusion h) | refine And.intro (fun h => Bool.noConfusion h) (fun _ => ?_))
  -- step
  refine And.intro (fun h11 => ?_) (fun h11 => ?_)
  · (repeat (first | refine And.intro (fun _ => ?_) (fun h => Bool.noConfusion h) | refine And.intro (fun h => Bool.noConfusion h) (fun _ => ?_)))
    simp only [rightW, Bool.not_eq_true', Bool.not_eq_false', decide_eq_true_eq, decide_eq_false_iff_not] at *
    unfold errO
    repeat (first | rw [if_pos (by omega)] | rw [if_neg (by omega)])
    exact And.intro rfl rfl
  repeat (first | refine And.intro (fun _ => ?_) (fun h => Bool.noConfusion h) | refine And.intro (fun h => Bool.noConfusion h) (fun _ => ?_))
  simp only [rightW, Bool.not_eq_true', Bool.not_eq_false', decide_eq_true_eq, decide_eq_false_iff_not] at *
  unfold errO
  repeat (first | rw [if_pos (by omega)] | rw [if_neg (by omega)])
  exact And.intro rfl rfl
theorem c_drayref6_Order (m : Mp) (hm : okMp m) (o : Ord) {r b : Nat} {sto : List Ob} (hr : r ≤ sto.length) (hb : sto[b]? = some (mbox m)) (hbr : b < r) : Tri Tryz.prog 101 r [.gptr b 0, .agg (rowO o)] sto (fun d k => d = .int .i64 (errO m.n o) ∧ k = sto) :=
  (c_drayref6_Order_0 m hm o).boxRO (nr_mcs m) rfl rfl (fun d h => by subst h; exact ⟨rfl, rfl⟩) hr hb hbr
set_option maxHeartbeats 4000000 in
theorem c_drayref6_Driver_0 (m : Mp) (hm : okMp m) (e : Drv) : Tri Tryz.prog 109 1 [.gptr 0 0, .agg (rowDr e)] [mbox m] (fun d k => d = .int .i64 (errD m.n e) ∧ k = [mbox m]) := by
  refine Tri.walk2 (L := LT) (c := {n := 38, ko := [4]}) [] [0, 1, 3, 4, 5, 18, 27, 33] hLT hmix Tryz.func109 rfl rfl ⟨rfl, rfl⟩ (by show 2 ≤ 38; decide) (by first | exact Nat.zero_le _ | exact Nat.le_refl _ | exact Nat.le_succ 1 | decide) ?_
  repeat (first | refine And.intro (fun _ => ?_) (fun h => Bool.noConfusion h) | refine And.intro (fun h => Bool.noConfusion h) (fun _ => ?_))
  -- step
  refine And.intro (fun h0 => ?_) (fun h0 => ?_)
  · (repeat (first | refine And.intro (fun _ => ?_) (fun h => Bool.noConfusion h) | refine And.intro (fun h => Bool.noConfusion h) (fun _ => ?_)))
    simp only [rightW, Bool.not_eq_true', Bool.not_eq_false', decide_eq_true_eq, decide_eq_false_iff_not] at *
    unfold errD
    repeat (first | rw [if_pos (by omega)] | rw [if_neg (by omega)])
    exact And.intro rfl rfl
  repeat (first | refine And.intro (fun _ => ?_) (fun h => Bool.noConfusion h) | refine And.intro (fun h => Bool.noConfusion h) (fun _ => ?_))
  -- step
  refine And.intro (fun h1 => ?_) (fun h1 => ?_)
  · (repeat (first | refine And.intro (fun _ => ?_) (fun h => Bool.noConfusion h) | refine And.intro (fun h => Bool.noConfusion h) (fun _ => ?_)))
    simp only [rightW, Bool.not_eq_true', Bool.not_eq_false', decide_eq_true_eq, decide_eq_false_iff_not] at *
    unfold errD
    repeat (first | rw [if_pos (by omega)] | rw [if_neg (by omega)])
    exact And.intro rfl rfl
  repeat (first | refine And.intro (fun _ => ?_) (fun h => Bool.noConfusion h) | refine And.intro (fun h => Bool.noConfusion h) (fun _ => ?_))
  -- step
  refine And.intro (fun h2 => ?_) (fun h2 => ?_)
  · (repeat (first | refine And.intro (fun _ => ?_) (fun h => Bool.noConfusion h) | refine And.intro (fun h => Bool.noConfusion h) (fun _ => ?_)))
    simp only [rightW, Bool.not_eq_true', Bool.not_eq_false', decide_eq_true_eq, decide_eq_false_iff_not] at *
    unfold errD
    repeat (first | rw [if_pos (by omega)] | rw [if_neg (by omega)])
    exact And.intro rfl rfl
  repeat (first | refine And.intro (fun _ => ?_) (fun h => Bool.noConfusion h) | refine And.intro (fun h => Bool.noConfusion h) (fun _ => ?_))
  -- step
  refine And.intro (fun h3 => ?_) (fun h3 => ?_)
  · (repeat (first | refine And.intro (fun _ => ?_) (fun h => Bool.noConfusion h) | refine And.intro (fun h => Bool.noConfusion h) (fun _ => ?_)))
    simp only [rightW, Bool.not_eq_true', Bool.not_eq_false', decide_eq_true_eq, decide_eq_false_iff_not] at *
    unfold errD
    repeat (first | rw [if_pos (by omega)] | rw [if_neg (by omega)])
    exact And.intro rfl rfl
  repeat (first | refine And.intro (fun _ => ?_) (fun h => Bool.noConfusion h) | refine And.intro (fun h => Bool.noConfusion h) (fun _ => ?_))
  -- step
  refine ⟨rfl, (by first | exact Nat.zero_le _ | exact Nat.le_refl _ | exact Nat.le_succ 1 | decide), (c_drayref6_place m e.home (r := 1) (sto := [mbox m]) (Nat.le_refl 1) rfl (Nat.lt_succ_self 0)).mono ?_⟩
  rintro d l ⟨rfl, rfl⟩
  refine ⟨rfl, fun _ _ => rfl, rfl, ?_⟩
  cases h4 : decide (0 ≤ e.home ∧ e.home < m.n)
  · (repeat (first | refine And.intro (fun _ => ?_) (fun h => Bool.noConfusion h) | refine And.intro (fun h => Bool.noConfusion h) (fun _ => ?_)))
    simp only [rightW, Bool.not_eq_true', Bool.not_eq_false', decide_eq_true_eq, decide_eq_false_iff_not] at *
    unfold errD
    repeat (first | rw [if_pos (by omega)] | rw [if_neg (by omega)])
    exact And.intro rfl rfl
  repeat (first | refine And.intro (fun _ => ?_) (fun h => Bool.noConfusion h) | refine And.intro (fun h => Bool.noConfusion h) (fun _ => ?_))
  -- step
  refine ⟨rfl, (by first | exact Nat.zero_le _ | exact Nat.le_refl _ | exact Nat.le_succ 1 | decide), (c_drayref4_Right e.w (r := 1) (sto := [mbox m]) (Nat.le_refl 1)).mono ?_⟩
  rintro d l ⟨rfl, rfl⟩
  refine ⟨rfl, fun _ _ => rfl, rfl, ?_⟩
  cases h5 : rightW e.w
  · (repeat (first | refine And.intro (fun _ => ?_) (fun h => Bool.noConfusion h) | refine And.intro (fun h => Bool.noConfusion h) (fun _ => ?_)))
    simp only [rightW, Bool.not_eq_true', Bool.not_eq_false', decide_eq_true_eq, decide_eq_false_iff_not] at *
    unfold errD
    repeat (first | rw [if_pos (by omega)] | rw [if_neg (by omega)])
    exact And.intro rfl rfl
  repeat (first | refine And.intro (fun _ => ?_) (fun h => Bool.noConfusion h) | refine And.intro (fun h => Bool.noConfusion h) (fun _ => ?_))
  simp only [rightW, Bool.not_eq_true', Bool.not_eq_false', decide_eq_true_eq, decide_eq_false_iff_not] at *
  unfold errD
  repeat (first | rw [if_pos (by omega)] | rw [if_neg (by omega)])
  exact And.intro rfl rfl
theorem c_drayref6_Driver (m : Mp) (hm : okMp m) (e : Drv) {r b : Nat} {sto : List Ob} (hr : r ≤ sto.length) (hb : sto[b]? = some (mbox m)) (hbr : b < r) : Tri Tryz.prog 109 r [.gptr b 0, .agg (rowDr e)] sto (fun d k => d = .int .i64 (errD m.n e) ∧ k = sto) :=
  (c_drayref6_Driver_0 m hm e).boxRO (nr_mcs m) rfl rfl (fun d h => by subst h; exact ⟨rfl, rfl⟩) hr hb hbr
noncomputable def okOs (n : Int) (os : List Ord) : Prop := os.length ≤ 40 ∧ (∀ o, o ∈ os → errO n o = 0) ∧ os.Pairwise (fun a b => a.id ≠ b.id)
noncomputable instance (n : Int) (os : List Ord) : Decidable (okOs n os) := by unfold okOs; infer_instance
theorem pw_snoc {os : List Ord} {i : Nat} (hi : i < os.length) (h : (os.take i).Pairwise (fun a b => a.id ≠ b.id)) (hn : ∀ x, x ∈ os.take i → x.id ≠ os[i].id) : (os.take (i + 1)).Pairwise (fun a b => a.id ≠ b.id) := by
  rw [List.take_succ_eq_append_getElem hi, List.pairwise_append]
  exact ⟨h, by simp, fun a ha b hb => by rw [List.mem_singleton.1 hb]; exact hn a ha⟩
theorem pw_no {os : List Ord} {i j : Nat} (hi : i < os.length) (hj : j < i) (e : (os[j]'(by omega)).id = os[i].id) : ¬ os.Pairwise (fun a b => a.id ≠ b.id) := fun h => (List.pairwise_iff_getElem.1 h j i (by omega) hi hj) e
end Go.Lv

namespace Go.Lv
open Go.Proofs

noncomputable def sKn (m : Mp) (os : List Ord) (i : Nat) : DS := ⟨[(0, .gptr 0 0), (1, encOs os), (12, encOs os), (13, .int .i64 (os.length : Int)), (14, .int .i64 (i : Int)), (4, .bool false)], [], [mbox m], mR 1⟩
noncomputable def sKn2 (m : Mp) (os : List Ord) (i j : Nat) (h : i < os.length) : DS := ⟨[(0, .gptr 0 0), (1, encOs os), (12, encOs os), (13, .int .i64 (os.length : Int)), (14, .int .i64 (i : Int)), (6, .lptr 6 0 0), (25, encOs (os.take i)), (26, .int .i64 (((os.take i).map rowO).length : Int)), (27, .int .i64 (j : Int)), (4, .bool false)], [(6, rowO os[i])], [mbox m], mR 1⟩
theorem take_rows (os : List Ord) (i : Nat) {n : Int} (h : n = (i : Int)) : ((os.map rowO).drop 0).take (n.toNat - 0) = (os.take i).map rowO := by
  subst h
  simp [List.map_take]
theorem allLenO (os : List Ord) : allLen 10 (os.map rowO) = true := by simp [allLen, rowO]
set_option maxHeartbeats 4000000 in
theorem c_deal_Known_0 (m : Mp) (hm : okMp m) (os : List Ord) : Tri Tryz.prog 115 1 [.gptr 0 0, encOs os] [mbox m] (fun d k => d = .bool (decide (okOs m.n os)) ∧ k = [mbox m]) := by
  refine Tri.walk2 (L := LT) (c := {n := 38, ko := [4]}) [] [0, 1, 4, 5, 6, 8, 11, 12, 13, 14, 15, 22, 25, 26, 27, 28, 35] hLT hmix Tryz.func115 rfl rfl ⟨rfl, rfl⟩ (by show 2 ≤ 38; decide) (by first | exact Nat.zero_le _ | exact Nat.le_refl _ | exact Nat.le_succ 1 | decide) ?_
  refine And.intro (fun h0 => ?_) (fun h0 => ?_)
  · have h0 : ((os.map rowO).length : Int) > 40 := of_decide_eq_true h0
    rw [List.length_map] at h0
    rw [decide_eq_false (show ¬ okOs m.n os from fun h => by have := h.1; omega)]
    exact And.intro rfl rfl
  have h0 : ¬ ((os.map rowO).length : Int) > 40 := of_decide_eq_false h0
  rw [List.length_map] at h0
  show Ok _ _ _ _ _
  refine Ok.loopN hLT hmix [] [0, 1, 4, 5, 6, 8, 11, 12, 13, 14, 15, 22, 25, 26, 27, 28, 35] [0,1,12,13,14,4] [] (fun n s => ∃ i : Nat, n = os.length - i ∧ i ≤ os.length ∧ (∀ o, o ∈ os.take i → errO m.n o = 0) ∧ (os.take i).Pairwise (fun a b => a.id ≠ b.id) ∧ s = sKn m os i) (n := os.length) ⟨0, rfl, Nat.zero_le _, by simp, by simp, by unfold sKn; rw [← List.length_map (f := rowO)]; rfl⟩ ?_
  rintro n s ⟨i, rfl, hi, hall, hpw, rfl⟩
  refine And.intro (fun h1 => ?_) (fun h1 => ?_)
  rotate_left
  · have h1 : ¬ ((i : Nat) : Int) < (os.length : Int) := of_decide_eq_false h1
    rw [List.take_of_length_le (by omega)] at hall hpw
    rw [decide_eq_true (show okOs m.n os from ⟨by omega, hall, hpw⟩)]
    exact And.intro rfl rfl
  have h1 : ((i : Nat) : Int) < (os.length : Int) := of_decide_eq_true h1
  have hil : i < os.length := by omega
  have hw := wrap_succ (i := i) (n := os.length) hil (by omega)
  refine ⟨(os).map rowO, rowO ((os)[i]'(by omega)), rfl, by omega, row_at' rowO (os) (by omega) (by omega), rfl, of_decide_eq_true rfl, ?_⟩
  refine ⟨rfl, (by first | exact Nat.zero_le _ | exact Nat.le_refl _ | exact Nat.le_succ 1 | decide), (c_deal_Order m hm os[i] (r := 1) (sto := [mbox m]) (Nat.le_refl 1) rfl (Nat.lt_succ_self 0)).mono ?_⟩
  rintro d l ⟨rfl, rfl⟩
  refine ⟨rfl, fun _ _ => rfl, rfl, ?_⟩
  refine And.intro (fun h2 => ?_) (fun h2 => ?_)
  · have h2 := nd_true h2
    rw [decide_eq_false (show ¬ okOs m.n os from fun h => h2 (h.2.1 _ (List.getElem_mem _)))]
    exact And.intro rfl rfl
  have h2 := nd_false h2
  refine And.intro ⟨Int.natCast_nonneg _, by rw [List.length_map]; omega⟩ (And.intro (Nat.zero_le _) (And.intro (of_decide_eq_true rfl) (And.intro (allLenO os) ?_)))
  show Ok _ _ _ _ _
  refine Ok.loopN hLT hmix [] [0, 1, 4, 5, 6, 8, 11, 12, 13, 14, 15, 22, 25, 26, 27, 28, 35] [0,1,12,13,14,6,25,26,27,4] [6] (fun n s => ∃ j : Nat, n = i - j ∧ j ≤ i ∧ (∀ x, x ∈ os.take j → x.id ≠ os[i].id) ∧ s = sKn2 m os i j hil) (n := i) ⟨0, rfl, Nat.zero_le _, by simp, by unfold sKn2 encOs; rw [← take_rows os i rfl]; rfl⟩ ?_
  rintro n s ⟨j, rfl, hj, hne, rfl⟩
  have hlen : ((os.take i).map rowO).length = i := by rw [List.length_map, List.length_take]; omega
  refine And.intro (fun h3 => ?_) (fun h3 => ?_)
  · have h3 : ((j : Nat) : Int) < (((os.take i).map rowO).length : Int) := of_decide_eq_true h3
    rw [hlen] at h3
    have hwj := wrap_succ (i := j) (n := i) (by omega) (by omega)
    refine ⟨(os.take i).map rowO, rowO ((os.take i)[j]'(by rw [List.length_take]; omega)), rfl, by omega, row_at' rowO (os.take i) (by omega) (by rw [List.length_take]; omega), rfl, of_decide_eq_true rfl, ?_⟩
    refine And.intro (fun h4 => ?_) (fun h4 => ?_)
    · have h4 := of_decide_eq_true h4
      rw [List.getElem_take] at h4
      rw [decide_eq_false (show ¬ okOs m.n os from fun h => pw_no hil (show j < i by omega) h4 h.2.2)]
      exact And.intro rfl rfl
    have h4 := of_decide_eq_false h4
    rw [List.getElem_take] at h4
    refine ⟨i - (j + 1), by omega, j + 1, rfl, by omega, fun x hx => ?_, ?_⟩
    · rw [List.take_succ_eq_append_getElem (by omega)] at hx
      rcases List.mem_append.1 hx with hx | hx
      · exact hne x hx
      · rw [List.mem_singleton.1 hx]
        exact h4
    · unfold sKn2
      rw [← hwj]
      rfl
  have h3 : ¬ ((j : Nat) : Int) < (((os.take i).map rowO).length : Int) := of_decide_eq_false h3
  rw [hlen] at h3
  have hji : j = i := by omega
  subst hji
  refine ⟨os.length - (j + 1), by omega, j + 1, rfl, by omega, fun x hx => ?_, pw_snoc hil hpw hne, ?_⟩
  · rw [List.take_succ_eq_append_getElem hil] at hx
    rcases List.mem_append.1 hx with hx | hx
    · exact hall x hx
    · rw [List.mem_singleton.1 hx]
      exact h2
  · unfold sKn
    rw [← hw]
    rfl
theorem c_deal_Known (m : Mp) (hm : okMp m) (os : List Ord) {r b : Nat} {sto : List Ob} (hr : r ≤ sto.length) (hb : sto[b]? = some (mbox m)) (hbr : b < r) : Tri Tryz.prog 115 r [.gptr b 0, encOs os] sto (fun d k => d = .bool (decide (okOs m.n os)) ∧ k = sto) :=
  (c_deal_Known_0 m hm os).boxRO (nr_mcs m) rfl (nrBL_O rfl) (fun d h => by subst h; exact ⟨rfl, rfl⟩) hr hb hbr
noncomputable def sKr (m : Mp) (os : List Ord) (i : Nat) : DS := ⟨[(0, .gptr 0 0), (1, encOs os), (5, .int .i64 (i : Int)), (4, .bool false)], [], [mbox m], mR 1⟩
noncomputable def sKr2 (m : Mp) (os : List Ord) (i j : Nat) : DS := ⟨[(0, .gptr 0 0), (1, encOs os), (5, .int .i64 (i : Int)), (6, .int .i64 (j : Int)), (4, .bool false)], [], [mbox m], mR 1⟩
set_option maxHeartbeats 4000000 in
theorem c_drayref6_Known_0 (m : Mp) (hm : okMp m) (os : List Ord) : Tri Tryz.prog 152 1 [.gptr 0 0, encOs os] [mbox m] (fun d k => d = .bool (decide (okOs m.n os)) ∧ k = [mbox m]) := by
  refine Tri.walk2 (L := LT) (c := {n := 39, ko := [4]}) [] [0, 1, 4, 5, 6, 9, 13, 22, 25, 38] hLT hmix Tryz.func152 rfl rfl ⟨rfl, rfl⟩ (by show 2 ≤ 39; decide) (by first | exact Nat.zero_le _ | exact Nat.le_refl _ | exact Nat.le_succ 1 | decide) ?_
  refine And.intro (fun h0 => ?_) (fun h0 => ?_)
  · have h0 : ((os.map rowO).length : Int) > 40 := of_decide_eq_true h0
    rw [List.length_map] at h0
    rw [decide_eq_false (show ¬ okOs m.n os from fun h => by have := h.1; omega)]
    exact And.intro rfl rfl
  have h0 : ¬ ((os.map rowO).length : Int) > 40 := of_decide_eq_false h0
  rw [List.length_map] at h0
  show Ok _ _ _ _ _
  refine Ok.loopN hLT hmix [] [0, 1, 4, 5, 6, 9, 13, 22, 25, 38] [0,1,5,4] [] (fun n s => ∃ i : Nat, n = os.length - i ∧ i ≤ os.length ∧ (∀ o, o ∈ os.take i → errO m.n o = 0) ∧ (os.take i).Pairwise (fun a b => a.id ≠ b.id) ∧ s = sKr m os i) (n := os.length) ⟨0, rfl, Nat.zero_le _, by simp, by simp, rfl⟩ ?_
  rintro n s ⟨i, rfl, hi, hall, hpw, rfl⟩
  refine And.intro (fun h1 => ?_) (fun h1 => ?_)
  rotate_left
  · have h1 : ¬ ((i : Nat) : Int) < ((os.map rowO).length : Int) := of_decide_eq_false h1
    rw [List.length_map] at h1
    rw [List.take_of_length_le (by omega)] at hall hpw
    rw [decide_eq_true (show okOs m.n os from ⟨by omega, hall, hpw⟩)]
    exact And.intro rfl rfl
  have h1 : ((i : Nat) : Int) < ((os.map rowO).length : Int) := of_decide_eq_true h1
  rw [List.length_map] at h1
  have hil : i < os.length := by omega
  have hw := wrap_succ (i := i) (n := os.length) hil (by omega)
  refine ⟨(os).map rowO, rowO ((os)[i]'(by omega)), rfl, by omega, row_at' rowO (os) (by omega) (by omega), rfl, of_decide_eq_true rfl, ?_⟩
  refine ⟨rfl, (by first | exact Nat.zero_le _ | exact Nat.le_refl _ | exact Nat.le_succ 1 | decide), (c_drayref6_Order m hm os[i] (r := 1) (sto := [mbox m]) (Nat.le_refl 1) rfl (Nat.lt_succ_self 0)).mono ?_⟩
  rintro d l ⟨rfl, rfl⟩
  refine ⟨rfl, fun _ _ => rfl, rfl, ?_⟩
  refine And.intro (fun h2 => ?_) (fun h2 => ?_)
  · have h2 := nd_true h2
    rw [decide_eq_false (show ¬ okOs m.n os from fun h => h2 (h.2.1 _ (List.getElem_mem _)))]
    exact And.intro rfl rfl
  have h2 := nd_false h2
  show Ok _ _ _ _ _
  refine Ok.loopN hLT hmix [] [0, 1, 4, 5, 6, 9, 13, 22, 25, 38] [0,1,5,6,4] [] (fun n s => ∃ j : Nat, n = i - j ∧ j ≤ i ∧ (∀ x, x ∈ os.take j → x.id ≠ os[i].id) ∧ s = sKr2 m os i j) (n := i) ⟨0, rfl, Nat.zero_le _, by simp, rfl⟩ ?_
  rintro n s ⟨j, rfl, hj, hne, rfl⟩
  refine And.intro (fun h3 => ?_) (fun h3 => ?_)
  · have h3 : ((j : Nat) : Int) < (i : Int) := of_decide_eq_true h3
    have hwj := wrap_succ (i := j) (n := i) (by omega) (by omega)
    refine ⟨⟨2047, [0, 0, 3, 4, 8, 0, 0, 96, 128, 256, 528], [1, 2, 7, 15, 31, 32, 64, 224, 480, 992, 2047]⟩, by kernel_rfl, ?_⟩
    refine ⟨(os).map rowO, rowO ((os)[j]'(by omega)), rfl, by omega, row_at' rowO (os) (by omega) (by omega), rfl, of_decide_eq_true rfl, ?_⟩
    refine And.intro rfl ?_
    refine ⟨(os).map rowO, rowO ((os)[i]'(by omega)), rfl, by omega, row_at' rowO (os) (by omega) (by omega), rfl, of_decide_eq_true rfl, ?_⟩
    refine And.intro rfl ?_
    refine And.intro (fun h4 => ?_) (fun h4 => ?_)
    · have h4 := of_decide_eq_true h4
      rw [decide_eq_false (show ¬ okOs m.n os from fun h => pw_no hil (show j < i by omega) h4 h.2.2)]
      exact And.intro rfl rfl
    have h4 := of_decide_eq_false h4
    refine ⟨i - (j + 1), by omega, j + 1, rfl, by omega, fun x hx => ?_, ?_⟩
    · rw [List.take_succ_eq_append_getElem (by omega)] at hx
      rcases List.mem_append.1 hx with hx | hx
      · exact hne x hx
      · rw [List.mem_singleton.1 hx]
        exact h4
    · unfold sKr2
      rw [← hwj]
      rfl
  have h3 : ¬ ((j : Nat) : Int) < (i : Int) := of_decide_eq_false h3
  have hji : j = i := by omega
  subst hji
  refine ⟨os.length - (j + 1), by omega, j + 1, rfl, by omega, fun x hx => ?_, pw_snoc hil hpw hne, ?_⟩
  · rw [List.take_succ_eq_append_getElem hil] at hx
    rcases List.mem_append.1 hx with hx | hx
    · exact hall x hx
    · rw [List.mem_singleton.1 hx]
      exact h2
  · unfold sKr
    rw [← hw]
    rfl
theorem c_drayref6_Known (m : Mp) (hm : okMp m) (os : List Ord) {r b : Nat} {sto : List Ob} (hr : r ≤ sto.length) (hb : sto[b]? = some (mbox m)) (hbr : b < r) : Tri Tryz.prog 152 r [.gptr b 0, encOs os] sto (fun d k => d = .bool (decide (okOs m.n os)) ∧ k = sto) :=
  (c_drayref6_Known_0 m hm os).boxRO (nr_mcs m) rfl (nrBL_O rfl) (fun d h => by subst h; exact ⟨rfl, rfl⟩) hr hb hbr
end Go.Lv

namespace Go.Lv
open Go.Proofs

noncomputable def findO (id : Int) : List Ord → Option Ord
  | [] => none
  | o :: r => if o.id = id then some o else findO id r
noncomputable def zeroO : Ord := ⟨0, 0, ⟨0, ⟨0, 0⟩, 0⟩, ⟨0, ⟨0, 0⟩, 0⟩⟩
noncomputable def findOD (id : Int) (os : List Ord) : D := match findO id os with
  | some o => .tup [.agg (rowO o), .bool true]
  | none => .tup [.agg (rowO zeroO), .bool false]
theorem findO_at {id : Int} {os : List Ord} {i : Nat} (h : i < os.length) : findO id (os.drop i) = if os[i].id = id then some os[i] else findO id (os.drop (i + 1)) := by
  rw [List.drop_eq_getElem_cons h]
  rfl
theorem findOD_ok (id : Int) (os : List Ord) : partsOK (findOD id os) = true ∧ nrB 0 (findOD id os) = true := by
  unfold findOD
  split <;> exact ⟨rfl, rfl⟩
noncomputable def sFo (os : List Ord) (id : Int) (i : Nat) : DS := ⟨[(1, .int .i64 id), (8, encOs os), (9, .int .i64 (os.length : Int)), (10, .int .i64 (i : Int)), (4, .lptr 4 0 0), (5, .bool false)], [(4, rowO zeroO)], [], mR 0⟩
set_option maxHeartbeats 4000000 in
theorem c_route_Find_0 (os : List Ord) (hl : os.length ≤ 1000000000000000) (id : Int) : Tri Tryz.prog 38 0 [encOs os, .int .i64 id] [] (fun d k => d = findOD id os ∧ k = []) := by
  refine Tri.walk2 (L := LT) (c := {n := 21, ko := [5], kb := [4]}) [] [0, 1, 4, 5, 7, 8, 9, 10, 11, 17] hLT hmix Tryz.func38 rfl rfl ⟨rfl, rfl⟩ (by show 2 ≤ 21; decide) (by first | exact Nat.zero_le _ | exact Nat.le_refl _ | exact Nat.le_succ 1 | decide) ?_
  show Ok _ _ _ _ _
  refine Ok.loopN hLT hmix [] [0, 1, 4, 5, 7, 8, 9, 10, 11, 17] [1,8,9,10,4,5] [4] (fun n s => ∃ i : Nat, n = os.length - i ∧ i ≤ os.length ∧ findO id (os.drop i) = findO id os ∧ s = sFo os id i) (n := os.length) ⟨0, rfl, Nat.zero_le _, rfl, by unfold sFo; rw [← List.length_map (f := rowO)]; rfl⟩ ?_
  rintro n s ⟨i, rfl, hi, hix, rfl⟩
  unfold findOD
  refine And.intro (fun h1 => ?_) (fun h1 => ?_)
  · have h1 : ((i : Nat) : Int) < (os.length : Int) := of_decide_eq_true h1
    have hw := wrap_succ (i := i) (n := os.length) (by omega) hl
    rw [findO_at (by omega)] at hix
    refine ⟨(os).map rowO, rowO ((os)[i]'(by omega)), rfl, by omega, row_at' rowO (os) (by omega) (by omega), rfl, of_decide_eq_true rfl, ?_⟩
    generalize os[i] = o at hix ⊢
    refine And.intro (fun h2 => ?_) (fun h2 => ?_)
    · have h2 : o.id = id := of_decide_eq_true h2
      rw [if_pos h2] at hix
      rw [← hix]
      exact And.intro rfl rfl
    · have h2 : ¬ o.id = id := of_decide_eq_false h2
      rw [if_neg h2] at hix
      refine ⟨os.length - (i + 1), by omega, i + 1, rfl, by omega, hix, ?_⟩
      unfold sFo
      rw [← hw]
      rfl
  · have h1 : ¬ ((i : Nat) : Int) < (os.length : Int) := of_decide_eq_false h1
    rw [List.drop_eq_nil_of_le (by omega)] at hix
    rw [← hix]
    exact And.intro rfl rfl
theorem c_route_Find (os : List Ord) (hl : os.length ≤ 1000000000000000) (id : Int) {r : Nat} {sto : List Ob} (hr : r ≤ sto.length) : Tri Tryz.prog 38 r [encOs os, .int .i64 id] sto (fun d k => d = findOD id os ∧ k = sto) :=
  (c_route_Find_0 os hl id).pure rfl (nrBL_O rfl) (findOD_ok id os).1 (findOD_ok id os).2 hr
noncomputable def idxOA (id : Int) : Nat → List Ord → Int
  | _, [] => -1
  | i, o :: r => if o.id = id then (i : Int) else idxOA id (i + 1) r
noncomputable def idxO (id : Int) (os : List Ord) : Int := idxOA id 0 os
theorem idxOA_at {id : Int} {os : List Ord} {i : Nat} (h : i < os.length) : idxOA id i (os.drop i) = if os[i].id = id then (i : Int) else idxOA id (i + 1) (os.drop (i + 1)) := by
  rw [List.drop_eq_getElem_cons h]
  rfl
theorem idxOA_find {id : Int} : ∀ {os : List Ord} {k : Nat}, (findO id os = none ∧ idxOA id k os = -1) ∨ ∃ (i : Nat) (h : i < os.length), idxOA id k os = ((k + i : Nat) : Int) ∧ findO id os = some os[i]
  | [], k => .inl ⟨rfl, rfl⟩
  | o :: r, k => by
    unfold findO idxOA
    split
    · exact .inr ⟨0, by simp, by simp, rfl⟩
    · rcases idxOA_find (id := id) (os := r) (k := k + 1) with h | ⟨i, h, h1, h2⟩
      · exact .inl h
      · exact .inr ⟨i + 1, by simp; omega, by rw [h1]; omega, by rw [h2]; rfl⟩
theorem idxO_find (id : Int) (os : List Ord) : (findO id os = none ∧ idxO id os = -1) ∨ ∃ (i : Nat) (h : i < os.length), idxO id os = (i : Int) ∧ findO id os = some os[i] := by
  rcases idxOA_find (id := id) (os := os) (k := 0) with h | ⟨i, h, h1, h2⟩
  · exact .inl h
  · exact .inr ⟨i, h, by rw [← Nat.zero_add i]; exact h1, h2⟩
noncomputable def sFx (os : List Ord) (id : Int) (i : Nat) : DS := ⟨[(0, encOs os), (1, .int .i64 id), (5, .int .i64 (i : Int)), (4, .int .i64 0)], [], [], mR 0⟩
set_option maxHeartbeats 4000000 in
theorem c_drayref6_Find_0 (os : List Ord) (hl : os.length ≤ 1000000000000000) (id : Int) : Tri Tryz.prog 102 0 [encOs os, .int .i64 id] [] (fun d k => d = .int .i64 (idxO id os) ∧ k = []) := by
  refine Tri.walk2 (L := LT) (c := {n := 20, ko := [4]}) [] [0, 1, 4, 5, 9, 18] hLT hmix Tryz.func102 rfl rfl ⟨rfl, rfl⟩ (by show 2 ≤ 20; decide) (by first | exact Nat.zero_le _ | exact Nat.le_refl _ | exact Nat.le_succ 1 | decide) ?_
  show Ok _ _ _ _ _
  refine Ok.loopN hLT hmix [] [0, 1, 4, 5, 9, 18] [0,1,5,4] [] (fun n s => ∃ i : Nat, n = os.length - i ∧ i ≤ os.length ∧ idxOA id i (os.drop i) = idxO id os ∧ s = sFx os id i) (n := os.length) ⟨0, rfl, Nat.zero_le _, rfl, rfl⟩ ?_
  rintro n s ⟨i, rfl, hi, hix, rfl⟩
  refine And.intro (fun h1 => ?_) (fun h1 => ?_)
  · have h1 : ((i : Nat) : Int) < ((os.map rowO).length : Int) := of_decide_eq_true h1
    rw [List.length_map] at h1
    have hw := wrap_succ (i := i) (n := os.length) (by omega) hl
    rw [idxOA_at (by omega)] at hix
    refine ⟨(os).map rowO, rowO ((os)[i]'(by omega)), rfl, by omega, row_at' rowO (os) (by omega) (by omega), rfl, of_decide_eq_true rfl, ?_⟩
    refine And.intro (fun h2 => ?_) (fun h2 => ?_)
    · have h2 : os[i].id = id := of_decide_eq_true h2
      rw [if_pos h2] at hix
      rw [← hix]
      exact And.intro rfl rfl
    · have h2 : ¬ os[i].id = id := of_decide_eq_false h2
      rw [if_neg h2] at hix
      refine ⟨os.length - (i + 1), by omega, i + 1, rfl, by omega, hix, ?_⟩
      unfold sFx
      rw [← hw]
      rfl
  · have h1 : ¬ ((i : Nat) : Int) < ((os.map rowO).length : Int) := of_decide_eq_false h1
    rw [List.length_map] at h1
    rw [List.drop_eq_nil_of_le (by omega)] at hix
    rw [← hix]
    exact And.intro rfl rfl
theorem c_drayref6_Find (os : List Ord) (hl : os.length ≤ 1000000000000000) (id : Int) {r : Nat} {sto : List Ob} (hr : r ≤ sto.length) : Tri Tryz.prog 102 r [encOs os, .int .i64 id] sto (fun d k => d = .int .i64 (idxO id os) ∧ k = sto) :=
  (c_drayref6_Find_0 os hl id).pure rfl (nrBL_O rfl) rfl rfl hr
noncomputable def siteO (o : Ord) : Bool → Sit
  | true => o.drop
  | false => o.pick
theorem c_route_Site_0 (o : Ord) (b : Bool) : Tri Tryz.prog 131 0 [.agg (rowO o), .bool b] [] (fun d k => d = .agg (rowSi (siteO o b)) ∧ k = []) := by
  cases b with
  | true =>
    refine Tri.walk2 (L := LT) (c := {n := 10, kb := [4]}) [] [0, 1, 2, 4, 5] hLT hmix Tryz.func131 rfl rfl ⟨rfl, rfl⟩ (by show 2 ≤ 10; decide) (by first | exact Nat.zero_le _ | exact Nat.le_refl _ | exact Nat.le_succ 1 | decide) ?_
    repeat (first | refine And.intro (fun _ => ?_) (fun h => Bool.noConfusion h) | refine And.intro (fun h => Bool.noConfusion h) (fun _ => ?_))
    exact And.intro rfl rfl
  | false =>
    refine Tri.walk2 (L := LT) (c := {n := 10, kb := [4]}) [] [0, 1, 2, 4, 5] hLT hmix Tryz.func131 rfl rfl ⟨rfl, rfl⟩ (by show 2 ≤ 10; decide) (by first | exact Nat.zero_le _ | exact Nat.le_refl _ | exact Nat.le_succ 1 | decide) ?_
    repeat (first | refine And.intro (fun _ => ?_) (fun h => Bool.noConfusion h) | refine And.intro (fun h => Bool.noConfusion h) (fun _ => ?_))
    exact And.intro rfl rfl
theorem c_route_Site (o : Ord) (b : Bool) {r : Nat} {sto : List Ob} (hr : r ≤ sto.length) : Tri Tryz.prog 131 r [.agg (rowO o), .bool b] sto (fun d k => d = .agg (rowSi (siteO o b)) ∧ k = sto) :=
  (c_route_Site_0 o b).pure rfl rfl rfl rfl hr
theorem c_drayref6_Site_0 (o : Ord) (s : Stp) : Tri Tryz.prog 154 0 [.agg (rowO o), .agg (rowS s)] [] (fun d k => d = .agg (rowSi (siteO o s.drop)) ∧ k = []) := by
  obtain ⟨n, b⟩ := s
  cases b with
  | true =>
    refine Tri.walk2 (L := LT) (c := {n := 11, kb := [4]}) [] [0, 1, 2, 3, 4, 6] hLT hmix Tryz.func154 rfl rfl ⟨rfl, rfl⟩ (by show 2 ≤ 11; decide) (by first | exact Nat.zero_le _ | exact Nat.le_refl _ | exact Nat.le_succ 1 | decide) ?_
    repeat (first | refine And.intro (fun _ => ?_) (fun h => Bool.noConfusion h) | refine And.intro (fun h => Bool.noConfusion h) (fun _ => ?_))
    exact And.intro rfl rfl
  | false =>
    refine Tri.walk2 (L := LT) (c := {n := 11, kb := [4]}) [] [0, 1, 2, 3, 4, 6] hLT hmix Tryz.func154 rfl rfl ⟨rfl, rfl⟩ (by show 2 ≤ 11; decide) (by first | exact Nat.zero_le _ | exact Nat.le_refl _ | exact Nat.le_succ 1 | decide) ?_
    repeat (first | refine And.intro (fun _ => ?_) (fun h => Bool.noConfusion h) | refine And.intro (fun h => Bool.noConfusion h) (fun _ => ?_))
    exact And.intro rfl rfl
theorem c_drayref6_Site (o : Ord) (s : Stp) {r : Nat} {sto : List Ob} (hr : r ≤ sto.length) : Tri Tryz.prog 154 r [.agg (rowO o), .agg (rowS s)] sto (fun d k => d = .agg (rowSi (siteO o s.drop)) ∧ k = sto) :=
  (c_drayref6_Site_0 o s).pure rfl rfl rfl rfl hr
end Go.Lv

namespace Go.Lv
open Go.Proofs

noncomputable def fitD (m : Mp) (d : Drv) (os : List Ord) (st : List Stp) : Prop := errD m.n d = 0 ∧ okOs m.n os ∧ st.length ≤ 80
noncomputable instance (m : Mp) (d : Drv) (os : List Ord) (st : List Stp) : Decidable (fitD m d os st) := by unfold fitD; infer_instance
end Go.Lv

namespace Go.Lv
open Go.Proofs

end Go.Lv

namespace Go.Lv
open Go.Proofs

end Go.Lv

namespace Go.Lv
open Go.Proofs

end Go.Lv

namespace Go.Lv
open Go.Proofs

end Go.Lv

namespace Go.Lv
open Go.Proofs

end Go.Lv

namespace Go.Lv
open Go.Proofs

noncomputable def findDr (id : Int) : List Drv → Option Drv
  | [] => none
  | o :: r => if o.id = id then some o else findDr id r
noncomputable def zeroDr : Drv := ⟨0, 0, 0, ⟨0, 0⟩, false⟩
noncomputable def drOf (id : Int) (ds : List Drv) : Drv := (findDr id ds).getD zeroDr
noncomputable def drOfD (id : Int) (ds : List Drv) : D := .tup [.agg (rowDr (drOf id ds)), .bool (findDr id ds).isSome]
theorem findDr_at {id : Int} {ds : List Drv} {i : Nat} (h : i < ds.length) : findDr id (ds.drop i) = if ds[i].id = id then some ds[i] else findDr id (ds.drop (i + 1)) := by
  rw [List.drop_eq_getElem_cons h]
  rfl
theorem findDr_mem {id : Int} : ∀ {os : List Drv} {o : Drv}, findDr id os = some o → o ∈ os ∧ o.id = id
  | [], o, h => by cases h
  | x :: r, o, h => by
    unfold findDr at h
    split at h
    · rename_i e
      cases h
      exact ⟨by simp, e⟩
    · have := findDr_mem h
      exact ⟨by simp [this.1], this.2⟩
theorem findDr_none {id : Int} : ∀ {os : List Drv}, findDr id os = none ↔ ∀ o, o ∈ os → o.id ≠ id
  | [] => by simp [findDr]
  | x :: r => by
    unfold findDr
    split
    · rename_i e
      simp [e]
    · rename_i e
      rw [findDr_none]
      simp [e]

noncomputable def sDf (os : List Drv) (id : Int) (i : Nat) : DS := ⟨[(1, .int .i64 id), (8, encDs os), (9, .int .i64 (os.length : Int)), (10, .int .i64 (i : Int)), (4, .lptr 4 0 0), (5, .bool false)], [(4, rowDr zeroDr)], [], mR 0⟩
set_option maxHeartbeats 4000000 in
theorem c_cert_Driver_0 (os : List Drv) (hl : os.length ≤ 1000000000000000) (id : Int) : Tri Tryz.prog 50 0 [encDs os, .int .i64 id] [] (fun d k => d = drOfD id os ∧ k = []) := by
  refine Tri.walk2 (L := LT) (c := {n := 21, ko := [5], kb := [4]}) [] [0, 1, 4, 5, 7, 8, 9, 10, 11, 17] hLT hmix Tryz.func50 rfl rfl ⟨rfl, rfl⟩ (by show 2 ≤ 21; decide) (by first | exact Nat.zero_le _ | exact Nat.le_refl _ | exact Nat.le_succ 1 | decide) ?_
  show Ok _ _ _ _ _
  refine Ok.loopN hLT hmix [] [0, 1, 4, 5, 7, 8, 9, 10, 11, 17] [1,8,9,10,4,5] [4] (fun n s => ∃ i : Nat, n = os.length - i ∧ i ≤ os.length ∧ findDr id (os.drop i) = findDr id os ∧ s = sDf os id i) (n := os.length) ⟨0, rfl, Nat.zero_le _, rfl, by unfold sDf; rw [← List.length_map (f := rowDr)]; rfl⟩ ?_
  rintro n s ⟨i, rfl, hi, hix, rfl⟩
  unfold drOfD drOf
  refine And.intro (fun h1 => ?_) (fun h1 => ?_)
  · have h1 : ((i : Nat) : Int) < (os.length : Int) := of_decide_eq_true h1
    have hw := wrap_succ (i := i) (n := os.length) (by omega) hl
    rw [findDr_at (by omega)] at hix
    refine ⟨(os).map rowDr, rowDr ((os)[i]'(by omega)), rfl, by omega, row_at' rowDr (os) (by omega) (by omega), rfl, of_decide_eq_true rfl, ?_⟩
    refine And.intro (fun h2 => ?_) (fun h2 => ?_)
    · have h2 : os[i].id = id := of_decide_eq_true h2
      rw [if_pos h2] at hix
      rw [← hix]
      exact And.intro rfl rfl
    · have h2 : ¬ os[i].id = id := of_decide_eq_false h2
      rw [if_neg h2] at hix
      refine ⟨os.length - (i + 1), by omega, i + 1, rfl, by omega, hix, ?_⟩
      unfold sDf
      rw [← hw]
      rfl
  · have h1 : ¬ ((i : Nat) : Int) < (os.length : Int) := of_decide_eq_false h1
    rw [List.drop_eq_nil_of_le (by omega)] at hix
    rw [← hix]
    exact And.intro rfl rfl
theorem c_cert_Driver (os : List Drv) (hl : os.length ≤ 1000000000000000) {xs : List (List D)} (hx : xs = os.map rowDr) (id : Int) {r : Nat} {sto : List Ob} (hr : r ≤ sto.length) : Tri Tryz.prog 50 r [.list .imm xs, .int .i64 id] sto (fun d k => d = drOfD id os ∧ k = sto) := by
  subst hx
  exact (c_cert_Driver_0 os hl id).pure rfl (nrBL_Dr rfl) rfl rfl hr

noncomputable def togO (m : Mp) (ds : List Drv) (os : List Ord) (p : Pln) : Prop := ds.length ≤ 8 ∧ okOs m.n os ∧ rightP p = true ∧ (∀ d, d ∈ ds → errD m.n d = 0) ∧ ds.Pairwise (fun a b => a.id ≠ b.id)
noncomputable instance (m : Mp) (ds : List Drv) (os : List Ord) (p : Pln) : Decidable (togO m ds os p) := by unfold togO; infer_instance
theorem pwD_snoc {os : List Drv} {i : Nat} (hi : i < os.length) (h : (os.take i).Pairwise (fun a b => a.id ≠ b.id)) (hn : ∀ x, x ∈ os.take i → x.id ≠ os[i].id) : (os.take (i + 1)).Pairwise (fun a b => a.id ≠ b.id) := by
  rw [List.take_succ_eq_append_getElem hi, List.pairwise_append]
  exact ⟨h, by simp, fun a ha b hb => by rw [List.mem_singleton.1 hb]; exact hn a ha⟩
theorem pwD_no {os : List Drv} {i j : Nat} (hi : i < os.length) (hj : j < i) (e : (os[j]'(by omega)).id = os[i].id) : ¬ os.Pairwise (fun a b => a.id ≠ b.id) := fun h => (List.pairwise_iff_getElem.1 h j i (by omega) hi hj) e
theorem pwD_no' {os : List Drv} {i : Nat} (hi : i < os.length) (h : ∃ x, x ∈ os.take i ∧ x.id = os[i].id) : ¬ os.Pairwise (fun a b => a.id ≠ b.id) := by
  obtain ⟨x, hx, e⟩ := h
  obtain ⟨j, hj, rfl⟩ := List.mem_iff_getElem.1 hx
  rw [List.getElem_take] at e
  rw [List.length_take] at hj
  exact pwD_no hi (by omega) e
theorem take_rowsDr (os : List Drv) (i : Nat) {n : Int} (h : n = (i : Int)) : ((os.map rowDr).drop 0).take (n.toNat - 0) = (os.take i).map rowDr := by
  subst h
  simp [List.map_take]
theorem drOf_isSome {id : Int} {os : List Drv} : (findDr id os).isSome = true ↔ ∃ x, x ∈ os ∧ x.id = id := by
  cases hf : findDr id os with
  | none =>
    have := findDr_none.1 hf
    simp only [Option.isSome_none, Bool.false_eq_true, false_iff]
    rintro ⟨x, hx, e⟩
    exact this x hx e
  | some o =>
    simp only [Option.isSome_some, true_iff]
    exact ⟨o, findDr_mem hf⟩
noncomputable def sTg (m : Mp) (ds : List Drv) (i : Nat) : DS := ⟨[(0, .gptr 0 0), (1, encDs ds), (31, encDs ds), (32, .int .i64 (ds.length : Int)), (33, .int .i64 (i : Int)), (8, .bool false)], [], [mbox m], mR 1⟩
set_option maxHeartbeats 8000000 in
theorem c_cert_Together_0 (m : Mp) (hm : okMp m) (ds : List Drv) (os : List Ord) (p : Pln) : Tri Tryz.prog 70 1 [.gptr 0 0, encDs ds, encOs os, encP p] [mbox m] (fun x k => x = .bool (decide (togO m ds os p)) ∧ k = [mbox m]) := by
  refine Tri.walk2 (L := LT) (c := {n := 55, ko := [8]}) [] [0, 1, 2, 3, 8, 9, 10, 12, 30, 31, 32, 33, 34, 53] hLT hmix Tryz.func70 rfl rfl ⟨rfl, rfl⟩ (by show 4 ≤ 55; decide) (by first | exact Nat.zero_le _ | exact Nat.le_refl _ | exact Nat.le_succ 1 | decide) ?_
  repeat (first | refine And.intro (fun _ => ?_) (fun h => Bool.noConfusion h) | refine And.intro (fun h => Bool.noConfusion h) (fun _ => ?_))
  refine And.intro (fun h0 => ?_) (fun h0 => ?_)
  · have h0 : ((ds.map rowDr).length : Int) > 8 := of_decide_eq_true h0
    repeat (first | refine And.intro (fun _ => ?_) (fun h => Bool.noConfusion h) | refine And.intro (fun h => Bool.noConfusion h) (fun _ => ?_))
    rw [List.length_map] at h0
    rw [decide_eq_false (show ¬ togO m ds os p from fun h => by have := h.1; omega)]
    exact And.intro rfl rfl
  have h0 : ¬ ((ds.map rowDr).length : Int) > 8 := of_decide_eq_false h0
  rw [List.length_map] at h0
  repeat (first | refine And.intro (fun _ => ?_) (fun h => Bool.noConfusion h) | refine And.intro (fun h => Bool.noConfusion h) (fun _ => ?_))
  refine ⟨rfl, (by first | exact Nat.zero_le _ | exact Nat.le_refl _ | exact Nat.le_succ 1 | decide), (c_deal_Known m hm os (r := 1) (sto := [mbox m]) (Nat.le_refl 1) rfl (Nat.lt_succ_self 0)).mono ?_⟩
  rintro d l ⟨rfl, rfl⟩
  refine ⟨rfl, fun _ _ => rfl, rfl, ?_⟩
  cases h1 : decide (okOs m.n os) with
  | false =>
    repeat (first | refine And.intro (fun _ => ?_) (fun h => Bool.noConfusion h) | refine And.intro (fun h => Bool.noConfusion h) (fun _ => ?_))
    rw [decide_eq_false (show ¬ togO m ds os p from fun h => of_decide_eq_false h1 h.2.1)]
    exact And.intro rfl rfl
  | true =>
  have h1 := of_decide_eq_true h1
  repeat (first | refine And.intro (fun _ => ?_) (fun h => Bool.noConfusion h) | refine And.intro (fun h => Bool.noConfusion h) (fun _ => ?_))
  refine ⟨rfl, (by first | exact Nat.zero_le _ | exact Nat.le_refl _ | exact Nat.le_succ 1 | decide), (c_plan_Right p (r := 1) (sto := [mbox m]) (Nat.le_refl 1)).mono ?_⟩
  rintro d l ⟨rfl, rfl⟩
  refine ⟨rfl, fun _ _ => rfl, rfl, ?_⟩
  cases h2 : rightP p with
  | false =>
    repeat (first | refine And.intro (fun _ => ?_) (fun h => Bool.noConfusion h) | refine And.intro (fun h => Bool.noConfusion h) (fun _ => ?_))
    rw [decide_eq_false (show ¬ togO m ds os p from fun h => by rw [h.2.2.1] at h2; cases h2)]
    exact And.intro rfl rfl
  | true =>
  repeat (first | refine And.intro (fun _ => ?_) (fun h => Bool.noConfusion h) | refine And.intro (fun h => Bool.noConfusion h) (fun _ => ?_))
  show Ok _ _ _ _ _
  refine Ok.loopN hLT hmix [] [0, 1, 2, 3, 8, 9, 10, 12, 30, 31, 32, 33, 34, 53] [0,1,31,32,33,8] [] (fun n s => ∃ i : Nat, n = ds.length - i ∧ i ≤ ds.length ∧ (∀ o, o ∈ ds.take i → errD m.n o = 0) ∧ (ds.take i).Pairwise (fun a b => a.id ≠ b.id) ∧ s = sTg m ds i) (n := ds.length) ⟨0, rfl, Nat.zero_le _, by simp, by simp, by unfold sTg; rw [← List.length_map (f := rowDr)]; rfl⟩ ?_
  rintro n s ⟨i, rfl, hi, hall, hpw, rfl⟩
  refine And.intro (fun h3 => ?_) (fun h3 => ?_)
  rotate_left
  · have h3 : ¬ ((i : Nat) : Int) < (ds.length : Int) := of_decide_eq_false h3
    rw [List.take_of_length_le (by omega)] at hall hpw
    rw [decide_eq_true (show togO m ds os p from ⟨by omega, h1, h2, hall, hpw⟩)]
    exact And.intro rfl rfl
  have h3 : ((i : Nat) : Int) < (ds.length : Int) := of_decide_eq_true h3
  have hil : i < ds.length := by omega
  have hw := wrap_succ (i := i) (n := ds.length) hil (by omega)
  have hal : allLen 6 (ds.map rowDr) = true := by simp [allLen, rowDr]
  have hcl := c_cert_Driver (ds.take i) (by rw [List.length_take]; omega) (take_rowsDr ds i rfl) ds[i].id (r := 1) (sto := [mbox m]) (Nat.le_refl 1)
  unfold drOfD at hcl
  have hso := drOf_isSome (id := ds[i].id) (os := ds.take i)
  have hno := fun h => pwD_no' hil h
  have hsn := fun h => pwD_snoc hil hpw h
  have hle := fun h => (h : togO m ds os p).2.2.2.1 ds[i] (List.getElem_mem _)
  have htk := List.take_succ_eq_append_getElem hil
  generalize drOf ds[i].id (ds.take i) = dz at hcl
  generalize (findDr ds[i].id (ds.take i)).isSome = q at hcl hso
  refine ⟨(ds).map rowDr, rowDr ((ds)[i]'(by omega)), rfl, by omega, row_at' rowDr (ds) (by omega) (by omega), rfl, of_decide_eq_true rfl, ?_⟩
  generalize ds[i] = d at hcl hso hno hsn hle htk ⊢
  cases q with
  | true =>
    refine ⟨⟨3071, [0, 0, 3, 0, 8, 20, 32, 64, 64, 0, 767, 2047], [1, 2, 7, 8, 24, 63, 127, 255, 383, 512, 1791, 4095]⟩, by kernel_rfl, ?_⟩
    refine And.intro ⟨by omega, by (try rw [List.length_map]); omega⟩ (And.intro (Nat.zero_le _) (And.intro (of_decide_eq_true rfl) (And.intro (by assumption) (And.intro rfl ?_))))
    refine (fun (hrest : _) => And.intro (by
        refine ⟨rfl, (by first | exact Nat.zero_le _ | exact Nat.le_refl _ | exact Nat.le_succ 1 | decide), (hcl).mono ?_⟩
        rintro d l ⟨rfl, rfl⟩
        refine ⟨rfl, fun _ _ => rfl, rfl, ?_⟩
        refine And.intro (by repeat (first | exact trivial | refine And.intro ⟨rfl, rfl⟩ ?_ | refine And.intro (And.intro ⟨by omega, by (try rw [List.length_map]); omega⟩ (And.intro (Nat.zero_le _) (And.intro (of_decide_eq_true rfl) (And.intro (by assumption) (And.intro rfl (And.intro rfl rfl)))))) ?_ | refine And.intro ⟨_, _, rfl, by omega, row_at' _ _ rfl (by omega), rfl, of_decide_eq_true rfl, And.intro rfl (And.intro rfl rfl)⟩ ?_)) ?_
        refine And.intro (fun _ => ?_) (fun h => Bool.noConfusion h)
        refine And.intro ?_ trivial
        refine And.intro (by repeat (first | exact trivial | refine And.intro ⟨rfl, rfl⟩ ?_ | refine And.intro (And.intro ⟨by omega, by (try rw [List.length_map]); omega⟩ (And.intro (Nat.zero_le _) (And.intro (of_decide_eq_true rfl) (And.intro (by assumption) (And.intro rfl (And.intro rfl rfl)))))) ?_ | refine And.intro ⟨_, _, rfl, by omega, row_at' _ _ rfl (by omega), rfl, of_decide_eq_true rfl, And.intro rfl (And.intro rfl rfl)⟩ ?_)) ?_
        refine And.intro ?_ trivial
        refine And.intro (by repeat (first | exact trivial | refine And.intro ⟨rfl, rfl⟩ ?_ | refine And.intro (And.intro ⟨by omega, by (try rw [List.length_map]); omega⟩ (And.intro (Nat.zero_le _) (And.intro (of_decide_eq_true rfl) (And.intro (by assumption) (And.intro rfl (And.intro rfl rfl)))))) ?_ | refine And.intro ⟨_, _, rfl, by omega, row_at' _ _ rfl (by omega), rfl, of_decide_eq_true rfl, And.intro rfl (And.intro rfl rfl)⟩ ?_)) ?_
        refine And.intro ?_ trivial
        refine And.intro (by repeat (first | exact trivial | refine And.intro ⟨rfl, rfl⟩ ?_ | refine And.intro (And.intro ⟨by omega, by (try rw [List.length_map]); omega⟩ (And.intro (Nat.zero_le _) (And.intro (of_decide_eq_true rfl) (And.intro (by assumption) (And.intro rfl (And.intro rfl rfl)))))) ?_ | refine And.intro ⟨_, _, rfl, by omega, row_at' _ _ rfl (by omega), rfl, of_decide_eq_true rfl, And.intro rfl (And.intro rfl rfl)⟩ ?_)) ?_
        exact hrest) (And.intro (by
        refine And.intro (by repeat (first | exact trivial | refine And.intro ⟨rfl, rfl⟩ ?_ | refine And.intro (And.intro ⟨by omega, by (try rw [List.length_map]); omega⟩ (And.intro (Nat.zero_le _) (And.intro (of_decide_eq_true rfl) (And.intro (by assumption) (And.intro rfl (And.intro rfl rfl)))))) ?_ | refine And.intro ⟨_, _, rfl, by omega, row_at' _ _ rfl (by omega), rfl, of_decide_eq_true rfl, And.intro rfl (And.intro rfl rfl)⟩ ?_)) ?_
        refine And.intro ?_ trivial
        refine ⟨rfl, (by first | exact Nat.zero_le _ | exact Nat.le_refl _ | exact Nat.le_succ 1 | decide), (hcl).mono ?_⟩
        rintro d l ⟨rfl, rfl⟩
        refine ⟨rfl, fun _ _ => rfl, rfl, ?_⟩
        refine And.intro (by repeat (first | exact trivial | refine And.intro ⟨rfl, rfl⟩ ?_ | refine And.intro (And.intro ⟨by omega, by (try rw [List.length_map]); omega⟩ (And.intro (Nat.zero_le _) (And.intro (of_decide_eq_true rfl) (And.intro (by assumption) (And.intro rfl (And.intro rfl rfl)))))) ?_ | refine And.intro ⟨_, _, rfl, by omega, row_at' _ _ rfl (by omega), rfl, of_decide_eq_true rfl, And.intro rfl (And.intro rfl rfl)⟩ ?_)) ?_
        refine And.intro (fun _ => ?_) (fun h => Bool.noConfusion h)
        refine And.intro ?_ trivial
        refine And.intro (by repeat (first | exact trivial | refine And.intro ⟨rfl, rfl⟩ ?_ | refine And.intro (And.intro ⟨by omega, by (try rw [List.length_map]); omega⟩ (And.intro (Nat.zero_le _) (And.intro (of_decide_eq_true rfl) (And.intro (by assumption) (And.intro rfl (And.intro rfl rfl)))))) ?_ | refine And.intro ⟨_, _, rfl, by omega, row_at' _ _ rfl (by omega), rfl, of_decide_eq_true rfl, And.intro rfl (And.intro rfl rfl)⟩ ?_)) ?_
        refine And.intro ?_ trivial
        refine And.intro (by repeat (first | exact trivial | refine And.intro ⟨rfl, rfl⟩ ?_ | refine And.intro (And.intro ⟨by omega, by (try rw [List.length_map]); omega⟩ (And.intro (Nat.zero_le _) (And.intro (of_decide_eq_true rfl) (And.intro (by assumption) (And.intro rfl (And.intro rfl rfl)))))) ?_ | refine And.intro ⟨_, _, rfl, by omega, row_at' _ _ rfl (by omega), rfl, of_decide_eq_true rfl, And.intro rfl (And.intro rfl rfl)⟩ ?_)) ?_
        exact hrest) trivial)) ?_
    repeat (first | refine And.intro (fun _ => ?_) (fun h => Bool.noConfusion h) | refine And.intro (fun h => Bool.noConfusion h) (fun _ => ?_))
    rw [decide_eq_false (show ¬ togO m ds os p from fun h => hno (hso.1 rfl) h.2.2.2.2)]
    exact And.intro rfl rfl
  | false =>
  refine ⟨⟨3071, [0, 0, 3, 0, 8, 20, 32, 64, 64, 0, 767, 2047], [1, 2, 7, 8, 24, 63, 127, 255, 383, 512, 1791, 4095]⟩, by kernel_rfl, ?_⟩
  refine And.intro ⟨by omega, by (try rw [List.length_map]); omega⟩ (And.intro (Nat.zero_le _) (And.intro (of_decide_eq_true rfl) (And.intro (by assumption) (And.intro rfl ?_))))
  refine (fun (hrest : _) => And.intro (by
      refine ⟨rfl, (by first | exact Nat.zero_le _ | exact Nat.le_refl _ | exact Nat.le_succ 1 | decide), (hcl).mono ?_⟩
      rintro d l ⟨rfl, rfl⟩
      refine ⟨rfl, fun _ _ => rfl, rfl, ?_⟩
      refine And.intro (by repeat (first | exact trivial | refine And.intro ⟨rfl, rfl⟩ ?_ | refine And.intro (And.intro ⟨by omega, by (try rw [List.length_map]); omega⟩ (And.intro (Nat.zero_le _) (And.intro (of_decide_eq_true rfl) (And.intro (by assumption) (And.intro rfl (And.intro rfl rfl)))))) ?_ | refine And.intro ⟨_, _, rfl, by omega, row_at' _ _ rfl (by omega), rfl, of_decide_eq_true rfl, And.intro rfl (And.intro rfl rfl)⟩ ?_)) ?_
      refine And.intro (fun h => Bool.noConfusion h) (fun _ => ?_)
      refine And.intro ?_ trivial
      refine And.intro (by repeat (first | exact trivial | refine And.intro ⟨rfl, rfl⟩ ?_ | refine And.intro (And.intro ⟨by omega, by (try rw [List.length_map]); omega⟩ (And.intro (Nat.zero_le _) (And.intro (of_decide_eq_true rfl) (And.intro (by assumption) (And.intro rfl (And.intro rfl rfl)))))) ?_ | refine And.intro ⟨_, _, rfl, by omega, row_at' _ _ rfl (by omega), rfl, of_decide_eq_true rfl, And.intro rfl (And.intro rfl rfl)⟩ ?_)) ?_
      refine And.intro ?_ trivial
      refine And.intro (by repeat (first | exact trivial | refine And.intro ⟨rfl, rfl⟩ ?_ | refine And.intro (And.intro ⟨by omega, by (try rw [List.length_map]); omega⟩ (And.intro (Nat.zero_le _) (And.intro (of_decide_eq_true rfl) (And.intro (by assumption) (And.intro rfl (And.intro rfl rfl)))))) ?_ | refine And.intro ⟨_, _, rfl, by omega, row_at' _ _ rfl (by omega), rfl, of_decide_eq_true rfl, And.intro rfl (And.intro rfl rfl)⟩ ?_)) ?_
      refine And.intro ?_ trivial
      refine And.intro (by repeat (first | exact trivial | refine And.intro ⟨rfl, rfl⟩ ?_ | refine And.intro (And.intro ⟨by omega, by (try rw [List.length_map]); omega⟩ (And.intro (Nat.zero_le _) (And.intro (of_decide_eq_true rfl) (And.intro (by assumption) (And.intro rfl (And.intro rfl rfl)))))) ?_ | refine And.intro ⟨_, _, rfl, by omega, row_at' _ _ rfl (by omega), rfl, of_decide_eq_true rfl, And.intro rfl (And.intro rfl rfl)⟩ ?_)) ?_
      exact hrest) (And.intro (by
      refine And.intro (by repeat (first | exact trivial | refine And.intro ⟨rfl, rfl⟩ ?_ | refine And.intro (And.intro ⟨by omega, by (try rw [List.length_map]); omega⟩ (And.intro (Nat.zero_le _) (And.intro (of_decide_eq_true rfl) (And.intro (by assumption) (And.intro rfl (And.intro rfl rfl)))))) ?_ | refine And.intro ⟨_, _, rfl, by omega, row_at' _ _ rfl (by omega), rfl, of_decide_eq_true rfl, And.intro rfl (And.intro rfl rfl)⟩ ?_)) ?_
      refine And.intro ?_ trivial
      refine ⟨rfl, (by first | exact Nat.zero_le _ | exact Nat.le_refl _ | exact Nat.le_succ 1 | decide), (hcl).mono ?_⟩
      rintro d l ⟨rfl, rfl⟩
      refine ⟨rfl, fun _ _ => rfl, rfl, ?_⟩
      refine And.intro (by repeat (first | exact trivial | refine And.intro ⟨rfl, rfl⟩ ?_ | refine And.intro (And.intro ⟨by omega, by (try rw [List.length_map]); omega⟩ (And.intro (Nat.zero_le _) (And.intro (of_decide_eq_true rfl) (And.intro (by assumption) (And.intro rfl (And.intro rfl rfl)))))) ?_ | refine And.intro ⟨_, _, rfl, by omega, row_at' _ _ rfl (by omega), rfl, of_decide_eq_true rfl, And.intro rfl (And.intro rfl rfl)⟩ ?_)) ?_
      refine And.intro (fun h => Bool.noConfusion h) (fun _ => ?_)
      refine And.intro ?_ trivial
      refine And.intro (by repeat (first | exact trivial | refine And.intro ⟨rfl, rfl⟩ ?_ | refine And.intro (And.intro ⟨by omega, by (try rw [List.length_map]); omega⟩ (And.intro (Nat.zero_le _) (And.intro (of_decide_eq_true rfl) (And.intro (by assumption) (And.intro rfl (And.intro rfl rfl)))))) ?_ | refine And.intro ⟨_, _, rfl, by omega, row_at' _ _ rfl (by omega), rfl, of_decide_eq_true rfl, And.intro rfl (And.intro rfl rfl)⟩ ?_)) ?_
      refine And.intro ?_ trivial
      refine And.intro (by repeat (first | exact trivial | refine And.intro ⟨rfl, rfl⟩ ?_ | refine And.intro (And.intro ⟨by omega, by (try rw [List.length_map]); omega⟩ (And.intro (Nat.zero_le _) (And.intro (of_decide_eq_true rfl) (And.intro (by assumption) (And.intro rfl (And.intro rfl rfl)))))) ?_ | refine And.intro ⟨_, _, rfl, by omega, row_at' _ _ rfl (by omega), rfl, of_decide_eq_true rfl, And.intro rfl (And.intro rfl rfl)⟩ ?_)) ?_
      exact hrest) trivial)) ?_
  repeat (first | refine And.intro (fun _ => ?_) (fun h => Bool.noConfusion h) | refine And.intro (fun h => Bool.noConfusion h) (fun _ => ?_))
  refine ⟨rfl, (by first | exact Nat.zero_le _ | exact Nat.le_refl _ | exact Nat.le_succ 1 | decide), (c_deal_Driver m hm d (r := 1) (sto := [mbox m]) (Nat.le_refl 1) rfl (Nat.lt_succ_self 0)).mono ?_⟩
  rintro d l ⟨rfl, rfl⟩
  refine ⟨rfl, fun _ _ => rfl, rfl, ?_⟩
  refine And.intro (fun h4 => ?_) (fun h4 => ?_)
  · have h4 := nd_true h4
    repeat (first | refine And.intro (fun _ => ?_) (fun h => Bool.noConfusion h) | refine And.intro (fun h => Bool.noConfusion h) (fun _ => ?_))
    rw [decide_eq_false (show ¬ togO m ds os p from fun h => h4 (hle h))]
    exact And.intro rfl rfl
  have h4 := nd_false h4
  repeat (first | refine And.intro (fun _ => ?_) (fun h => Bool.noConfusion h) | refine And.intro (fun h => Bool.noConfusion h) (fun _ => ?_))
  refine ⟨ds.length - (i + 1), by omega, i + 1, rfl, by omega, fun x hx => ?_, hsn (fun x hx e => by have := hso.2 ⟨x, hx, e⟩; cases this), ?_⟩
  · rw [htk] at hx
    rcases List.mem_append.1 hx with hx | hx
    · exact hall x hx
    · rw [List.mem_singleton.1 hx]
      exact h4
  · unfold sTg
    rw [← hw]
    rfl
theorem c_cert_Together (m : Mp) (hm : okMp m) (ds : List Drv) (os : List Ord) (p : Pln) {r b : Nat} {sto : List Ob} (hr : r ≤ sto.length) (hb : sto[b]? = some (mbox m)) (hbr : b < r) : Tri Tryz.prog 70 r [.gptr b 0, encDs ds, encOs os, encP p] sto (fun x k => x = .bool (decide (togO m ds os p)) ∧ k = sto) :=
  (c_cert_Together_0 m hm ds os p).boxRO (nr_mcs m) rfl (nrBL_Dr (nrBL_O (nrBL_P rfl))) (fun d h => by subst h; exact ⟨rfl, rfl⟩) hr hb hbr

end Go.Lv

namespace Go.Lv
open Go.Proofs

noncomputable def sDr (os : List Drv) (id : Int) (i : Nat) : DS := ⟨[(0, encDs os), (1, .int .i64 id), (6, .int .i64 (i : Int)), (4, .lptr 4 0 0), (5, .bool false)], [(4, rowDr zeroDr)], [], mR 0⟩
set_option maxHeartbeats 4000000 in
theorem c_drayref9_driver_0 (os : List Drv) (hl : os.length ≤ 1000000000000000) (id : Int) : Tri Tryz.prog 95 0 [encDs os, .int .i64 id] [] (fun d k => d = drOfD id os ∧ k = []) := by
  refine Tri.walk2 (L := LT) (c := {n := 25, ko := [5], kb := [4]}) [] [0, 1, 4, 5, 6, 10, 19] hLT hmix Tryz.func95 rfl rfl ⟨rfl, rfl⟩ (by show 2 ≤ 25; decide) (by first | exact Nat.zero_le _ | exact Nat.le_refl _ | exact Nat.le_succ 1 | decide) ?_
  show Ok _ _ _ _ _
  refine Ok.loopN hLT hmix [] [0, 1, 4, 5, 6, 10, 19] [0,1,6,4,5] [4] (fun n s => ∃ i : Nat, n = os.length - i ∧ i ≤ os.length ∧ findDr id (os.drop i) = findDr id os ∧ s = sDr os id i) (n := os.length) ⟨0, rfl, Nat.zero_le _, rfl, by unfold sDr; rfl⟩ ?_
  rintro n s ⟨i, rfl, hi, hix, rfl⟩
  unfold drOfD drOf
  refine And.intro (fun h1 => ?_) (fun h1 => ?_)
  · have h1 : ((i : Nat) : Int) < ((os.map rowDr).length : Int) := of_decide_eq_true h1
    rw [List.length_map] at h1
    have hw := wrap_succ (i := i) (n := os.length) (by omega) hl
    rw [findDr_at (by omega)] at hix
    refine ⟨(os).map rowDr, rowDr ((os)[i]'(by omega)), rfl, by omega, row_at' rowDr (os) (by omega) (by omega), rfl, of_decide_eq_true rfl, ?_⟩
    refine And.intro (fun h2 => ?_) (fun h2 => ?_)
    · have h2 : os[i].id = id := of_decide_eq_true h2
      rw [if_pos h2] at hix
      rw [← hix]
      refine ⟨(os).map rowDr, rowDr ((os)[i]'(by omega)), rfl, by omega, row_at' rowDr (os) (by omega) (by omega), rfl, of_decide_eq_true rfl, ?_⟩
      exact And.intro rfl rfl
    · have h2 : ¬ os[i].id = id := of_decide_eq_false h2
      rw [if_neg h2] at hix
      refine ⟨os.length - (i + 1), by omega, i + 1, rfl, by omega, hix, ?_⟩
      unfold sDr
      rw [← hw]
      rfl
  · have h1 : ¬ ((i : Nat) : Int) < ((os.map rowDr).length : Int) := of_decide_eq_false h1
    rw [List.length_map] at h1
    rw [List.drop_eq_nil_of_le (by omega)] at hix
    rw [← hix]
    exact And.intro rfl rfl
theorem c_drayref9_driver (os : List Drv) (hl : os.length ≤ 1000000000000000) {xs : List (List D)} (hx : xs = os.map rowDr) (id : Int) {r : Nat} {sto : List Ob} (hr : r ≤ sto.length) : Tri Tryz.prog 95 r [.list .imm xs, .int .i64 id] sto (fun d k => d = drOfD id os ∧ k = sto) := by
  subst hx
  exact (c_drayref9_driver_0 os hl id).pure rfl (nrBL_Dr rfl) rfl rfl hr
noncomputable def sWe (m : Mp) (ds : List Drv) (os : List Ord) (p : Pln) (i : Nat) : DS := ⟨[(0, .gptr 0 0), (1, encDs ds), (9, .int .i64 (i : Int)), (8, .bool false)], [], [mbox m], mR 1⟩
noncomputable def sWe2 (m : Mp) (ds : List Drv) (os : List Ord) (p : Pln) (i j : Nat) : DS := ⟨[(0, .gptr 0 0), (1, encDs ds), (9, .int .i64 (i : Int)), (10, .int .i64 (j : Int)), (8, .bool false)], [], [mbox m], mR 1⟩
set_option maxHeartbeats 8000000 in
theorem c_drayref9_Well_0 (m : Mp) (hm : okMp m) (ds : List Drv) (os : List Ord) (p : Pln) : Tri Tryz.prog 94 1 [.gptr 0 0, encDs ds, encOs os, encP p] [mbox m] (fun x k => x = .bool (decide (togO m ds os p)) ∧ k = [mbox m]) := by
  refine Tri.walk2 (L := LT) (c := {n := 58, ko := [8]}) [] [0, 1, 2, 3, 8, 9, 10, 28, 32, 41, 44, 57] hLT hmix Tryz.func94 rfl rfl ⟨rfl, rfl⟩ (by show 4 ≤ 58; decide) (by first | exact Nat.zero_le _ | exact Nat.le_refl _ | exact Nat.le_succ 1 | decide) ?_
  repeat (first | refine And.intro (fun _ => ?_) (fun h => Bool.noConfusion h) | refine And.intro (fun h => Bool.noConfusion h) (fun _ => ?_))
  refine And.intro (fun h0 => ?_) (fun h0 => ?_)
  · have h0 : ((ds.map rowDr).length : Int) > 8 := of_decide_eq_true h0
    repeat (first | refine And.intro (fun _ => ?_) (fun h => Bool.noConfusion h) | refine And.intro (fun h => Bool.noConfusion h) (fun _ => ?_))
    rw [List.length_map] at h0
    rw [decide_eq_false (show ¬ togO m ds os p from fun h => by have := h.1; omega)]
    exact And.intro rfl rfl
  have h0 : ¬ ((ds.map rowDr).length : Int) > 8 := of_decide_eq_false h0
  rw [List.length_map] at h0
  repeat (first | refine And.intro (fun _ => ?_) (fun h => Bool.noConfusion h) | refine And.intro (fun h => Bool.noConfusion h) (fun _ => ?_))
  refine ⟨rfl, (by first | exact Nat.zero_le _ | exact Nat.le_refl _ | exact Nat.le_succ 1 | decide), (c_drayref6_Known m hm os (r := 1) (sto := [mbox m]) (Nat.le_refl 1) rfl (Nat.lt_succ_self 0)).mono ?_⟩
  rintro d l ⟨rfl, rfl⟩
  refine ⟨rfl, fun _ _ => rfl, rfl, ?_⟩
  cases h1 : decide (okOs m.n os) with
  | false =>
    repeat (first | refine And.intro (fun _ => ?_) (fun h => Bool.noConfusion h) | refine And.intro (fun h => Bool.noConfusion h) (fun _ => ?_))
    rw [decide_eq_false (show ¬ togO m ds os p from fun h => of_decide_eq_false h1 h.2.1)]
    exact And.intro rfl rfl
  | true =>
  have h1 := of_decide_eq_true h1
  repeat (first | refine And.intro (fun _ => ?_) (fun h => Bool.noConfusion h) | refine And.intro (fun h => Bool.noConfusion h) (fun _ => ?_))
  refine ⟨rfl, (by first | exact Nat.zero_le _ | exact Nat.le_refl _ | exact Nat.le_succ 1 | decide), (c_drayref9_Right p (r := 1) (sto := [mbox m]) (Nat.le_refl 1)).mono ?_⟩
  rintro d l ⟨rfl, rfl⟩
  refine ⟨rfl, fun _ _ => rfl, rfl, ?_⟩
  cases h2 : rightP p with
  | false =>
    repeat (first | refine And.intro (fun _ => ?_) (fun h => Bool.noConfusion h) | refine And.intro (fun h => Bool.noConfusion h) (fun _ => ?_))
    rw [decide_eq_false (show ¬ togO m ds os p from fun h => by rw [h.2.2.1] at h2; cases h2)]
    exact And.intro rfl rfl
  | true =>
  repeat (first | refine And.intro (fun _ => ?_) (fun h => Bool.noConfusion h) | refine And.intro (fun h => Bool.noConfusion h) (fun _ => ?_))
  show Ok _ _ _ _ _
  refine Ok.loopN hLT hmix [] [0, 1, 2, 3, 8, 9, 10, 28, 32, 41, 44, 57] [0,1,9,8] [] (fun n s => ∃ i : Nat, n = ds.length - i ∧ i ≤ ds.length ∧ (∀ o, o ∈ ds.take i → errD m.n o = 0) ∧ (ds.take i).Pairwise (fun a b => a.id ≠ b.id) ∧ s = sWe m ds os p i) (n := ds.length) ⟨0, rfl, Nat.zero_le _, by simp, by simp, rfl⟩ ?_
  rintro n s ⟨i, rfl, hi, hall, hpw, rfl⟩
  refine And.intro (fun h3 => ?_) (fun h3 => ?_)
  rotate_left
  · have h3 : ¬ ((i : Nat) : Int) < ((ds.map rowDr).length : Int) := of_decide_eq_false h3
    rw [List.length_map] at h3
    rw [List.take_of_length_le (by omega)] at hall hpw
    rw [decide_eq_true (show togO m ds os p from ⟨by omega, h1, h2, hall, hpw⟩)]
    exact And.intro rfl rfl
  have h3 : ((i : Nat) : Int) < ((ds.map rowDr).length : Int) := of_decide_eq_true h3
  rw [List.length_map] at h3
  have hil : i < ds.length := by omega
  have hw := wrap_succ (i := i) (n := ds.length) hil (by omega)
  refine ⟨(ds).map rowDr, rowDr ((ds)[i]'(by omega)), rfl, by omega, row_at' rowDr (ds) (by omega) (by omega), rfl, of_decide_eq_true rfl, ?_⟩
  refine ⟨rfl, (by first | exact Nat.zero_le _ | exact Nat.le_refl _ | exact Nat.le_succ 1 | decide), (c_drayref6_Driver m hm ds[i] (r := 1) (sto := [mbox m]) (Nat.le_refl 1) rfl (Nat.lt_succ_self 0)).mono ?_⟩
  rintro d l ⟨rfl, rfl⟩
  refine ⟨rfl, fun _ _ => rfl, rfl, ?_⟩
  refine And.intro (fun h4 => ?_) (fun h4 => ?_)
  · have h4 := nd_true h4
    rw [decide_eq_false (show ¬ togO m ds os p from fun h => h4 (h.2.2.2.1 _ (List.getElem_mem _)))]
    exact And.intro rfl rfl
  have h4 := nd_false h4
  show Ok _ _ _ _ _
  refine Ok.loopN hLT hmix [] [0, 1, 2, 3, 8, 9, 10, 28, 32, 41, 44, 57] [0,1,9,10,8] [] (fun n s => ∃ j : Nat, n = i - j ∧ j ≤ i ∧ (∀ x, x ∈ ds.take j → x.id ≠ ds[i].id) ∧ s = sWe2 m ds os p i j) (n := i) ⟨0, rfl, Nat.zero_le _, by simp, rfl⟩ ?_
  rintro n s ⟨j, rfl, hj, hne, rfl⟩
  refine And.intro (fun h5 => ?_) (fun h5 => ?_)
  · have h5 : ((j : Nat) : Int) < (i : Int) := of_decide_eq_true h5
    have hwj := wrap_succ (i := j) (n := i) (by omega) (by omega)
    refine ⟨⟨2047, [0, 0, 3, 4, 8, 0, 0, 96, 128, 256, 528], [1, 2, 7, 15, 31, 32, 64, 224, 480, 992, 2047]⟩, by kernel_rfl, ?_⟩
    refine ⟨(ds).map rowDr, rowDr ((ds)[j]'(by omega)), rfl, by omega, row_at' rowDr (ds) (by omega) (by omega), rfl, of_decide_eq_true rfl, ?_⟩
    refine And.intro rfl ?_
    refine ⟨(ds).map rowDr, rowDr ((ds)[i]'(by omega)), rfl, by omega, row_at' rowDr (ds) (by omega) (by omega), rfl, of_decide_eq_true rfl, ?_⟩
    refine And.intro rfl ?_
    refine And.intro (fun h6 => ?_) (fun h6 => ?_)
    · have h6 := of_decide_eq_true h6
      rw [decide_eq_false (show ¬ togO m ds os p from fun h => pwD_no hil (show j < i by omega) h6 h.2.2.2.2)]
      exact And.intro rfl rfl
    have h6 := of_decide_eq_false h6
    refine ⟨i - (j + 1), by omega, j + 1, rfl, by omega, fun x hx => ?_, ?_⟩
    · rw [List.take_succ_eq_append_getElem (by omega)] at hx
      rcases List.mem_append.1 hx with hx | hx
      · exact hne x hx
      · rw [List.mem_singleton.1 hx]
        exact h6
    · unfold sWe2
      rw [← hwj]
      rfl
  have h5 : ¬ ((j : Nat) : Int) < (i : Int) := of_decide_eq_false h5
  have hji : j = i := by omega
  subst hji
  refine ⟨ds.length - (j + 1), by omega, j + 1, rfl, by omega, fun x hx => ?_, pwD_snoc hil hpw hne, ?_⟩
  · rw [List.take_succ_eq_append_getElem hil] at hx
    rcases List.mem_append.1 hx with hx | hx
    · exact hall x hx
    · rw [List.mem_singleton.1 hx]
      exact h4
  · unfold sWe
    rw [← hw]
    rfl
theorem c_drayref9_Well (m : Mp) (hm : okMp m) (ds : List Drv) (os : List Ord) (p : Pln) {r b : Nat} {sto : List Ob} (hr : r ≤ sto.length) (hb : sto[b]? = some (mbox m)) (hbr : b < r) : Tri Tryz.prog 94 r [.gptr b 0, encDs ds, encOs os, encP p] sto (fun x k => x = .bool (decide (togO m ds os p)) ∧ k = sto) :=
  (c_drayref9_Well_0 m hm ds os p).boxRO (nr_mcs m) rfl (nrBL_Dr (nrBL_O (nrBL_P rfl))) (fun d h => by subst h; exact ⟨rfl, rfl⟩) hr hb hbr
end Go.Lv

namespace Go.Lv
open Go.Proofs

theorem rightG_st : ∀ {p : Pln} {last : Int} {seen : List Stp}, rightG last seen p = true → ∀ r, r ∈ p → r.st.length ≤ 80 ∧ 0 ≤ r.srv ∧ r.srv ≤ r.st.length
  | [], _, _, _, r, hr => by cases hr
  | x :: p, last, seen, h, r, hr => by
    unfold rightG at h
    rw [Bool.and_eq_true, Bool.and_eq_true, decide_eq_true_eq] at h
    rcases List.mem_cons.1 hr with e | hr
    · subst e
      exact ⟨h.1.2.2.1, h.1.2.2.2.1, h.1.2.2.2.2⟩
    · exact rightG_st h.2.2 r hr
theorem rightP_st {p : Pln} (h : rightP p = true) : p.length ≤ 8 ∧ ∀ r, r ∈ p → r.st.length ≤ 80 ∧ 0 ≤ r.srv ∧ r.srv ≤ r.st.length := by
  unfold rightP at h
  rw [Bool.and_eq_true, decide_eq_true_eq] at h
  exact ⟨h.1, rightG_st h.2⟩
theorem drOf_some {id : Int} {ds : List Drv} {d : Drv} (h : findDr id ds = some d) : drOf id ds = d ∧ (findDr id ds).isSome = true := by
  unfold drOf
  rw [h]
  exact ⟨rfl, rfl⟩
theorem drOf_none {id : Int} {ds : List Drv} (h : findDr id ds = none) : drOf id ds = zeroDr ∧ (findDr id ds).isSome = false := by
  unfold drOf
  rw [h]
  exact ⟨rfl, rfl⟩
end Go.Lv

namespace Go.Lv
open Go.Proofs

end Go.Lv

namespace Go.Lv
open Go.Proofs

end Go.Lv

namespace Go.Lv
open Go.Proofs

set_option maxHeartbeats 4000000 in
theorem c_cert_Together_nil_0 (ds : List Drv) (os : List Ord) (p : Pln) : Tri Tryz.prog 70 0 [.nil, encDs ds, encOs os, encP p] [] (fun x k => x = .bool false ∧ k = []) := by
  refine Tri.walk2 (L := LT) (c := {n := 55, ko := [8]}) [] [0, 1, 2, 3, 8, 9, 10, 12, 30, 31, 32, 33, 34, 53] hLT hmix Tryz.func70 rfl rfl ⟨rfl, rfl⟩ (by show 4 ≤ 55; decide) (by first | exact Nat.zero_le _ | exact Nat.le_refl _ | exact Nat.le_succ 1 | decide) ?_
  repeat (first | refine And.intro (fun _ => ?_) (fun h => Bool.noConfusion h) | refine And.intro (fun h => Bool.noConfusion h) (fun _ => ?_))
  exact And.intro rfl rfl
set_option maxHeartbeats 4000000 in
theorem c_drayref9_Well_nil_0 (ds : List Drv) (os : List Ord) (p : Pln) : Tri Tryz.prog 94 0 [.nil, encDs ds, encOs os, encP p] [] (fun x k => x = .bool false ∧ k = []) := by
  refine Tri.walk2 (L := LT) (c := {n := 58, ko := [8]}) [] [0, 1, 2, 3, 8, 9, 10, 28, 32, 41, 44, 57] hLT hmix Tryz.func94 rfl rfl ⟨rfl, rfl⟩ (by show 4 ≤ 58; decide) (by first | exact Nat.zero_le _ | exact Nat.le_refl _ | exact Nat.le_succ 1 | decide) ?_
  repeat (first | refine And.intro (fun _ => ?_) (fun h => Bool.noConfusion h) | refine And.intro (fun h => Bool.noConfusion h) (fun _ => ?_))
  exact And.intro rfl rfl
end Go.Lv
