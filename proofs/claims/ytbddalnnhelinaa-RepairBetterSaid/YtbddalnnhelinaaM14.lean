/-
  Part 14 of the texts under the proof: an abstract run of loaded code on data, and what the functions do. No condition.
-/
import Derived.Test.YtbddalnnhelinaaM13
import Derived.Maps.RangeRun
set_option linter.all false
set_option maxRecDepth 100000
namespace Go.Lv
open Go

section
variable {P : Program} {T : St} {X : Ctx} {G G1 : Gh} {s s1 : DS} {a a1 : Act} {w w1 w' : World} {m : Mt}

noncomputable def rangeS (t : Nat) (s : DS) : DS := putS t (.lptr t (s.m.al t + 1) 0) { s with m := s.m.bA t }
noncomputable def Gh.nla (G : Gh) (t b : Nat) : Gh := { G with la := gset G.la t b }
theorem Rel.range (h : Rel X G s a w) {o : Obj} (N : New w w' o) {t : Nat} (ht : t < X.n) (hkp : t ∉ X.kp) (hl : lk t s.loc = none) :
    Rel X (G.nla t w.heap.size) (rangeS t s) (a.put (some t) (.pointer (some ⟨w.heap.size, 0, none⟩))) w' := by
  have K : Keeps w G s.m w' (G.nla t w.heap.size) (s.m.bA t) (fun _ => True) := by
    refine h.newKeeps N (fun _ _ h => h) (fun _ _ h => h) rfl (fun r => ?_) (fun u => ?_) (Nat.le_refl _) (fun _ _ => rfl) (fun _ _ => rfl) (fun _ _ _ => rfl) (fun _ _ => rfl) (fun u hu => ?_)
    · cases r <;> first | exact Nat.le_refl _ | exact up_le _ _ _
    · exact up_le _ _ _
    · refine gset_ne _ _ ?_
      rintro rfl
      simp [Mt.bA] at hu
  have r1 : Rel X (G.nla t w.heap.size) { s with m := s.m.bA t } a w' := by
    refine h.newBlock N K (fun _ _ => rfl) (fun e he => (h.new _ (Nat.le_refl _)).2 e he) (fun b hb => (h.new b (by omega)).1) (fun _ _ h => h) h.size h.defers (fun u e hu => K.vt (fun i q j c _ _ _ => trivial) (h.env u e hu)) (fun u cs hu => ?_) (fun k ob hk => ?_) h.be (Nat.le_refl _) rfl (fun _ _ => rfl) (fun u hu => gset_ne _ _ (by rintro rfl; exact hkp hu))
    · have hne : u ≠ t := by
        rintro rfl
        rw [show lk u s.loc = some cs from hu] at hl
        cases hl
      obtain ⟨h1, h2⟩ := h.loc u cs hu
      have hb := h.ownLt h1
      have hla : (G.nla t w.heap.size).la u = G.la u := gset_ne _ _ hne
      rw [hla]
      exact ⟨h1, K.box (fun j c _ _ => trivial) (fun j => ⟨N.cell hb j, N.frozen hb j⟩) h2⟩
    · obtain ⟨b, h1, h2, h3, h4⟩ := h.sto k ob hk
      refine ⟨b, h1, h2, by rw [N.size]; omega, ?_⟩
      cases ob with
      | map es =>
        obtain ⟨arr, clock, q1, q2⟩ := h4
        exact ⟨arr, clock, by rw [N.old h3]; exact q1, q2⟩
      | box cs =>
        simp only [ObV] at h4 ⊢
        split <;> rename_i hr
        · rw [if_pos hr] at h4
          intro j d hd
          obtain ⟨u, h5, h6⟩ := h4 j d hd
          exact ⟨u, (N.cell h3 j).trans h5, K.imm h6⟩
        · rw [if_neg hr] at h4
          exact K.box (fun j c _ _ => trivial) (fun j => ⟨N.cell h3 j, N.frozen h3 j⟩) h4
  have hv : VT w' (G.nla t w.heap.size) (putS t (.lptr t (s.m.al t + 1) 0) { s with m := s.m.bA t }).m (.slot t) (.lptr t (s.m.al t + 1) 0) (.pointer (some ⟨w.heap.size, 0, none⟩)) := by
    have e : (putS t (.lptr t (s.m.al t + 1) 0) { s with m := s.m.bA t }).m.al t = s.m.al t + 1 := by
      simp only [putS]
      split <;> simp [Mt.bA, Mt.bS]
    refine ⟨⟨w.heap.size, 0, none⟩, rfl, by rw [e]; exact Nat.le_refl _, fun _ => ?_⟩
    simp only [Gh.nla]
    rw [gset_same]
  exact r1.put ht hv
end

end Go.Lv

namespace Go.Lv
open Go

section
variable {P : Program} {T : St} {X : Ctx} {G G1 : Gh} {s s1 : DS} {a a1 : Act} {w w1 w' : World} {m : Mt} {t k : Nat} {es left : List (D × D)} {last : Option MapEntry}

end

end Go.Lv

namespace Go.Lv
open Go

section
variable {P : Program} {T : St} {X : Ctx} {G G1 : Gh} {s s1 : DS} {a a1 : Act} {w w1 w' : World} {m : Mt} {t k : Nat} {es left : List (D × D)} {last : Option MapEntry}

noncomputable def nmB (lv bs : List Nat) (s : DS) : DS := resetS { s with env := keep lv s.env, loc := keep bs s.loc }
theorem Rel.nmB (h : Rel X G s a w) (lv bs : List Nat) : Rel X G (Lv.nmB lv bs s) a w :=
  (h.less (keep lv s.env) (keep bs s.loc) (fun t d ht => lk_keep lv t _ d ht) (fun t d ht => lk_keep bs t _ d ht)).reset
end

end Go.Lv

namespace Go.Lv

mutual
theorem renD_id (ρ : Nat → Nat) : ∀ {d : D}, nrB 0 d = true → renD ρ d = d
  | .gptr j o, h => by simp [nrB] at h
  | .map j, h => by simp [nrB] at h
  | .fn f ds, h => by simp only [nrB] at h; simp only [renD, renL_id ρ h]
  | .list q xs, h => by simp only [nrB] at h; simp only [renD, renLL_id ρ h]
  | .agg cs, h => by simp only [nrB] at h; simp only [renD, renL_id ρ h]
  | .tup cs, h => by simp only [nrB] at h; simp only [renD, renL_id ρ h]
  | .int _ _, _ => rfl
  | .bool _, _ => rfl
  | .str _, _ => rfl
  | .nil, _ => rfl
  | .nilmap, _ => rfl
  | .nilfn, _ => rfl
  | .dead, _ => rfl
  | .lptr _ _ _, _ => rfl
  | .eptr _ _ _ _ _, _ => rfl
  | .stamp _ _ _, _ => rfl
theorem renL_id (ρ : Nat → Nat) : ∀ {l : List D}, nrBL 0 l = true → renL ρ l = l
  | [], _ => rfl
  | d :: r, h => by
    simp only [nrBL, Bool.and_eq_true] at h
    simp only [renL, renD_id ρ h.1, renL_id ρ h.2]
theorem renLL_id (ρ : Nat → Nat) : ∀ {l : List (List D)}, nrBLL 0 l = true → renLL ρ l = l
  | [], _ => rfl
  | d :: r, h => by
    simp only [nrBLL, Bool.and_eq_true] at h
    simp only [renLL, renL_id ρ h.1, renLL_id ρ h.2]
end

theorem Tri.pureR {P : Program} {f : Nat} {args : List D} {R : D → Prop} (h : Tri P f 0 args [] (fun d' l => R d' ∧ l = [])) (ha : args.all cellsOK = true) (hn : nrBL 0 args = true) (hd : ∀ d, R d → partsOK d = true ∧ nrB 0 d = true) {r : Nat} {sto : List Ob} (hr : r ≤ sto.length) :
    Tri P f r args sto (fun d' l => R d' ∧ l = sto) := by
  have := Tri.ren (r := r) (sto := sto) (fun k => k) h (fun i j hi => by cases hi) (fun i o hi => by simp at hi) (fun i hi => by cases hi) hr ha (fun x hx => nrBL_nr hn x hx) (fun o ho => by cases ho) rfl (fun d' l ⟨h1, h2⟩ => by subst h2; exact ⟨(hd _ h1).1, rfl⟩)
  rw [renL_id _ hn] at this
  refine this.mono fun d' l ⟨d1, l1, ⟨h1, h2⟩, h3, h4⟩ => ?_
  subst h2
  refine ⟨by rw [h3, renD_id _ (hd _ h1).2]; exact h1, by rw [h4]; simp [backSto]⟩
theorem Tri.pure {P : Program} {f : Nat} {args : List D} {d : D} (h : Tri P f 0 args [] (fun d' l => d' = d ∧ l = [])) (ha : args.all cellsOK = true) (hn : nrBL 0 args = true) (hd : partsOK d = true) (hdn : nrB 0 d = true) {r : Nat} {sto : List Ob} (hr : r ≤ sto.length) :
    Tri P f r args sto (fun d' l => d' = d ∧ l = sto) := by
  have := Tri.ren (r := r) (sto := sto) (fun k => k) h (fun i j hi => by cases hi) (fun i o hi => by simp at hi) (fun i hi => by cases hi) hr ha (fun x hx => nrBL_nr hn x hx) (fun o ho => by cases ho) rfl (fun d' l ⟨h1, h2⟩ => by subst h1; subst h2; exact ⟨hd, rfl⟩)
  rw [renL_id _ hn] at this
  refine this.mono fun d' l ⟨d1, l1, ⟨h1, h2⟩, h3, h4⟩ => ?_
  subst h1; subst h2
  refine ⟨by rw [h3, renD_id _ hdn], by rw [h4]; simp [backSto]⟩
end Go.Lv

namespace Go.Lv
open Go

end Go.Lv

namespace Go.Lv
open Go

section
variable {P : Program} {T : St} {X : Ctx} {G : Gh} {s : DS} {a : Act} {w : World} {M : Ms} {Q : Ex → DS → Prop}
theorem Ok.nmB {c : Code} (lv bs : List Nat) (h : Ok P T c (Lv.nmB lv bs s) Q) : Ok P T c s Q := fun X G a w hX hR => h X G a w hX (hR.nmB lv bs)
theorem Ok.loopN (H : LyOK P T.L) (hm : P.follows .mixedOrders = true) (M : Ms) (lv lv0 bs : List Nat) {c : Code} (I : Nat → DS → Prop) {n : Nat} (h0 : I n (Lv.nmB lv0 bs s))
    (hr : ∀ n s, I n s → wC P T M lv c s (Ex.then (fun s' => ∃ k, k < n ∧ I k (Lv.nmB lv0 bs s')) Q)) : Ok P T (.loop c) s Q :=
  Ok.loop (fun n s => I n (Lv.nmB lv0 bs s)) h0 fun n s h => Ok.nmB lv0 bs (wC_ok H hm (hr n _ h))
theorem wrap64 {z : Int} (h1 : -9223372036854775808 ≤ z) (h2 : z ≤ 9223372036854775807) : IntKind.i64.wrap z = z := by
  rw [IntKind.wrap_i64]; omega
end
end Go.Lv

namespace Go.Lv

theorem mapEntry_new {T : St} {s : DS} {o : Oper} {K : DS → Prop} {t n kt e : Nat} {m k : Operand} {key z : D} {es : List (D × D)} (ho : o.op = .mapEntry t m k) (hm : lookO s m = some (.map n)) (hk : lookO s k = some key) (ht : T.L.tk t = .map kt e)
    (hc : (decide (T.ro ≤ n) && keyT T.L kt key) = true) (hs : s.sto[n]? = some (.map es)) (hz : zeroD T.L e = some z) (hf : findE T.L kt key es = some none) (hkc : keyC z = true)
    (h : Lv.sm (put T.c o.dst (.tup [z, .stamp s.m.era n es.length]) { s with sto := s.sto.set n (.map (es ++ [(key, z)])) }) fun s => fW s K) : anyW T s o K := by
  have hop : opD T.L T.c T.ro s o = put T.c o.dst (.tup [z, .stamp s.m.era n es.length]) { s with sto := s.sto.set n (.map (es ++ [(key, z)])) } := by
    simp only [opD, ho, hm, hk, mapEntryD, ht]
    rw [if_pos hc, hs, hz]
    simp only [hf]
    rw [if_pos hkc]
  unfold anyW
  rw [hop]
  exact sm_iff.1 h
theorem entryStore_any {T : St} {s : DS} {o : Oper} {K : DS → Prop} {t n e i : Nat} {m st x : Operand} {v : D} {y : D × D} {es : List (D × D)} (ho : o.op = .entryStore t m st x) (hm : lookO s m = some (.map n)) (hst : lookO s st = some (.stamp e n i)) (hx : lookO s x = some v)
    (hc : (decide (T.ro ≤ n) && n == n && e == s.m.era && keyC v) = true) (hs : s.sto[n]? = some (.map es)) (hi : es[i]? = some y)
    (h : Lv.sm (voidS T.c o.dst { s with sto := s.sto.set n (.map (es.set i (y.1, v))) }) fun s => fW s K) : anyW T s o K := by
  have hop : opD T.L T.c T.ro s o = voidS T.c o.dst { s with sto := s.sto.set n (.map (es.set i (y.1, v))) } := by
    simp only [opD, ho, hm, hst, hx, entryStoreD]
    rw [if_pos hc, hs]
    simp only [hi]
  unfold anyW
  rw [hop]
  exact sm_iff.1 h
end Go.Lv

namespace Go.Lv
open Go

noncomputable def isLp : D → Bool
  | .lptr _ _ _ => true
  | _ => false
noncomputable def cutS (k : Nat) (s : DS) : DS := { s with sto := s.sto.take k }
structure CutOK (T : St) (k : Nat) (s : DS) : Prop where
  n0 : T.n0 ≤ k
  ro : T.ro ≤ k
  len : k ≤ s.sto.length
  env : ∀ x, x ∈ s.env → isLp x.2 = true ∨ NR k x.2
  loc : ∀ x, x ∈ s.loc → ∀ d, d ∈ x.2 → NR k d
  sto : ∀ o, o ∈ s.sto.take k → NRo k o
theorem lk_mem {α : Type} {t : Nat} : ∀ {l : List (Nat × α)} {a : α}, lk t l = some a → ∃ x, x ∈ l ∧ x.2 = a
  | [], a, h => by simp [lk_nil] at h
  | x :: r, a, h => by
    rw [show lk t (x :: r) = (Bool.rec (motive := fun _ => Option α) (lk t r) (some x.2) (Nat.beq x.1 t)) from rfl] at h
    cases hb : Nat.beq x.1 t with
    | true =>
      rw [hb] at h
      exact ⟨x, by simp, Option.some.inj h⟩
    | false =>
      rw [hb] at h
      obtain ⟨y, hy, e⟩ := lk_mem (show lk t r = some a from h)
      exact ⟨y, by simp [hy], e⟩
section
variable {P : Program} {T : St} {X : Ctx} {G : Gh} {s : DS} {a : Act} {w : World} {M : Ms} {Q : Ex → DS → Prop}
theorem Rel.cutE (h : Rel X G s a w) {k : Nat} (h0 : X.n0 ≤ k) (hr : X.ro ≤ k) (hk : k ≤ s.sto.length) (he : ∀ x, x ∈ s.env → isLp x.2 = true ∨ NR k x.2) (hl : ∀ x, x ∈ s.loc → ∀ d, d ∈ x.2 → NR k d) (hn : ∀ o, o ∈ s.sto.take k → NRo k o) : Rel X (G.cut k) (cutS k s) a w := by
  have h2 := h.cut h0 hr hk hn
  exact {
    size := h.size
    defers := h.defers
    env := fun t d ht => by
      obtain ⟨x, hx, e⟩ := lk_mem (show lk t s.env = some d from ht)
      have hv := h.env t d ht
      rcases he x hx with hp | hp
      · rw [e] at hp
        cases d with
        | lptr _ _ _ => exact hv
        | _ => cases hp
      · rw [e] at hp
        exact hv.cut hp
    loc := fun t cs ht => by
      obtain ⟨x, hx, e⟩ := lk_mem (show lk t s.loc = some cs from ht)
      obtain ⟨q1, q2⟩ := h.loc t cs ht
      refine ⟨q1, fun i d hd => ?_⟩
      obtain ⟨u, h5, h6, h7⟩ := q2 i d hd
      exact ⟨u, h5, h6, h7.cut (hl x hx d (by rw [e]; exact List.mem_of_getElem? hd))⟩
    sto := h2.sto
    be := h2.be
    new := h.new
    stow := h.stow
    std := h.std
    old := h.old
    os := h.os
    tape := h.tape
    output := h.output
    grow := h.grow
    ro := h2.ro
    rom := h.rom
    be0 := h2.be0
    n0 := h2.n0
    la0 := h.la0 }
theorem Ok.cutS {c : Code} {k : Nat} (hc : CutOK T k s) (h : Ok P T c (Lv.cutS k s) Q) : Ok P T c s Q := fun X G a w hX hR => h X (G.cut k) a w hX (hR.cutE (by rw [hX.n0]; exact hc.n0) (by rw [hX.ro]; exact hc.ro) hc.len hc.env hc.loc hc.sto)
theorem Ok.loopC (H : LyOK P T.L) (hm : P.follows .mixedOrders = true) (M : Ms) (lv lv0 bs : List Nat) (k0 : Nat) {c : Code} (I : Nat → DS → Prop) {n : Nat} (h0 : CutOK T k0 (Lv.nmB lv0 bs s) ∧ I n (Lv.cutS k0 (Lv.nmB lv0 bs s)))
    (hr : ∀ n s, I n s → wC P T M lv c s (Ex.then (fun s' => ∃ k, k < n ∧ CutOK T k0 (Lv.nmB lv0 bs s') ∧ I k (Lv.cutS k0 (Lv.nmB lv0 bs s'))) Q)) : Ok P T (.loop c) s Q :=
  Ok.loop (fun n s => CutOK T k0 (Lv.nmB lv0 bs s) ∧ I n (Lv.cutS k0 (Lv.nmB lv0 bs s))) h0 fun n s h => Ok.nmB lv0 bs (Ok.cutS h.1 (wC_ok H hm (hr n _ h.2)))
end
end Go.Lv

namespace Go.Lv
open Go

theorem OpOk.sortF {P : Program} {T : St} {s : DS} {o : Oper} {K : DS → Prop} {f g k κ : Nat} (hC : SortC P f g k κ) {x y z : Operand} {args : Array Operand} {tys : Array TypeId} {e v : Nat} {p : Place} {xs : List (List D)}
    (ho : o.op = .call { callee := .value x, args := args, argTypes := tys }) (hargs : args.toList = [y, z]) (hx : lookO s x = some (.fn f [])) (hz : lookO s z = some (.fn g [])) (hy : lookO s y = some (.list (.cp e (some (p, v))) xs))
    (h0 : xs = [] → Lv.sm (put T.c o.dst (.tup []) s) K)
    (h1 : xs ≠ [] → (s.m.rv p.r = v ∧ okR T.ro p.r = true) ∧ ∃ ys, getPl s p = some (.list (.own k) ys) ∧ (ys.length = xs.length ∧ ys.length < 4611686018427387904) ∧ (ys.all (keyedD κ k) && distinct (ys.map (keyD κ))) = true ∧
      Lv.sm (put T.c o.dst (.tup []) { setPl s p (.list (.own k) (sortB (keyD κ) ys)) with m := (setPl s p (.list (.own k) (sortB (keyD κ) ys))).m.bE }) K) : OpOk P T o s K := by
  have hg : lk g [(g, k, κ)] = some (k, κ) := by
    show (Bool.rec (motive := fun _ => Option (Nat × Nat)) none (some (k, κ)) (Nat.beq g g)) = _
    rw [Nat.beq_refl]
  have hCs : ∀ g' k' κ', lk g' [(g, k, κ)] = some (k', κ') → SortC P f g' k' κ' := fun g' k' κ' h => by
    replace h : (Bool.rec (motive := fun _ => Option (Nat × Nat)) none (some (k, κ)) (Nat.beq g g')) = some (k', κ') := h
    cases hb : Nat.beq g g' with
    | false => rw [hb] at h; cases h
    | true =>
      rw [hb] at h
      cases h
      rw [← Nat.eq_of_beq_eq_true hb]
      exact hC
  cases xs with
  | nil =>
    obtain ⟨s2, h2, hk⟩ := sm_inv (h0 rfl)
    refine OpOk.mono (sortHk_ok (s' := s2) hCs ho hx ?_).1 fun s1 e => by subst e; exact hk
    unfold sortHk
    rw [ho]
    simp only [hx, hargs, hz, hg, hy, h2]
  | cons r rs =>
    obtain ⟨hv, ys, hpl, hlen, hkey, h1⟩ := h1 (by simp)
    obtain ⟨s2, h2, hk⟩ := sm_inv h1
    refine OpOk.mono (sortHk_ok (s' := s2) hCs ho hx ?_).1 fun s1 e => by subst e; exact hk
    unfold sortHk
    rw [ho]
    simp only [hx, hargs, hz, hg, hy, sortGo]
    rw [if_pos hv, hpl]
    simp only
    rw [if_pos ⟨⟨hlen.1, hlen.2, trivial⟩, hkey⟩, h2]
end Go.Lv
