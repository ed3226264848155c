/-
  A30: rules for walking; what a function leaves behind unseen is forgotten.
-/
import Derived.Test.YtpfoccpolaggiaaA29
set_option linter.all false
namespace Go.Lv

noncomputable def keepS (ts bs : List Nat) (s : DS) : DS := { s with env := keep ts s.env, loc := keep bs s.loc }

section
variable {P : Program} {T : St} {L : Ly} {X : Ctx} {G G' : Gh} {s s' s1 : DS} {a a' : Act} {w w' : World} {Q Q' : Ex → DS → Prop} {K K' : DS → Prop} {o : Oper} {ops : Array Oper} {y : Code}

theorem Ok.keepS (ts bs : List Nat) {c : Code} (h : Ok P T c (Lv.keepS ts bs s) Q) : Ok P T c s Q := Ok.keep ts bs h
/-- A region in the text's order; behind it only these slots and boxes are spoken of. -/
theorem Ok.regionK (H : LyOK P T.L) (ts bs : List Nat) {id : Nat} (hs : runD T ops (List.range ops.size) s = some s1) (h : Ok P T y (Lv.keepS ts bs s1) Q) : Ok P T (.seq (.region id ops false) y) s Q :=
  Ok.seq (Ok.regionD H hs (Ok.keepS ts bs h))
/-- Likewise, where several ways lead to the same. -/
theorem Ok.regionM (ts bs : List Nat) {post : DS} {id : Nat} (hs : OpsOk P T ops (List.range ops.size) s fun s' => Lv.keepS ts bs s' = post) (h : Ok P T y post Q) : Ok P T (.seq (.region id ops false) y) s Q :=
  Ok.seq (Ok.region (hs.mono fun s' e => Ok.keepS ts bs (by rw [e]; exact h)))
theorem Ok.drawM {fu : Nat} (H : LyOK P T.L) (hm : P.follows .mixedOrders = true) (ts bs : List Nat) {post : DS} {id : Nat} (hwf : wfK ops = true) (hs : Sch P T ops fu [] [] s fun s' => Lv.keepS ts bs s' = post) (h : Ok P T y post Q) : Ok P T (.seq (.region id ops true) y) s Q := by
  refine Ok.seq ((Ok.draw (Q := fun x s' => match x with | .nx => Lv.keepS ts bs s' = post | _ => False) H hm hwf hs).mono fun x s' e => ?_)
  cases x with
  | nx => exact Ok.keepS ts bs (by rw [e]; exact h)
  | out id => exact e.elim
  | ret => exact e.elim

/-! ### What is forgotten -/
/-- No pointer of it leads to k or beyond. -/
inductive NR (k : Nat) : D → Prop where
  | int (i : IntKind) (n : Int) : NR k (.int i n)
  | bool (b : Bool) : NR k (.bool b)
  | str (s : ByteArray) : NR k (.str s)
  | nil : NR k .nil
  | nilmap : NR k .nilmap
  | nilfn : NR k .nilfn
  | gptr (j off : Nat) : j < k → NR k (.gptr j off)
  | map (j : Nat) : j < k → NR k (.map j)
  | fn (f : Nat) (ds : List D) : (∀ d, d ∈ ds → NR k d) → NR k (.fn f ds)
  | list (q : Kind) (xs : List (List D)) : (∀ r, r ∈ xs → ∀ d, d ∈ r → NR k d) → NR k (.list q xs)
  | agg (cs : List D) : (∀ d, d ∈ cs → NR k d) → NR k (.agg cs)
  | tup (cs : List D) : (∀ d, d ∈ cs → NR k d) → NR k (.tup cs)
  | dead : NR k .dead

noncomputable def NRo (k : Nat) : Ob → Prop
  | .box cs => ∀ d, d ∈ cs → NR k d
  | .map _ => True

theorem NR.fz {k : Nat} {d : D} (h : NR k d) : NR k (fz d) := by
  cases h with
  | list q xs h => cases q <;> exact .list _ _ h
  | int => exact .int _ _
  | bool => exact .bool _
  | str => exact .str _
  | nil => exact .nil
  | nilmap => exact .nilmap
  | nilfn => exact .nilfn
  | gptr j off h => exact .gptr _ _ h
  | map j h => exact .map _ h
  | fn f ds h => exact .fn _ _ h
  | agg cs h => exact .agg _ h
  | tup cs h => exact .tup _ h
  | dead => exact .dead

noncomputable def cut (k : Nat) (be : Nat → Option Nat) : Nat → Option Nat := fun j => if j < k then be j else none
noncomputable def Gh.cut (G : Gh) (k : Nat) : Gh := { G with be := Lv.cut k G.be }

theorem Imm.cut {k : Nat} {be : Nat → Option Nat} {st : Nat → Nat → Prop} {d : D} {v : Value} (h : Imm w be st d v) (hn : NR k d) : Imm w (Lv.cut k be) st d v := by
  induction h with
  | int => exact .int _ _
  | bool => exact .bool _
  | str => exact .str _
  | nil => exact .nil
  | gptr j off b hb =>
    cases hn with | gptr _ _ hj => exact .gptr _ _ _ (by unfold Lv.cut; rw [if_pos hj]; exact hb)
  | nilmap => exact .nilmap
  | map j b hb =>
    cases hn with | map _ hj => exact .map _ _ (by unfold Lv.cut; rw [if_pos hj]; exact hb)
  | nilfn => exact .nilfn
  | fn f ds vs hl _ ih =>
    cases hn with | fn _ _ hd => exact .fn _ _ _ hl fun i d v h1 h2 => ih i d v h1 h2 (hd d (List.mem_of_getElem? h1))
  | nils => exact .nils _ _
  | list xs b off cap sz vals h1 h2 h3 h4 h5 h6 _ ih =>
    cases hn with | list _ _ hd => exact .list xs b off cap sz vals h1 h2 h3 h4 h5 h6 fun j c r d hr hd' => ih j c r d hr hd' (hd r (List.mem_of_getElem? hr) d (List.mem_of_getElem? hd'))

theorem RowsAt.cut {k : Nat} {be : Nat → Option Nat} {st : Nat → Nat → Prop} {b off sz : Nat} {xs : List (List D)} (h : RowsAt w be st b off sz xs) (hn : ∀ r, r ∈ xs → ∀ d, d ∈ r → NR k d) : RowsAt w (Lv.cut k be) st b off sz xs := by
  refine ⟨h.1, fun j c r d hr hd => ?_⟩
  obtain ⟨v, hv, hi⟩ := h.2 j c r d hr hd
  exact ⟨v, hv, hi.cut (hn r (List.mem_of_getElem? hr) d (List.mem_of_getElem? hd))⟩

theorem VC.cut {k : Nat} {m : Mt} {p : Place} {d : D} {v : Value} (h : VC w G m p d v) (hn : NR k d) : VC w (G.cut k) m p d v := by
  cases hn with
  | list q xs hd =>
    cases q with
    | own sz =>
      rcases h with h | ⟨hz, b, off, cap, rfl, hc, ho, hf, hpl, hcell, hrows⟩
      · exact .inl h
      · exact .inr ⟨hz, b, off, cap, rfl, hc, ho, hf, hpl, hcell, hrows.cut hd⟩
    | cp e q =>
      obtain ⟨A, cap, rfl, he, h1, h2⟩ := h
      refine ⟨A, cap, rfl, he, fun hee => ?_, h2⟩
      rcases h1 hee with h1 | ⟨b, off, sz, h3, h4, h5, h6, h7⟩
      · exact .inl h1
      · exact .inr ⟨b, off, sz, h3, h4, h5, h6, h7.cut hd⟩
    | imm => exact Imm.cut (d := .list .imm xs) h (.list _ _ hd)
  | agg => exact h.elim
  | tup => exact h.elim
  | dead => exact h
  | int => exact Imm.cut h (.int _ _)
  | bool => exact Imm.cut h (.bool _)
  | str => exact Imm.cut h (.str _)
  | nil => exact Imm.cut h .nil
  | nilmap => exact Imm.cut h .nilmap
  | nilfn => exact Imm.cut h .nilfn
  | gptr j off hj => exact Imm.cut h (.gptr _ _ hj)
  | map j hj => exact Imm.cut h (.map _ hj)
  | fn f ds hd => exact Imm.cut h (.fn _ _ hd)

theorem VP.cut {k : Nat} {m : Mt} {r : Root} {i : Nat} {d : D} {v : Value} (h : VP w G m r i d v) (hn : NR k d) : VP w (G.cut k) m r i d v := by
  cases d with
  | agg cs =>
    obtain ⟨vs, rfl, hl, h1⟩ := h
    cases hn with | agg _ hd => exact ⟨vs, rfl, hl, fun j d u h2 h3 => (h1 j d u h2 h3).cut (hd d (List.mem_of_getElem? h2))⟩
  | tup ds => exact h.elim
  | _ =>
    rw [VP_cell (by intro cs e; cases e)] at h ⊢
    exact h.cut hn
theorem VT.cut {k : Nat} {m : Mt} {r : Root} {d : D} {v : Value} (h : VT w G m r d v) (hn : NR k d) : VT w (G.cut k) m r d v := by
  cases d with
  | tup cs =>
    obtain ⟨vs, rfl, hl, h1⟩ := h
    cases hn with | tup _ hd => exact ⟨vs, rfl, hl, fun j d u h2 h3 => (h1 j d u h2 h3).cut (hd d (List.mem_of_getElem? h2))⟩
  | _ =>
    rw [VT_part (by intro cs e; cases e)] at h ⊢
    exact h.cut hn

theorem Rel.cut (h : Rel X G s a w) {k : Nat} (h0 : X.n0 ≤ k) (hr : X.ro ≤ k) (hk : k ≤ s.sto.length) (hn : ∀ o, o ∈ s.sto.take k → NRo k o) : Rel X (G.cut k) { s with env := [], loc := [], sto := s.sto.take k } a w where
  size := h.size
  defers := h.defers
  env := fun t d ht => by simp [lk_nil] at ht
  loc := fun t d ht => by simp [lk_nil] at ht
  sto := fun j o hj => by
    have hj' : (s.sto.take k)[j]? = some o := hj
    have hmem := List.mem_of_getElem? hj'
    rw [List.getElem?_take, Option.ite_none_right_eq_some] at hj'
    obtain ⟨hjk, hj'⟩ := hj'
    obtain ⟨b, h1, h2, h3, h4⟩ := h.sto j o hj'
    refine ⟨b, by show Lv.cut k G.be j = _; unfold Lv.cut; rw [if_pos hjk]; exact h1, h2, h3, ?_⟩
    have hno := hn o hmem
    cases o with
    | map es => exact h4
    | box cs =>
      simp only [ObV] at h4 ⊢
      split <;> rename_i hq
      · rw [if_pos hq] at h4
        intro i d hd
        obtain ⟨u, h5, h6⟩ := h4 i d hd
        exact ⟨u, h5, h6.cut (hno d (List.mem_of_getElem? hd)).fz⟩
      · rw [if_neg hq] at h4
        intro i d hd
        obtain ⟨u, h5, h6, h7⟩ := h4 i d hd
        exact ⟨u, h5, h6, h7.cut (hno d (List.mem_of_getElem? hd))⟩
  be := fun j hj => by
    have hj' : (s.sto.take k).length ≤ j := hj
    rw [List.length_take, Nat.min_eq_left hk] at hj'
    show Lv.cut k G.be j = none
    unfold Lv.cut
    rw [if_neg (by omega)]
  new := h.new
  stow := h.stow
  std := h.std
  old := h.old
  os := h.os
  tape := h.tape
  output := h.output
  grow := h.grow
  ro := by show X.ro ≤ (s.sto.take k).length; rw [List.length_take]; omega
  rom := h.rom
  be0 := fun j hj => by
    show Lv.cut k G.be j = _
    unfold Lv.cut
    rw [if_pos (by omega)]
    exact h.be0 j hj
  n0 := by show X.n0 ≤ (s.sto.take k).length; rw [List.length_take]; omega
  la0 := h.la0

/-- What a function made and nothing leads to any more is not spoken of. -/
theorem Tri.forget {f ro : Nat} {args : List D} {sto : List Ob} {R R' : D → List Ob → Prop} (h : Tri P f ro args sto R')
    (hk : ∀ d l, R' d l → sto.length ≤ l.length → ∃ k, sto.length ≤ k ∧ k ≤ l.length ∧ NR k d ∧ (∀ o, o ∈ l.take k → NRo k o) ∧ R d (l.take k)) : Tri P f ro args sto R := by
  obtain ⟨fn, h1, h2, h3, h4, h5⟩ := h
  refine ⟨fn, h1, h2, h3, h4, fun G0 w vs hl hR => (h5 G0 w vs hl hR).mono fun e w' he => ?_⟩
  cases e with
  | returned v =>
    obtain ⟨d, s', G', a', q1, q2, q3⟩ := he
    obtain ⟨k, k1, k2, k3, k4, k5⟩ := hk d s'.sto q1 q2.n0
    refine ⟨d, _, _, a', k5, q2.cut (k := k) k1 (Nat.le_trans h4 k1) k2 k4, ?_⟩
    exact q3.cut k3
  | panicked c => exact he.elim
  | outgrown => exact he.elim
end

end Go.Lv
