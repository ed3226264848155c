/-
  Part 14 of the texts under the proof: an abstract run of loaded code on data, and what the functions do. No condition.
-/
import Derived.Test.YtmbkdljolcmmiaaGreatM13
import Derived.Maps.RangeRun
set_option linter.all false
set_option maxRecDepth 100000
namespace Go.Lv
open Go

section
variable {P : Program} {T : St} {X : Ctx} {G G1 : Gh} {s s1 : DS} {a a1 : Act} {w w1 w' : World} {m : Mt}

theorem OpsOk.soundR {ops : Array Oper} {K : DS → Prop} {r : List Nat} : ∀ {l : List Nat} {s : DS} {G : Gh} {a : Act} {w : World} {Qc : Exit → Act → World → Prop}, OpsOk P T ops l s K → Fits T X → Rel X G s a w → (∀ s' G' a' w', K s' → Rel X G' s' a' w' → wpOps P ops Qc r a' w') → wpOps P ops Qc (l ++ r) a w
  | [], s, G, a, w, Qc, h, _, hR, hq => hq _ _ _ _ h hR
  | i :: l, s, G, a, w, Qc, h, hX, hR, hq => by
    simp only [OpsOk] at h
    simp only [List.cons_append, wpOps]
    cases ho : ops[i]? with
    | none =>
      rw [ho] at h
      exact OpsOk.soundR h hX hR hq
    | some o =>
      rw [ho] at h
      simp only at h ⊢
      split at h
      · rename_i hw
        rw [wantD_sound hR hw, if_pos rfl]
        exact .inl (h X G a w hX hR _ _ fun s' G' a' w' h1 h2 => OpsOk.soundR h1 hX h2 hq)
      · rename_i hw
        rw [wantD_sound hR hw, if_neg (by simp)]
        split at h
        · rename_i s1 hp
          obtain ⟨G', hR'⟩ := hR.putUndef hX.n hp
          exact OpsOk.soundR h hX hR' hq
        · exact h.elim
      · exact h.elim

noncomputable def Ctx.anew (X : Ctx) (w : World) (G : Gh) (t : Nat) : Ctx := { X with w0 := w, G0 := G, kp := t :: X.kp }
theorem Rel.anew (h : Rel X G s a w) (t : Nat) : Rel (X.anew w G t) G s a w where
  size := h.size
  defers := h.defers
  env := h.env
  loc := h.loc
  sto := h.sto
  be := h.be
  new := h.new
  stow := h.stow
  std := h.std
  old := fun b hb h0 => ⟨rfl, h0, fun e he => he⟩
  os := rfl
  tape := rfl
  output := rfl
  grow := Nat.le_refl _
  ro := h.ro
  rom := h.rom
  be0 := fun k hk => rfl
  n0 := h.n0
  la0 := fun t ht => rfl
theorem Rel.back0 (h : Rel X G s a w) {t : Nat} (h' : Rel (X.anew w G t) G1 s1 a1 w1) : Rel X G1 s1 a1 w1 where
  size := h'.size
  defers := h'.defers
  env := h'.env
  loc := h'.loc
  sto := h'.sto
  be := h'.be
  new := h'.new
  stow := h'.stow
  std := h'.std
  old := fun b hb h0 => by
    obtain ⟨q1, q2, q3⟩ := h.old b hb h0
    obtain ⟨p1, p2, p3⟩ := h'.old b (Nat.lt_of_lt_of_le hb h.grow) q2
    exact ⟨p1.trans q1, p2, fun e he => q3 e (p3 e he)⟩
  os := h'.os.trans h.os
  tape := h'.tape.trans h.tape
  output := h'.output.trans h.output
  grow := Nat.le_trans h.grow h'.grow
  ro := h'.ro
  rom := h'.rom
  be0 := fun k hk => (h'.be0 k hk).trans (h.be0 k hk)
  n0 := h'.n0
  la0 := fun u hu => (h'.la0 u (List.mem_cons_of_mem _ hu)).trans (h.la0 u hu)

theorem Rel.freeW (h : Rel X G s a w) {r : Nat} (hx : X.w0.heap.size ≤ r) (hown : G.own r = none) (hst : ∀ e, ¬ G.st r e) (hbe : ∀ k, G.be k ≠ some r)
    (hh : ∀ b, b ≠ r → w'.heap[b]? = w.heap[b]?) (hs : w'.heap.size = w.heap.size) (hos : w'.os = w.os) (htp : w'.tape = w.tape) (hou : w'.output = w.output) : Rel X G s a w' := by
  have hc : ∀ b j, b ≠ r → w'.cell? ⟨b, j, none⟩ = w.cell? ⟨b, j, none⟩ := fun b j hb => by unfold World.cell?; rw [hh b hb]
  have hf : ∀ b j, b ≠ r → w'.frozen? ⟨b, j, none⟩ = w.frozen? ⟨b, j, none⟩ := fun b j hb => by unfold World.frozen?; rw [hh b hb]
  have hne : ∀ {b : Nat} {o : Owner}, G.own b = some o → b ≠ r := fun ho e => by rw [e, hown] at ho; cases ho
  have K : Keeps w G s.m w' G s.m (fun _ => True) := {
    be := fun _ _ h => h
    st := fun _ _ h => h
    cell := fun b n o hsb _ => hc b o fun e => hst n (e ▸ hsb)
    ep := Nat.le_refl _
    rv := fun _ => Nat.le_refl _
    al := fun _ => Nat.le_refl _
    era := Nat.le_refl _
    rd := fun _ b n hr => ⟨hr, fun o _ => by
      rcases hr with hr | ⟨⟨p, hp⟩, _⟩
      · exact hc b o fun e => hst n (e ▸ hr)
      · exact hc b o (hne hp)⟩
    pl := fun _ _ _ => rfl
    la := fun _ _ => rfl
    own := fun b p _ ho => ⟨ho, rfl, fun o => ⟨hc b o (hne ho), hf b o (hne ho)⟩⟩
    opl := fun _ _ => rfl
    mp := fun _ k b es clock hb hh' => ⟨es, clock, by rw [hh b (fun e => hbe k (e ▸ hb))]; exact hh', fun i x hx => ⟨x, hx, rfl⟩⟩ }
  have hbox : ∀ {q : Root} {b : Nat} {cs : List D}, b ≠ r → BoxV w G s.m q b cs → BoxV w' G s.m q b cs := fun hb hB => K.box (fun _ _ _ _ => trivial) (fun o => ⟨hc _ o hb, hf _ o hb⟩) hB
  exact {
    size := h.size
    defers := h.defers
    env := fun t d ht => K.vt (fun _ _ _ _ _ _ _ => trivial) (h.env t d ht)
    loc := fun t cs ht => ⟨(h.loc t cs ht).1, hbox (hne (h.loc t cs ht).1) (h.loc t cs ht).2⟩
    sto := fun k o hk => by
      obtain ⟨b, h1, h2, h3, h4⟩ := h.sto k o hk
      have hb : b ≠ r := fun e => hbe k (e ▸ h1)
      refine ⟨b, h1, h2, by rw [hs]; exact h3, ?_⟩
      cases o with
      | map es =>
        obtain ⟨arr, clock, q1, q2⟩ := h4
        exact ⟨arr, clock, (hh b hb).trans q1, q2⟩
      | box cs =>
        simp only [ObV] at h4 ⊢
        split <;> rename_i hr
        · rw [if_pos hr] at h4
          intro j d hd
          obtain ⟨u, h5, h6⟩ := h4 j d hd
          exact ⟨u, (hc b j hb).trans h5, K.imm h6⟩
        · rw [if_neg hr] at h4
          exact hbox hb h4
    be := h.be
    new := fun b hb => h.new b (by rw [hs] at hb; exact hb)
    stow := h.stow
    std := h.std
    old := fun b hb h0 => by
      obtain ⟨q1, q2, q3⟩ := h.old b hb h0
      exact ⟨(hh b (by omega)).trans q1, q2, q3⟩
    os := hos.trans h.os
    tape := htp.trans h.tape
    output := hou.trans h.output
    grow := by rw [hs]; exact h.grow
    ro := h.ro
    rom := h.rom
    be0 := h.be0
    n0 := h.n0
    la0 := h.la0 }

noncomputable def rangeS (t : Nat) (s : DS) : DS := putS t (.lptr t (s.m.al t + 1) 0) { s with m := s.m.bA t }
noncomputable def Gh.nla (G : Gh) (t b : Nat) : Gh := { G with la := gset G.la t b }
theorem Rel.range (h : Rel X G s a w) {o : Obj} (N : New w w' o) {t : Nat} (ht : t < X.n) (hkp : t ∉ X.kp) (hl : lk t s.loc = none) :
    Rel X (G.nla t w.heap.size) (rangeS t s) (a.put (some t) (.pointer (some ⟨w.heap.size, 0, none⟩))) w' := by
  have K : Keeps w G s.m w' (G.nla t w.heap.size) (s.m.bA t) (fun _ => True) := by
    refine h.newKeeps N (fun _ _ h => h) (fun _ _ h => h) rfl (fun r => ?_) (fun u => ?_) (Nat.le_refl _) (fun _ _ => rfl) (fun _ _ => rfl) (fun _ _ _ => rfl) (fun _ _ => rfl) (fun u hu => ?_)
    · cases r <;> first | exact Nat.le_refl _ | exact up_le _ _ _
    · exact up_le _ _ _
    · refine gset_ne _ _ ?_
      rintro rfl
      simp [Mt.bA] at hu
  have r1 : Rel X (G.nla t w.heap.size) { s with m := s.m.bA t } a w' := by
    refine h.newBlock N K (fun _ _ => rfl) (fun e he => (h.new _ (Nat.le_refl _)).2 e he) (fun b hb => (h.new b (by omega)).1) (fun _ _ h => h) h.size h.defers (fun u e hu => K.vt (fun i q j c _ _ _ => trivial) (h.env u e hu)) (fun u cs hu => ?_) (fun k ob hk => ?_) h.be (Nat.le_refl _) rfl (fun _ _ => rfl) (fun u hu => gset_ne _ _ (by rintro rfl; exact hkp hu))
    · have hne : u ≠ t := by
        rintro rfl
        rw [show lk u s.loc = some cs from hu] at hl
        cases hl
      obtain ⟨h1, h2⟩ := h.loc u cs hu
      have hb := h.ownLt h1
      have hla : (G.nla t w.heap.size).la u = G.la u := gset_ne _ _ hne
      rw [hla]
      exact ⟨h1, K.box (fun j c _ _ => trivial) (fun j => ⟨N.cell hb j, N.frozen hb j⟩) h2⟩
    · obtain ⟨b, h1, h2, h3, h4⟩ := h.sto k ob hk
      refine ⟨b, h1, h2, by rw [N.size]; omega, ?_⟩
      cases ob with
      | map es =>
        obtain ⟨arr, clock, q1, q2⟩ := h4
        exact ⟨arr, clock, by rw [N.old h3]; exact q1, q2⟩
      | box cs =>
        simp only [ObV] at h4 ⊢
        split <;> rename_i hr
        · rw [if_pos hr] at h4
          intro j d hd
          obtain ⟨u, h5, h6⟩ := h4 j d hd
          exact ⟨u, (N.cell h3 j).trans h5, K.imm h6⟩
        · rw [if_neg hr] at h4
          exact K.box (fun j c _ _ => trivial) (fun j => ⟨N.cell h3 j, N.frozen h3 j⟩) h4
  have hv : VT w' (G.nla t w.heap.size) (putS t (.lptr t (s.m.al t + 1) 0) { s with m := s.m.bA t }).m (.slot t) (.lptr t (s.m.al t + 1) 0) (.pointer (some ⟨w.heap.size, 0, none⟩)) := by
    have e : (putS t (.lptr t (s.m.al t + 1) 0) { s with m := s.m.bA t }).m.al t = s.m.al t + 1 := by
      simp only [putS]
      split <;> simp [Mt.bA, Mt.bS]
    refine ⟨⟨w.heap.size, 0, none⟩, rfl, by rw [e]; exact Nat.le_refl _, fun _ => ?_⟩
    simp only [Gh.nla]
    rw [gset_same]
  exact r1.put ht hv
end

end Go.Lv

namespace Go.Lv
open Go

noncomputable def leftE (es : List (D × D)) (arr : Array MapEntry) (seen : Array Nat) : List (D × D) := ((es.zip arr.toList).filter fun p => !seen.contains p.2.born).map Prod.fst
noncomputable def ItrF (G : Gh) (w : World) (t k : Nat) (es left : List (D × D)) (last : Option MapEntry) : Prop :=
  ∃ bm arr clock seen, G.be k = some bm ∧ w.heap[bm]? = some (.map arr clock) ∧ w.heap[G.la t]? = some (.mapIter (some bm) clock seen clock) ∧ (∀ x ∈ arr.toList, x.born < clock) ∧
    (arr.toList.map (·.born)).Nodup ∧ arr.size = es.length ∧ (∀ (i : Nat) (x : D × D) (e : MapEntry), es[i]? = some x → arr[i]? = some e → toV x.1 = some e.key ∧ toV x.2 = some e.val) ∧
    left = leftE es arr seen ∧ (∀ e, last = some e → e ∈ arr.toList ∧ ∃ seen0 : Array Nat, seen = seen0.push e.born)
structure FreeB (X : Ctx) (G : Gh) (w : World) (r : Nat) : Prop where
  own : G.own r = none
  st : ∀ e, ¬ G.st r e
  new : X.w0.heap.size ≤ r
  lt : r < w.heap.size
  be : ∀ k, G.be k ≠ some r

theorem filter_split {α : Type} (p : α → Bool) (key : α → Nat) (q : α) : ∀ (l : List α), (l.map key).Nodup → q ∈ l → p q = true → ∃ l1 l2, l.filter p = l1 ++ q :: l2 ∧ l.filter (fun x => p x && key x != key q) = l1 ++ l2
  | [], _, h, _ => by cases h
  | x :: r, hn, h, hp => by
    simp only [List.map_cons, List.nodup_cons] at hn
    rcases List.mem_cons.1 h with e | h
    · subst e
      refine ⟨[], r.filter p, by simp [List.filter_cons, hp], ?_⟩
      rw [List.filter_cons]
      simp only [bne_self_eq_false, Bool.and_false, Bool.false_eq_true, if_false, List.nil_append]
      refine List.filter_congr fun y hy => ?_
      have : key y ≠ key q := fun e => hn.1 (e ▸ List.mem_map_of_mem hy)
      simp [this]
    · obtain ⟨l1, l2, h1, h2⟩ := filter_split p key q r hn.2 h hp
      have hne : key x ≠ key q := fun e => hn.1 (e ▸ List.mem_map_of_mem h)
      rw [List.filter_cons, List.filter_cons, h1, h2]
      have hb : (key x != key q) = true := by simp [hne]
      rw [hb, Bool.and_true]
      cases hx : p x with
      | true => exact ⟨x :: l1, l2, by simp, by simp⟩
      | false => exact ⟨l1, l2, by simp, by simp⟩
theorem zip_born (es : List (D × D)) (arr : Array MapEntry) (h : arr.size = es.length) : (es.zip arr.toList).map (fun p => p.2.born) = arr.toList.map (·.born) := by
  have e : (es.zip arr.toList).map (fun p => p.2.born) = ((es.zip arr.toList).map Prod.snd).map (fun e : MapEntry => e.born) := by rw [List.map_map]; rfl
  rw [e, List.map_snd_zip (by simp [h])]

section
variable {P : Program} {T : St} {X : Ctx} {G G1 : Gh} {s s1 : DS} {a a1 : Act} {w w1 w' : World} {m : Mt} {t k : Nat} {es left : List (D × D)} {last : Option MapEntry}

theorem itr_next (h : Rel X G s a w) (hF : ItrF G w t k es left last) (hB : FreeB X G w (G.la t)) (ty : TypeId) :
    (left = [] ∧ (Instr.next (.pointer (some ⟨G.la t, 0, none⟩)) false ty).run P w = .ok (.tuple #[.bool false]) w) ∨
    ∃ l1 x l2 e w2, left = l1 ++ x :: l2 ∧ (Instr.next (.pointer (some ⟨G.la t, 0, none⟩)) false ty).run P w = .ok (.tuple #[.bool true, e.key, e.val]) w2 ∧ toV x.1 = some e.key ∧ toV x.2 = some e.val ∧
      Rel X G s a w2 ∧ ItrF G w2 t k es (l1 ++ l2) (some e) ∧ FreeB X G w2 (G.la t) := by
  obtain ⟨bm, arr, clock, seen, h1, h2, h3, h4, h5, h6, h7, h8, _⟩ := hF
  have hbm : bm ≠ G.la t := fun e => hB.be k (e ▸ h1)
  have hpairs : ∀ e, e ∈ arr.toList → ∃ x, (x, e) ∈ es.zip arr.toList ∧ toV x.1 = some e.key ∧ toV x.2 = some e.val := fun e he => by
    obtain ⟨i, hi, hie⟩ := List.mem_iff_getElem.1 he
    have hi2 : i < es.length := by rw [← h6]; simpa using hi
    have hz : (es.zip arr.toList)[i]? = some (es[i], e) := by
      rw [List.getElem?_zip_eq_some]
      exact ⟨List.getElem?_eq_getElem hi2, by rw [List.getElem?_eq_getElem hi, hie]⟩
    have h9 := h7 i es[i] e (List.getElem?_eq_getElem hi2) (by rw [← Array.getElem?_toList, List.getElem?_eq_getElem hi, hie])
    exact ⟨es[i], List.mem_of_getElem? hz, h9⟩
  rcases run_next_at (P := P) w ty (G.la t) bm clock clock seen arr clock h3 h2 h4 (Nat.le_refl _) with ⟨q1, q2⟩ | ⟨e, he, w1, hw1, hrun⟩
  · refine .inl ⟨?_, q2⟩
    have hall := all_seen arr seen q1
    rw [h8]
    unfold leftE
    have : (es.zip arr.toList).filter (fun p => !seen.contains p.2.born) = [] := by
      rw [List.filter_eq_nil_iff]
      intro p hp
      rw [hall p.2 (List.of_mem_zip hp).2]
      simp
    rw [this]
    rfl
  · obtain ⟨hm, hns⟩ := mem_left he
    obtain ⟨x, hxz, hx1, hx2⟩ := hpairs e hm
    obtain ⟨l1, l2, hs1, hs2⟩ := filter_split (fun p : (D × D) × MapEntry => !seen.contains p.2.born) (fun p => p.2.born) (x, e) (es.zip arr.toList) (by rw [zip_born es arr h6]; exact h5) hxz (by show (!seen.contains e.born) = true; rw [hns]; rfl)
    have hsz1 : w1.heap = w.heap ∧ w1.os = w.os ∧ w1.tape = w.tape ∧ w1.output = w.output := by rcases hw1 with rfl | rfl <;> exact ⟨rfl, rfl, rfl, rfl⟩
    have hother : ∀ b, b ≠ G.la t → (ChangeMaps.setBlock w1 (G.la t) (.mapIter (some bm) clock (seen.push e.born) clock)).heap[b]? = w.heap[b]? := fun b hb => by
      simp only [ChangeMaps.setBlock, hsz1.1]
      rw [Array.getElem?_setIfInBounds_ne (Ne.symm hb)]
    have hsize : (ChangeMaps.setBlock w1 (G.la t) (.mapIter (some bm) clock (seen.push e.born) clock)).heap.size = w.heap.size := by simp [ChangeMaps.setBlock, hsz1.1]
    refine .inr ⟨l1.map Prod.fst, x, l2.map Prod.fst, e, _, ?_, hrun, hx1, hx2, ?_, ?_, ?_⟩
    · rw [h8]
      unfold leftE
      rw [hs1]
      simp
    · exact h.freeW hB.new hB.own hB.st hB.be hother hsize hsz1.2.1 hsz1.2.2.1 hsz1.2.2.2
    · refine ⟨bm, arr, clock, seen.push e.born, h1, (hother bm hbm).trans h2, ?_, h4, h5, h6, h7, ?_, ?_⟩
      · simp only [ChangeMaps.setBlock, hsz1.1]
        rw [Array.getElem?_setIfInBounds_self_of_lt hB.lt]
      · unfold leftE
        have : (fun p : (D × D) × MapEntry => !(seen.push e.born).contains p.2.born) = fun p => (!seen.contains p.2.born) && (p.2.born != e.born) := by
          funext p
          rw [contains_push, Bool.not_or]
          rfl
        rw [this, hs2]
        simp
      · intro e' he'
        cases he'
        exact ⟨hm, seen, rfl⟩
    · exact ⟨hB.own, hB.st, hB.new, by rw [hsize]; exact hB.lt, hB.be⟩
theorem itr_entry {e : MapEntry} (hF : ItrF G w t k es left (some e)) : (Instr.entry (.pointer (some ⟨G.la t, 0, none⟩))).run P w = .ok (.tuple #[e.key, e.val]) w := by
  obtain ⟨bm, arr, clock, seen, h1, h2, h3, h4, h5, h6, h7, h8, h9⟩ := hF
  obtain ⟨hm, seen0, rfl⟩ := h9 e rfl
  exact run_entry_at w (G.la t) bm clock seen0 arr clock e h3 h2 hm h5
theorem itr_back (h : Rel X G s a w) (hro : X.ro ≤ X.n0) (hk : k < X.ro) (hF : ItrF G w t k es left last) (hB : FreeB X G w (G.la t)) (h' : Rel (X.anew w G t) G1 s1 a1 w1) :
    G1.la t = G.la t ∧ ItrF G1 w1 t k es left none ∧ FreeB X G1 w1 (G1.la t) := by
  have hla : G1.la t = G.la t := h'.la0 t (by simp [Ctx.anew])
  obtain ⟨bm, arr, clock, seen, h1, h2, h3, h4, h5, h6, h7, h8, _⟩ := hF
  have hks : k < s.sto.length := Nat.lt_of_lt_of_le hk h.ro
  obtain ⟨b, q1, q2, q3, _⟩ := h.sto k _ (List.getElem?_eq_getElem hks)
  rw [h1] at q1
  cases q1
  rw [if_pos hk] at q2
  have o1 := h'.old bm q3 q2
  have o2 := h'.old (G.la t) hB.lt hB.own
  have hgr : w.heap.size ≤ w1.heap.size := h'.grow
  refine ⟨hla, ⟨bm, arr, clock, seen, ?_, o1.1.trans h2, by rw [hla]; exact o2.1.trans h3, h4, h5, h6, h7, h8, fun e he => by cases he⟩, ?_⟩
  · rw [h'.be0 k (Nat.lt_of_lt_of_le hk hro)]
    exact h1
  · rw [hla]
    refine ⟨o2.2.1, fun e he => hB.st e (o2.2.2 e he), hB.new, Nat.lt_of_lt_of_le hB.lt hgr, fun j hj => ?_⟩
    by_cases hjn : j < X.n0
    · rw [h'.be0 j hjn] at hj
      exact hB.be j hj
    · by_cases hjl : j < s1.sto.length
      · obtain ⟨b, p1, p2, _⟩ := h'.sto j _ (List.getElem?_eq_getElem hjl)
        rw [hj] at p1
        cases p1
        rw [if_neg (by show ¬ j < X.ro; omega), o2.2.1] at p2
        cases p2
      · rw [h'.be j (by omega)] at hj
        cases hj
end

end Go.Lv

namespace Go.Lv
open Go

section
variable {P : Program} {T : St} {X : Ctx} {G G1 : Gh} {s s1 : DS} {a a1 : Act} {w w1 w' : World} {m : Mt} {t k : Nat} {es left : List (D × D)} {last : Option MapEntry}

theorem toV_vp {r : Root} {i : Nat} {d : D} {v : Value} (h : toV d = some v) : VP w G m r i d v := by
  have key : ∀ {d v}, (∀ cs, d ≠ .agg cs) → toV1 d = some v → VP w G m r i d v := fun hd h => vp_of_vc hd (toV1_vc h)
  cases d with
  | agg cs =>
    simp only [toV] at h
    obtain ⟨vs, hvs, rfl⟩ := Option.map_eq_some_iff.1 h
    obtain ⟨h1, h2⟩ := toVL_get hvs
    exact ⟨vs, rfl, h1, fun j d u hd hu => toV1_vc (h2 j d u hd hu)⟩
  | _ => exact key (fun cs e => by cases e) h
theorem toV_tup2 {r : Root} {x y : D} {u v : Value} (hx : toV x = some u) (hy : toV y = some v) : VT w G m r (.tup [x, y]) (.tuple #[u, v]) := by
  refine ⟨[u, v], rfl, rfl, fun i d z hd hz => ?_⟩
  match i, hd, hz with
  | 0, hd, hz => simp at hd hz; subst hd; subst hz; exact toV_vp hx
  | 1, hd, hz => simp at hd hz; subst hd; subst hz; exact toV_vp hy
  | i + 2, hd, hz => simp at hd
theorem wanted_none {ops : Array Oper} {o : Oper} (hg : o.guard = none) (l : Nat → Option Bool) : Region.wanted o l = true := by
  unfold Region.wanted
  rw [hg]
theorem put_putS {c : FC} {t : Nat} {d : D} {s s1 : DS} (h : put c (some t) d s = some s1) : t < c.n ∧ s1 = putS t d s := by
  unfold put at h
  simp only at h
  rw [Option.ite_none_right_eq_some] at h
  exact ⟨h.1, (Option.some.inj h.2).symm⟩

noncomputable def nm (lv : List Nat) (s : DS) : DS := resetS (prune lv s)
theorem Rel.nm (h : Rel X G s a w) (lv : List Nat) : Rel X G (Lv.nm lv s) a w := by
  refine Rel.reset ?_
  unfold Lv.prune
  split
  · exact h
  · exact h.less _ s.loc (fun t d ht => lk_keep lv t _ d ht) (fun _ _ h => h)
noncomputable def nmB (lv bs : List Nat) (s : DS) : DS := resetS { s with env := keep lv s.env, loc := keep bs s.loc }
theorem Rel.nmB (h : Rel X G s a w) (lv bs : List Nat) : Rel X G (Lv.nmB lv bs s) a w :=
  (h.less (keep lv s.env) (keep bs s.loc) (fun t d ht => lk_keep lv t _ d ht) (fun t d ht => lk_keep bs t _ d ht)).reset
noncomputable def RJ (I : List (D × D) → DS → Prop) (X : Ctx) (t k : Nat) (es : List (D × D)) (n : Nat) (a : Act) (w : World) : Prop :=
  ∃ l s G, l.length = n ∧ I l s ∧ Rel X G s a w ∧ ItrF G w t k es l none ∧ FreeB X G w (G.la t)

theorem Ok.rangeBlk (H : LyOK P T.L) (I : List (D × D) → DS → Prop) {Q : Ex → DS → Prop} {i2 i3 i4 b0 b1 : Nat} {ops2 ops3 ops4 : Array Oper} {rest : Code} {n2 : Nat} {r4 : List Nat} {o2 o3 o3' o4 : Oper} {t10 t11 t12 ty kt et : Nat} {x : Operand}
    (hn2 : ops2.size = n2 + 1) (e2 : ops2[n2]? = some o2) (g2 : o2.guard = none) (p2 : o2.op = .range ty x) (d2 : o2.dst = some t)
    (hn3 : List.range ops3.size = [0, 1]) (e3 : ops3[0]? = some o3) (g3 : o3.guard = none) (p3 : o3.op = .next (.tmp t) false) (d3 : o3.dst = some t10)
    (e3' : ops3[1]? = some o3') (g3' : o3'.guard = none) (p3' : o3'.op = .extract (.tmp t10) 0) (d3' : o3'.dst = some t11)
    (hn4 : List.range ops4.size = 0 :: r4) (e4 : ops4[0]? = some o4) (g4 : o4.guard = none) (p4 : o4.op = .entry (.tmp t)) (d4 : o4.dst = some t12)
    (hne10 : t ≠ t10) (hne11 : t ≠ t11) (htk : T.L.tk ty = .map kt et) (hro : T.ro ≤ T.n0) (hk : k < T.ro) (hkp : T.c.kp.contains t = false) (htn : t < T.c.n)
    (hm : P.follows .mixedOrders = true) (M : Ms) (lv lv0 bs0 : List Nat)
    (h2 : wOps P T M ops2 (List.range n2) s (fun s1 => lookO s1 x = some (.map k) ∧ s1.sto[k]? = some (.map es) ∧ lk t s1.loc = none ∧ I es (nmB lv0 bs0 (rangeS t s1))))
    (hI : ∀ l s, I l s → lk t s.env = some (.lptr t (s.m.al t) 0))
    (hround : ∀ l1 y l2 s, I (l1 ++ y :: l2) s → sm (voidS T.c (some t10) s) fun s => sm (put T.c (some t11) (.bool true) s) fun s => sm (put T.c (some t12) (.tup [y.1, y.2]) s) fun s =>
      wOps P { T with c := { T.c with kp := t :: T.c.kp } } M ops4 r4 s fun s => nrm lv s fun s => wC P { T with c := { T.c with kp := t :: T.c.kp } } M lv rest s (Ex.blk b1 fun e s => e = .nx ∧ I (l1 ++ l2) (nmB lv0 bs0 s)))
    (hdone : ∀ s, I [] s → sm (voidS T.c (some t10) s) fun s => sm (put T.c (some t11) (.bool false) s) fun s => Q .nx s) :
    Ok P T (.seq (.region i2 ops2 false) (.block b0 (.loop (.seq (.region i3 ops3 false) (.seq (.cond (.tmp t11) .skip (.exit b0)) (.block b1 (.seq (.region i4 ops4 false) rest))))))) s Q := by
  intro X G a w hX hR
  refine wp_seq (wp_region ?_)
  rw [hn2, List.range_succ]
  refine OpsOk.soundR (wOps_ok H h2) hX hR fun s1 G1 a1 w1 hK hR1 => ?_
  obtain ⟨hx, hsto, hloc, hI0⟩ := hK
  -- the range begins
  obtain ⟨bm, arr, clock, hev, hbe, hheap, hsz, hent, hdist⟩ : ∃ bm arr clock, a1.eval x = .map (some bm) ∧ G1.be k = some bm ∧ w1.heap[bm]? = some (.map arr clock) ∧ arr.size = es.length ∧
      (∀ (i : Nat) (x : D × D) (e : MapEntry), es[i]? = some x → arr[i]? = some e → toV x.1 = some e.key ∧ toV x.2 = some e.val ∧ e.born < clock) ∧ (∀ (i j : Nat) (x y : MapEntry), arr[i]? = some x → arr[j]? = some y → x.born = y.born → i = j) := by
    obtain ⟨b, h1, h2, h3, arr, clock, q1, q2, q3, q4⟩ := hR1.sto k _ hsto
    have hv := lookO_vt hR1 hx (.air 0) rfl
    have hv' : Imm w1 G1.be G1.st (.map k) (a1.eval x) := hv
    generalize a1.eval x = u at hv'
    cases hv' with
    | map k b' hb' =>
      rw [h1] at hb'
      cases hb'
      exact ⟨b, arr, clock, rfl, h1, q1, q2, q3, q4⟩
  have hborn : (arr.toList.map (·.born)).Nodup := by
    rw [List.Nodup, List.pairwise_iff_getElem]
    intro i j hi hj hlt he
    simp only [List.length_map, Array.length_toList] at hi hj
    have := hdist i j arr[i] arr[j] (Array.getElem?_eq_getElem hi) (Array.getElem?_eq_getElem hj) (by simpa using he)
    omega
  have hold : ∀ e ∈ arr.toList, e.born < clock := fun e he => by
    obtain ⟨i, hi, hie⟩ := List.mem_iff_getElem.1 he
    have hi2 : i < es.length := by rw [← hsz]; simpa using hi
    exact (hent i es[i] e (List.getElem?_eq_getElem hi2) (by rw [← Array.getElem?_toList, List.getElem?_eq_getElem hi, hie])).2.2
  simp only [wpOps, e2]
  rw [wanted_none (ops := ops2) g2, if_pos rfl]
  refine .inl (Runs.wp (v := .pointer (some ⟨w1.heap.size, 0, none⟩)) (w' := w1.alloc (.mapIter (some bm) clock #[] clock)) (.inl ?_) ?_)
  · simp only [execOp, p2, hev, Sem.run_bind, run_range_map w1 ty kt et bm arr clock (H.map htk) hheap, Result.andThen_ok, Sem.run_pure]
  rw [d2]
  have hN : New w1 (w1.alloc (.mapIter (some bm) clock #[] clock)) (.mapIter (some bm) clock #[] clock) := ⟨rfl, rfl, rfl, rfl⟩
  have htX : t < X.n := by rw [← hX.n]; exact htn
  have hkpX : t ∉ X.kp := fun hm => by rw [← hX.kp] at hm; rw [List.contains_iff_mem.2 hm] at hkp; cases hkp
  have hR2 := hR1.range hN htX hkpX hloc
  have hla2 : (G1.nla t w1.heap.size).la t = w1.heap.size := gset_same _ _ _
  have hF2 : ItrF (G1.nla t w1.heap.size) (w1.alloc (.mapIter (some bm) clock #[] clock)) t k es es none := by
    have hlt := (Array.getElem?_eq_some_iff.1 hheap).1
    refine ⟨bm, arr, clock, #[], hbe, (heap_alloc_old w1 _ hlt).trans hheap, by rw [hla2]; exact heap_alloc_new w1 _, hold, hborn, hsz, fun i y e h1 h2 => ⟨(hent i y e h1 h2).1, (hent i y e h1 h2).2.1⟩, ?_, fun e he => by cases he⟩
    unfold leftE
    have : (es.zip arr.toList).filter (fun p => !(#[] : Array Nat).contains p.2.born) = es.zip arr.toList := List.filter_eq_self.2 fun p _ => by simp
    rw [this, List.map_fst_zip (by simp [hsz])]
  have hB2 : FreeB X (G1.nla t w1.heap.size) (w1.alloc (.mapIter (some bm) clock #[] clock)) ((G1.nla t w1.heap.size).la t) := by
    rw [hla2]
    exact ⟨(hR1.new _ (Nat.le_refl _)).1, (hR1.new _ (Nat.le_refl _)).2, hR1.grow, by rw [hN.size]; omega, fun j hj => by have := hR1.beLt hj; omega⟩
  -- the loop
  refine wp_block (wp_loop (fun a w => ∃ n, RJ I X t k es n a w) (fun a w => leastN fun n => RJ I X t k es n a w) ⟨es.length, es, _, _, rfl, hI0, hR2.nmB lv0 bs0, hF2, hB2⟩ ?_)
  intro a3 w3 hJ
  obtain ⟨⟨l, s3, G3, hl3, hI3, hR3, hF3, hB3⟩, hmin⟩ := leastN_spec (p := fun n => RJ I X t k es n a3 w3) hJ
  generalize leastN (fun n => RJ I X t k es n a3 w3) = mu at hl3 hmin ⊢
  have hpt : a3.eval (.tmp t) = .pointer (some ⟨G3.la t, 0, none⟩) := by
    have hv := lookO_vt hR3 (x := .tmp t) (hI l s3 hI3) (.air 0) rfl
    obtain ⟨b, q1, q2, q3⟩ := (hv : LpV G3 s3.m t (s3.m.al t) 0 _)
    rw [q1, q3 rfl]
  refine wp_seq (wp_region ?_)
  rw [hn3]
  simp only [wpOps, e3]
  rw [wanted_none (ops := ops3) g3, if_pos rfl]
  rcases itr_next (P := P) hR3 hF3 hB3 o3.type with ⟨hnil, hrun⟩ | ⟨l1, y, l2, e, w4, hsplit, hrun, hy1, hy2, hR4, hF4, hB4⟩
  · -- none is left
    subst hnil
    obtain ⟨s4, hs4, hd⟩ := sm_inv (hdone s3 hI3)
    obtain ⟨s5, hs5, hd⟩ := sm_inv hd
    refine .inl (Runs.wp (v := .tuple #[.bool false]) (w' := w3) (.inl ?_) ?_)
    · simp only [execOp, p3, hpt, Sem.run_bind, hrun, Result.andThen_ok, Sem.run_pure]
    rw [d3]
    have hR4 : Rel X G3 s4 (a3.put (some t10) (.tuple #[.bool false])) w3 := hR3.voidO hX.n hs4
    have ht10 : t10 < X.n := by
      unfold voidS at hs4
      simp only at hs4
      rw [Option.ite_none_right_eq_some] at hs4
      rw [← hX.n]
      exact hs4.1
    have hev10 : (a3.put (some t10) (.tuple #[.bool false])).eval (.tmp t10) = .tuple #[.bool false] := by
      show (a3.put (some t10) _).tmps.getD t10 undef = _
      rw [Act.put_getD a3 t10 t10 _ (by rw [hR3.size]; exact ht10)]
      simp
    simp only [e3']
    rw [wanted_none (ops := ops3) g3', if_pos rfl]
    refine .inl (Runs.wp (v := .bool false) (w' := w3) (.inl ?_) ?_)
    · simp [execOp, p3', hev10, Instr.extract]
    rw [d3']
    obtain ⟨ht11, rfl⟩ := put_putS hs5
    have hR5 := hR4.put (t := t11) (d := .bool false) (v := .bool false) (by rw [← hX.n]; exact ht11) (.bool _)
    have hb := inv_bool (lookO_vt hR5 (x := .tmp t11) (d := .bool false) (by show lk t11 (ins t11 _ _) = _; rw [lk_ins, if_pos rfl]) (.air 0) rfl)
    refine wp_seq (wp_cond hb ?_)
    rw [if_neg (by simp)]
    refine wp_exit ?_
    · simp only [Exit.then, Exit.inBlock, if_true]
      exact ⟨.nx, _, _, rfl, hd, hR5⟩
  · -- an entry
    subst hsplit
    obtain ⟨s4, hs4, hd⟩ := sm_inv (hround l1 y l2 s3 hI3)
    obtain ⟨s5, hs5, hd⟩ := sm_inv hd
    obtain ⟨s6, hs6, hd⟩ := sm_inv hd
    refine .inl (Runs.wp (v := .tuple #[.bool true, e.key, e.val]) (w' := w4) (.inl ?_) ?_)
    · simp only [execOp, p3, hpt, Sem.run_bind, hrun, Result.andThen_ok, Sem.run_pure]
    rw [d3]
    have hR5 : Rel X G3 s4 (a3.put (some t10) (.tuple #[.bool true, e.key, e.val])) w4 := hR4.voidO hX.n hs4
    have ht10 : t10 < X.n := by
      unfold voidS at hs4
      simp only at hs4
      rw [Option.ite_none_right_eq_some] at hs4
      rw [← hX.n]
      exact hs4.1
    have hev10 : (a3.put (some t10) (.tuple #[.bool true, e.key, e.val])).eval (.tmp t10) = .tuple #[.bool true, e.key, e.val] := by
      show (a3.put (some t10) _).tmps.getD t10 undef = _
      rw [Act.put_getD a3 t10 t10 _ (by rw [hR4.size]; exact ht10)]
      simp
    simp only [e3']
    rw [wanted_none (ops := ops3) g3', if_pos rfl]
    refine .inl (Runs.wp (v := .bool true) (w' := w4) (.inl ?_) ?_)
    · simp [execOp, p3', hev10, Instr.extract]
    rw [d3']
    obtain ⟨ht11, rfl⟩ := put_putS hs5
    have hR6 := hR5.put (t := t11) (d := .bool true) (v := .bool true) (by rw [← hX.n]; exact ht11) (.bool _)
    have hb := inv_bool (lookO_vt hR6 (x := .tmp t11) (d := .bool true) (by show lk t11 (ins t11 _ _) = _; rw [lk_ins, if_pos rfl]) (.air 0) rfl)
    refine wp_seq (wp_cond hb ?_)
    rw [if_pos rfl]
    refine wp_skip ?_
    refine wp_block (wp_seq (wp_region ?_))
    rw [hn4]
    simp only [wpOps, e4]
    rw [wanted_none (ops := ops4) g4, if_pos rfl]
    have hpt2 : ((a3.put (some t10) (.tuple #[.bool true, e.key, e.val])).put (some t11) (.bool true)).eval (.tmp t) = .pointer (some ⟨G3.la t, 0, none⟩) := by
      have ht11 : t11 < X.n := by rw [← hX.n]; exact ht11
      show ((a3.put (some t10) _).put (some t11) _).tmps.getD t undef = _
      rw [Act.put_getD (a3.put (some t10) _) t11 t _ (by simp only [Act.put, Array.size_setIfInBounds]; rw [hR4.size]; exact ht11), if_neg hne11, Act.put_getD a3 t10 t _ (by rw [hR4.size]; exact ht10), if_neg hne10]
      exact hpt
    refine .inl (Runs.wp (v := .tuple #[e.key, e.val]) (w' := w4) (.inl ?_) ?_)
    · simp only [execOp, p4, hpt2, Sem.run_bind, itr_entry hF4, Result.andThen_ok, Sem.run_pure]
    rw [d4]
    obtain ⟨ht12, rfl⟩ := put_putS hs6
    have hR7 := hR6.put (t := t12) (d := .tup [y.1, y.2]) (v := .tuple #[e.key, e.val]) (by rw [← hX.n]; exact ht12) (toV_tup2 hy1 hy2)
    have hX' : Fits { T with c := { T.c with kp := t :: T.c.kp } } (X.anew w4 G3 t) := ⟨hX.n, hX.ro, hX.n0, by show t :: T.c.kp = t :: X.kp; rw [hX.kp]⟩
    refine OpsOk.sound (wOps_ok (T := { T with c := { T.c with kp := t :: T.c.kp } }) H hd) hX' (hR7.anew t) fun s8 G8 a8 w8 hK8 hR8 => ?_
    unfold nrm at hK8
    rw [fW_eq] at hK8
    refine wp_mono (wC_ok (T := { T with c := { T.c with kp := t :: T.c.kp } }) H hm hK8 _ G8 a8 w8 hX' (hR8.nm lv)) ?_
    rintro ex a9 w9 ⟨x9, s9, G9, rfl, hq9, hR9⟩
    have fin : I (l1 ++ l2) (nmB lv0 bs0 s9) → (∃ n, RJ I X t k es n a9 w9) ∧ leastN (fun n => RJ I X t k es n a9 w9) < mu := by
      intro hI9
      have hR9' := hR7.back0 hR9
      obtain ⟨hla9, hF9, hB9⟩ := itr_back hR7 (by rw [hX.ro, hX.n0]; exact hro) (by rw [hX.ro]; exact hk) hF4 hB4 hR9
      have hrj : RJ I X t k es (l1 ++ l2).length a9 w9 := ⟨_, nmB lv0 bs0 s9, G9, rfl, hI9, hR9'.nmB lv0 bs0, hF9, hB9⟩
      refine ⟨⟨_, hrj⟩, Nat.lt_of_le_of_lt ((leastN_spec (p := fun n => RJ I X t k es n a9 w9) ⟨_, hrj⟩).2 _ hrj) ?_⟩
      rw [← hl3]
      simp
    cases x9 with
    | nx => exact fin hq9.2
    | ret => exact absurd hq9.1 (by intro e; cases e)
    | out id =>
      simp only [Ex.blk] at hq9
      simp only [Ex.to, Exit.inBlock]
      split at hq9
      · rename_i e9
        rw [if_pos e9]
        exact fin hq9.2
      · exact absurd hq9.1 (by intro e; cases e)
end

end Go.Lv

namespace Go.Lv

mutual
theorem renD_id (ρ : Nat → Nat) : ∀ {d : D}, nrB 0 d = true → renD ρ d = d
  | .gptr j o, h => by simp [nrB] at h
  | .map j, h => by simp [nrB] at h
  | .fn f ds, h => by simp only [nrB] at h; simp only [renD, renL_id ρ h]
  | .list q xs, h => by simp only [nrB] at h; simp only [renD, renLL_id ρ h]
  | .agg cs, h => by simp only [nrB] at h; simp only [renD, renL_id ρ h]
  | .tup cs, h => by simp only [nrB] at h; simp only [renD, renL_id ρ h]
  | .int _ _, _ => rfl
  | .bool _, _ => rfl
  | .str _, _ => rfl
  | .nil, _ => rfl
  | .nilmap, _ => rfl
  | .nilfn, _ => rfl
  | .dead, _ => rfl
  | .lptr _ _ _, _ => rfl
  | .eptr _ _ _ _ _, _ => rfl
  | .stamp _ _ _, _ => rfl
theorem renL_id (ρ : Nat → Nat) : ∀ {l : List D}, nrBL 0 l = true → renL ρ l = l
  | [], _ => rfl
  | d :: r, h => by
    simp only [nrBL, Bool.and_eq_true] at h
    simp only [renL, renD_id ρ h.1, renL_id ρ h.2]
theorem renLL_id (ρ : Nat → Nat) : ∀ {l : List (List D)}, nrBLL 0 l = true → renLL ρ l = l
  | [], _ => rfl
  | d :: r, h => by
    simp only [nrBLL, Bool.and_eq_true] at h
    simp only [renLL, renL_id ρ h.1, renLL_id ρ h.2]
end

theorem Tri.pure {P : Program} {f : Nat} {args : List D} {d : D} (h : Tri P f 0 args [] (fun d' l => d' = d ∧ l = [])) (ha : args.all cellsOK = true) (hn : nrBL 0 args = true) (hd : partsOK d = true) (hdn : nrB 0 d = true) {r : Nat} {sto : List Ob} (hr : r ≤ sto.length) :
    Tri P f r args sto (fun d' l => d' = d ∧ l = sto) := by
  have := Tri.ren (r := r) (sto := sto) (fun k => k) h (fun i j hi => by cases hi) (fun i o hi => by simp at hi) (fun i hi => by cases hi) hr ha (fun x hx => nrBL_nr hn x hx) (fun o ho => by cases ho) rfl (fun d' l ⟨h1, h2⟩ => by subst h1; subst h2; exact ⟨hd, rfl⟩)
  rw [renL_id _ hn] at this
  refine this.mono fun d' l ⟨d1, l1, ⟨h1, h2⟩, h3, h4⟩ => ?_
  subst h1; subst h2
  refine ⟨by rw [h3, renD_id _ hdn], by rw [h4]; simp [backSto]⟩
end Go.Lv

namespace Go.Lv
open Go

theorem intsOf_map (zs : List Int) : intsOf (zs.map rowI) = some zs := by
  induction zs with
  | nil => rfl
  | cons z r ih =>
    show (intsOf (r.map rowI)).map (z :: ·) = _
    rw [ih]
    rfl
theorem OpOk.turn {P : Program} {T : St} {s : DS} {o : Oper} {K : DS → Prop} {φ : List Int → List Int} {f : Nat} (hC : TurnC P f φ) {x y : Operand} {args : Array Operand} {tys : Array TypeId} {e v : Nat} {p : Place} {zs : List Int}
    (ho : o.op = .call { callee := .value x, args := args, argTypes := tys }) (hargs : args.toList = [y]) (hx : lookO s x = some (.fn f [])) (hy : lookO s y = some (.list (.cp e (some (p, v))) (zs.map rowI)))
    (h0 : zs = [] → Lv.sm (put T.c o.dst (.tup []) s) K)
    (h1 : zs ≠ [] → (s.m.rv p.r = v ∧ okR T.ro p.r = true) ∧ getPl s p = some (.list (.own 1) (zs.map rowI)) ∧ zs.length < 4611686018427387904 ∧
      Lv.sm (put T.c o.dst (.tup []) { setPl s p (.list (.own 1) ((φ zs).map rowI)) with m := (setPl s p (.list (.own 1) ((φ zs).map rowI))).m.bE }) K) : OpOk P T o s K := by
  cases zs with
  | nil =>
    obtain ⟨s2, h2, hk⟩ := sm_inv (h0 rfl)
    refine OpOk.mono (turnHk_ok (s' := s2) hC ho hx ?_).1 fun s1 e => by subst e; exact hk
    unfold turnHk
    rw [ho]
    simp only [hx, hargs, hy, List.map_nil, h2]
  | cons z r =>
    obtain ⟨hv, hpl, hlen, h1⟩ := h1 (by simp)
    obtain ⟨s2, h2, hk⟩ := sm_inv h1
    refine OpOk.mono (turnHk_ok (s' := s2) hC ho hx ?_).1 fun s1 e => by subst e; exact hk
    unfold turnHk
    rw [ho]
    simp only [hx, hargs, hy, List.map_cons, turnGo]
    rw [if_pos hv, hpl]
    simp only
    rw [intsOf_map]
    simp only
    rw [if_pos (by refine ⟨by simp, hlen, ?_⟩; trivial), h2]
end Go.Lv

namespace Go.Lv
open Go

section
variable {P : Program} {T : St} {X : Ctx} {G : Gh} {s : DS} {a : Act} {w : World} {M : Ms} {Q : Ex → DS → Prop}
theorem Ok.nmB {c : Code} (lv bs : List Nat) (h : Ok P T c (Lv.nmB lv bs s) Q) : Ok P T c s Q := fun X G a w hX hR => h X G a w hX (hR.nmB lv bs)
end
end Go.Lv

namespace Go.Lv
open Go

end Go.Lv

namespace Go.Lv
open Go

end Go.Lv
