/-
  Part 2 of the texts under the proof: an abstract run of loaded code on data, and what the functions do. No condition.
-/
import Derived.Test.YtbcahhinkbgdjaaGreatTraceFirstE1
import Derived.Maps.RangeRun
set_option linter.all false
set_option maxRecDepth 100000
namespace Go.Lv
open Go

section
variable {P : Program} {T : St} {X : Ctx} {G G1 : Gh} {s s1 : DS} {a a1 : Act} {w w1 w' : World} {m : Mt}

noncomputable def rangeS (t : Nat) (s : DS) : DS := putS t (.lptr t (s.m.al t + 1) 0) { s with m := s.m.bA t }
noncomputable def Gh.nla (G : Gh) (t b : Nat) : Gh := { G with la := gset G.la t b }
theorem Rel.range (h : Rel X G s a w) {o : Obj} (N : New w w' o) {t : Nat} (ht : t < X.n) (hkp : t ∉ X.kp) (hl : lk t s.loc = none) :
    Rel X (G.nla t w.heap.size) (rangeS t s) (a.put (some t) (.pointer (some ⟨w.heap.size, 0, none⟩))) w' := by
  have K : Keeps w G s.m w' (G.nla t w.heap.size) (s.m.bA t) (fun _ => True) := by
    refine h.newKeeps N (fun _ _ h => h) (fun _ _ h => h) rfl (fun r => ?_) (fun u => ?_) (Nat.le_refl _) (fun _ _ => rfl) (fun _ _ => rfl) (fun _ _ _ => rfl) (fun _ _ => rfl) (fun u hu => ?_)
    · cases r <;> first | exact Nat.le_refl _ | exact up_le _ _ _
    · exact up_le _ _ _
    · refine gset_ne _ _ ?_
      rintro rfl
      simp [Mt.bA] at hu
  have r1 : Rel X (G.nla t w.heap.size) { s with m := s.m.bA t } a w' := by
    refine h.newBlock N K (fun _ _ => rfl) (fun e he => (h.new _ (Nat.le_refl _)).2 e he) (fun b hb => (h.new b (by omega)).1) (fun _ _ h => h) h.size h.defers (fun u e hu => K.vt (fun i q j c _ _ _ => trivial) (h.env u e hu)) (fun u cs hu => ?_) (fun k ob hk => ?_) h.be (Nat.le_refl _) rfl (fun _ _ => rfl) (fun u hu => gset_ne _ _ (by rintro rfl; exact hkp hu))
    · have hne : u ≠ t := by
        rintro rfl
        rw [show lk u s.loc = some cs from hu] at hl
        cases hl
      obtain ⟨h1, h2⟩ := h.loc u cs hu
      have hb := h.ownLt h1
      have hla : (G.nla t w.heap.size).la u = G.la u := gset_ne _ _ hne
      rw [hla]
      exact ⟨h1, K.box (fun j c _ _ => trivial) (fun j => ⟨N.cell hb j, N.frozen hb j⟩) h2⟩
    · obtain ⟨b, h1, h2, h3, h4⟩ := h.sto k ob hk
      refine ⟨b, h1, h2, by rw [N.size]; omega, ?_⟩
      cases ob with
      | map es =>
        obtain ⟨arr, clock, q1, q2⟩ := h4
        exact ⟨arr, clock, by rw [N.old h3]; exact q1, q2⟩
      | box cs =>
        simp only [ObV] at h4 ⊢
        split <;> rename_i hr
        · rw [if_pos hr] at h4
          intro j d hd
          obtain ⟨u, h5, h6⟩ := h4 j d hd
          exact ⟨u, (N.cell h3 j).trans h5, K.imm h6⟩
        · rw [if_neg hr] at h4
          exact K.box (fun j c _ _ => trivial) (fun j => ⟨N.cell h3 j, N.frozen h3 j⟩) h4
  have hv : VT w' (G.nla t w.heap.size) (putS t (.lptr t (s.m.al t + 1) 0) { s with m := s.m.bA t }).m (.slot t) (.lptr t (s.m.al t + 1) 0) (.pointer (some ⟨w.heap.size, 0, none⟩)) := by
    have e : (putS t (.lptr t (s.m.al t + 1) 0) { s with m := s.m.bA t }).m.al t = s.m.al t + 1 := by
      simp only [putS]
      split <;> simp [Mt.bA, Mt.bS]
    refine ⟨⟨w.heap.size, 0, none⟩, rfl, by rw [e]; exact Nat.le_refl _, fun _ => ?_⟩
    simp only [Gh.nla]
    rw [gset_same]
  exact r1.put ht hv
end

end Go.Lv

namespace Go.Lv
open Go

section
variable {P : Program} {T : St} {X : Ctx} {G G1 : Gh} {s s1 : DS} {a a1 : Act} {w w1 w' : World} {m : Mt} {t k : Nat} {es left : List (D × D)} {last : Option MapEntry}

end

end Go.Lv

namespace Go.Lv
open Go

section
variable {P : Program} {T : St} {X : Ctx} {G G1 : Gh} {s s1 : DS} {a a1 : Act} {w w1 w' : World} {m : Mt} {t k : Nat} {es left : List (D × D)} {last : Option MapEntry}

noncomputable def nmB (lv bs : List Nat) (s : DS) : DS := resetS { s with env := keep lv s.env, loc := keep bs s.loc }
theorem Rel.nmB (h : Rel X G s a w) (lv bs : List Nat) : Rel X G (Lv.nmB lv bs s) a w :=
  (h.less (keep lv s.env) (keep bs s.loc) (fun t d ht => lk_keep lv t _ d ht) (fun t d ht => lk_keep bs t _ d ht)).reset
end

end Go.Lv

namespace Go.Lv

mutual
theorem renD_id (ρ : Nat → Nat) : ∀ {d : D}, nrB 0 d = true → renD ρ d = d
  | .gptr j o, h => by simp [nrB] at h
  | .map j, h => by simp [nrB] at h
  | .fn f ds, h => by simp only [nrB] at h; simp only [renD, renL_id ρ h]
  | .list q xs, h => by simp only [nrB] at h; simp only [renD, renLL_id ρ h]
  | .agg cs, h => by simp only [nrB] at h; simp only [renD, renL_id ρ h]
  | .tup cs, h => by simp only [nrB] at h; simp only [renD, renL_id ρ h]
  | .int _ _, _ => rfl
  | .bool _, _ => rfl
  | .str _, _ => rfl
  | .nil, _ => rfl
  | .nilmap, _ => rfl
  | .nilfn, _ => rfl
  | .dead, _ => rfl
  | .lptr _ _ _, _ => rfl
  | .eptr _ _ _ _ _, _ => rfl
  | .stamp _ _ _, _ => rfl
theorem renL_id (ρ : Nat → Nat) : ∀ {l : List D}, nrBL 0 l = true → renL ρ l = l
  | [], _ => rfl
  | d :: r, h => by
    simp only [nrBL, Bool.and_eq_true] at h
    simp only [renL, renD_id ρ h.1, renL_id ρ h.2]
theorem renLL_id (ρ : Nat → Nat) : ∀ {l : List (List D)}, nrBLL 0 l = true → renLL ρ l = l
  | [], _ => rfl
  | d :: r, h => by
    simp only [nrBLL, Bool.and_eq_true] at h
    simp only [renLL, renL_id ρ h.1, renLL_id ρ h.2]
end

theorem Tri.pureR {P : Program} {f : Nat} {args : List D} {R : D → Prop} (h : Tri P f 0 args [] (fun d' l => R d' ∧ l = [])) (ha : args.all cellsOK = true) (hn : nrBL 0 args = true) (hd : ∀ d, R d → partsOK d = true ∧ nrB 0 d = true) {r : Nat} {sto : List Ob} (hr : r ≤ sto.length) :
    Tri P f r args sto (fun d' l => R d' ∧ l = sto) := by
  have := Tri.ren (r := r) (sto := sto) (fun k => k) h (fun i j hi => by cases hi) (fun i o hi => by simp at hi) (fun i hi => by cases hi) hr ha (fun x hx => nrBL_nr hn x hx) (fun o ho => by cases ho) rfl (fun d' l ⟨h1, h2⟩ => by subst h2; exact ⟨(hd _ h1).1, rfl⟩)
  rw [renL_id _ hn] at this
  refine this.mono fun d' l ⟨d1, l1, ⟨h1, h2⟩, h3, h4⟩ => ?_
  subst h2
  refine ⟨by rw [h3, renD_id _ (hd _ h1).2]; exact h1, by rw [h4]; simp [backSto]⟩
theorem Tri.pure {P : Program} {f : Nat} {args : List D} {d : D} (h : Tri P f 0 args [] (fun d' l => d' = d ∧ l = [])) (ha : args.all cellsOK = true) (hn : nrBL 0 args = true) (hd : partsOK d = true) (hdn : nrB 0 d = true) {r : Nat} {sto : List Ob} (hr : r ≤ sto.length) :
    Tri P f r args sto (fun d' l => d' = d ∧ l = sto) := by
  have := Tri.ren (r := r) (sto := sto) (fun k => k) h (fun i j hi => by cases hi) (fun i o hi => by simp at hi) (fun i hi => by cases hi) hr ha (fun x hx => nrBL_nr hn x hx) (fun o ho => by cases ho) rfl (fun d' l ⟨h1, h2⟩ => by subst h1; subst h2; exact ⟨hd, rfl⟩)
  rw [renL_id _ hn] at this
  refine this.mono fun d' l ⟨d1, l1, ⟨h1, h2⟩, h3, h4⟩ => ?_
  subst h1; subst h2
  refine ⟨by rw [h3, renD_id _ hdn], by rw [h4]; simp [backSto]⟩
end Go.Lv

namespace Go.Lv
open Go

end Go.Lv

namespace Go.Lv
open Go

section
variable {P : Program} {T : St} {X : Ctx} {G : Gh} {s : DS} {a : Act} {w : World} {M : Ms} {Q : Ex → DS → Prop}
theorem Ok.nmB {c : Code} (lv bs : List Nat) (h : Ok P T c (Lv.nmB lv bs s) Q) : Ok P T c s Q := fun X G a w hX hR => h X G a w hX (hR.nmB lv bs)
theorem Ok.loopN (H : LyOK P T.L) (hm : P.follows .mixedOrders = true) (M : Ms) (lv lv0 bs : List Nat) {c : Code} (I : Nat → DS → Prop) {n : Nat} (h0 : I n (Lv.nmB lv0 bs s))
    (hr : ∀ n s, I n s → wC P T M lv c s (Ex.then (fun s' => ∃ k, k < n ∧ I k (Lv.nmB lv0 bs s')) Q)) : Ok P T (.loop c) s Q :=
  Ok.loop (fun n s => I n (Lv.nmB lv0 bs s)) h0 fun n s h => Ok.nmB lv0 bs (wC_ok H hm (hr n _ h))
theorem wrap64 {z : Int} (h1 : -9223372036854775808 ≤ z) (h2 : z ≤ 9223372036854775807) : IntKind.i64.wrap z = z := by
  rw [IntKind.wrap_i64]; omega
end
end Go.Lv
