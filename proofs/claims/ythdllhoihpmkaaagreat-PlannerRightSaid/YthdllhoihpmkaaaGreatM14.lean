/-
  Part 14 of the texts under the proof: an abstract run of loaded code on data, and what the functions do. No condition.
-/
import Derived.Test.YthdllhoihpmkaaaGreatM13
import Derived.Maps.RangeRun
set_option linter.all false
set_option maxRecDepth 100000
namespace Go.Lv
open Go

section
variable {P : Program} {T : St} {X : Ctx} {G G1 : Gh} {s s1 : DS} {a a1 : Act} {w w1 w' : World} {m : Mt}

noncomputable def rangeS (t : Nat) (s : DS) : DS := putS t (.lptr t (s.m.al t + 1) 0) { s with m := s.m.bA t }
noncomputable def Gh.nla (G : Gh) (t b : Nat) : Gh := { G with la := gset G.la t b }
theorem Rel.range (h : Rel X G s a w) {o : Obj} (N : New w w' o) {t : Nat} (ht : t < X.n) (hkp : t ∉ X.kp) (hl : lk t s.loc = none) :
    Rel X (G.nla t w.heap.size) (rangeS t s) (a.put (some t) (.pointer (some ⟨w.heap.size, 0, none⟩))) w' := by
  have K : Keeps w G s.m w' (G.nla t w.heap.size) (s.m.bA t) (fun _ => True) := by
    refine h.newKeeps N (fun _ _ h => h) (fun _ _ h => h) rfl (fun r => ?_) (fun u => ?_) (Nat.le_refl _) (fun _ _ => rfl) (fun _ _ => rfl) (fun _ _ _ => rfl) (fun _ _ => rfl) (fun u hu => ?_)
    · cases r <;> first | exact Nat.le_refl _ | exact up_le _ _ _
    · exact up_le _ _ _
    · refine gset_ne _ _ ?_
      rintro rfl
      simp [Mt.bA] at hu
  have r1 : Rel X (G.nla t w.heap.size) { s with m := s.m.bA t } a w' := by
    refine h.newBlock N K (fun _ _ => rfl) (fun e he => (h.new _ (Nat.le_refl _)).2 e he) (fun b hb => (h.new b (by omega)).1) (fun _ _ h => h) h.size h.defers (fun u e hu => K.vt (fun i q j c _ _ _ => trivial) (h.env u e hu)) (fun u cs hu => ?_) (fun k ob hk => ?_) h.be (Nat.le_refl _) rfl (fun _ _ => rfl) (fun u hu => gset_ne _ _ (by rintro rfl; exact hkp hu))
    · have hne : u ≠ t := by
        rintro rfl
        rw [show lk u s.loc = some cs from hu] at hl
        cases hl
      obtain ⟨h1, h2⟩ := h.loc u cs hu
      have hb := h.ownLt h1
      have hla : (G.nla t w.heap.size).la u = G.la u := gset_ne _ _ hne
      rw [hla]
      exact ⟨h1, K.box (fun j c _ _ => trivial) (fun j => ⟨N.cell hb j, N.frozen hb j⟩) h2⟩
    · obtain ⟨b, h1, h2, h3, h4⟩ := h.sto k ob hk
      refine ⟨b, h1, h2, by rw [N.size]; omega, ?_⟩
      cases ob with
      | map es =>
        obtain ⟨arr, clock, q1, q2⟩ := h4
        exact ⟨arr, clock, by rw [N.old h3]; exact q1, q2⟩
      | box cs =>
        simp only [ObV] at h4 ⊢
        split <;> rename_i hr
        · rw [if_pos hr] at h4
          intro j d hd
          obtain ⟨u, h5, h6⟩ := h4 j d hd
          exact ⟨u, (N.cell h3 j).trans h5, K.imm h6⟩
        · rw [if_neg hr] at h4
          exact K.box (fun j c _ _ => trivial) (fun j => ⟨N.cell h3 j, N.frozen h3 j⟩) h4
  have hv : VT w' (G.nla t w.heap.size) (putS t (.lptr t (s.m.al t + 1) 0) { s with m := s.m.bA t }).m (.slot t) (.lptr t (s.m.al t + 1) 0) (.pointer (some ⟨w.heap.size, 0, none⟩)) := by
    have e : (putS t (.lptr t (s.m.al t + 1) 0) { s with m := s.m.bA t }).m.al t = s.m.al t + 1 := by
      simp only [putS]
      split <;> simp [Mt.bA, Mt.bS]
    refine ⟨⟨w.heap.size, 0, none⟩, rfl, by rw [e]; exact Nat.le_refl _, fun _ => ?_⟩
    simp only [Gh.nla]
    rw [gset_same]
  exact r1.put ht hv
end

end Go.Lv

namespace Go.Lv
open Go

section
variable {P : Program} {T : St} {X : Ctx} {G G1 : Gh} {s s1 : DS} {a a1 : Act} {w w1 w' : World} {m : Mt} {t k : Nat} {es left : List (D × D)} {last : Option MapEntry}

end

end Go.Lv

namespace Go.Lv
open Go

section
variable {P : Program} {T : St} {X : Ctx} {G G1 : Gh} {s s1 : DS} {a a1 : Act} {w w1 w' : World} {m : Mt} {t k : Nat} {es left : List (D × D)} {last : Option MapEntry}

end

end Go.Lv

namespace Go.Lv

mutual
theorem renD_id (ρ : Nat → Nat) : ∀ {d : D}, nrB 0 d = true → renD ρ d = d
  | .gptr j o, h => by simp [nrB] at h
  | .map j, h => by simp [nrB] at h
  | .fn f ds, h => by simp only [nrB] at h; simp only [renD, renL_id ρ h]
  | .list q xs, h => by simp only [nrB] at h; simp only [renD, renLL_id ρ h]
  | .agg cs, h => by simp only [nrB] at h; simp only [renD, renL_id ρ h]
  | .tup cs, h => by simp only [nrB] at h; simp only [renD, renL_id ρ h]
  | .int _ _, _ => rfl
  | .bool _, _ => rfl
  | .str _, _ => rfl
  | .nil, _ => rfl
  | .nilmap, _ => rfl
  | .nilfn, _ => rfl
  | .dead, _ => rfl
  | .lptr _ _ _, _ => rfl
  | .eptr _ _ _ _ _, _ => rfl
  | .stamp _ _ _, _ => rfl
theorem renL_id (ρ : Nat → Nat) : ∀ {l : List D}, nrBL 0 l = true → renL ρ l = l
  | [], _ => rfl
  | d :: r, h => by
    simp only [nrBL, Bool.and_eq_true] at h
    simp only [renL, renD_id ρ h.1, renL_id ρ h.2]
theorem renLL_id (ρ : Nat → Nat) : ∀ {l : List (List D)}, nrBLL 0 l = true → renLL ρ l = l
  | [], _ => rfl
  | d :: r, h => by
    simp only [nrBLL, Bool.and_eq_true] at h
    simp only [renLL, renL_id ρ h.1, renLL_id ρ h.2]
end

theorem Tri.pure {P : Program} {f : Nat} {args : List D} {d : D} (h : Tri P f 0 args [] (fun d' l => d' = d ∧ l = [])) (ha : args.all cellsOK = true) (hn : nrBL 0 args = true) (hd : partsOK d = true) (hdn : nrB 0 d = true) {r : Nat} {sto : List Ob} (hr : r ≤ sto.length) :
    Tri P f r args sto (fun d' l => d' = d ∧ l = sto) := by
  have := Tri.ren (r := r) (sto := sto) (fun k => k) h (fun i j hi => by cases hi) (fun i o hi => by simp at hi) (fun i hi => by cases hi) hr ha (fun x hx => nrBL_nr hn x hx) (fun o ho => by cases ho) rfl (fun d' l ⟨h1, h2⟩ => by subst h1; subst h2; exact ⟨hd, rfl⟩)
  rw [renL_id _ hn] at this
  refine this.mono fun d' l ⟨d1, l1, ⟨h1, h2⟩, h3, h4⟩ => ?_
  subst h1; subst h2
  refine ⟨by rw [h3, renD_id _ hdn], by rw [h4]; simp [backSto]⟩
end Go.Lv

namespace Go.Lv
open Go

end Go.Lv

namespace Go.Lv
open Go

section
variable {P : Program} {T : St} {X : Ctx} {G : Gh} {s : DS} {a : Act} {w : World} {M : Ms} {Q : Ex → DS → Prop}
end
end Go.Lv

namespace Go.Lv
open Go

end Go.Lv

namespace Go.Lv
open Go

mutual
noncomputable def sameD : D → D → Bool
  | .int k n, y => match y with | .int k' n' => decide (k = k') && decide (n = n') | _ => false
  | .bool b, y => match y with | .bool b' => b == b' | _ => false
  | .str s, y => match y with | .str s' => decide (s = s') | _ => false
  | .list q xs, y => match y with
    | .list (.own z) xs' => (match q with | .own z' => z' == z | _ => false) && sameLL xs xs'
    | .list .imm xs' => (match q with | .imm => true | _ => false) && sameLL xs xs'
    | _ => false
  | .nil, y => match y with | .nil => true | _ => false
  | .gptr k o, y => match y with | .gptr k' o' => k == k' && o == o' | _ => false
  | .nilmap, y => match y with | .nilmap => true | _ => false
  | .map k, y => match y with | .map k' => k == k' | _ => false
  | .fn f cs, y => match y with | .fn f' cs' => f == f' && sameL cs cs' | _ => false
  | .nilfn, y => match y with | .nilfn => true | _ => false
  | .agg cs, y => match y with | .agg cs' => sameL cs cs' | _ => false
  | .tup cs, y => match y with | .tup cs' => sameL cs cs' | _ => false
  | .dead, y => match y with | .dead => true | _ => false
  | _, _ => false
noncomputable def sameL : List D → List D → Bool
  | [], y => match y with | [] => true | _ => false
  | d :: r, y => match y with | d' :: r' => sameD d d' && sameL r r' | _ => false
noncomputable def sameLL : List (List D) → List (List D) → Bool
  | [], y => match y with | [] => true | _ => false
  | d :: r, y => match y with | d' :: r' => sameL d d' && sameLL r r' | _ => false
end
mutual
theorem sameD_eq : ∀ {x y : D}, sameD x y = true → x = y
  | .int k n, y, h => by
    cases y <;> simp [sameD] at h
    obtain ⟨rfl, rfl⟩ := h
    rfl
  | .bool b, y, h => by
    cases y <;> simp [sameD] at h
    subst h
    rfl
  | .str s, y, h => by
    cases y <;> simp [sameD] at h
    subst h
    rfl
  | .list q xs, y, h => by
    cases y with
    | list q' xs' =>
      cases q' with
      | own z =>
        cases q with
        | own z' =>
          simp only [sameD, Bool.and_eq_true, beq_iff_eq] at h
          rw [h.1, sameLL_eq h.2]
        | _ => simp [sameD] at h
      | imm =>
        cases q with
        | imm =>
          simp only [sameD, Bool.and_eq_true] at h
          rw [sameLL_eq h.2]
        | _ => simp [sameD] at h
      | _ => simp [sameD] at h
    | _ => simp [sameD] at h
  | .nil, y, h => by cases y <;> simp [sameD] at h <;> rfl
  | .gptr k o, y, h => by
    cases y <;> simp [sameD] at h
    obtain ⟨rfl, rfl⟩ := h
    rfl
  | .nilmap, y, h => by cases y <;> simp [sameD] at h <;> rfl
  | .map k, y, h => by
    cases y <;> simp [sameD] at h
    subst h
    rfl
  | .fn f cs, y, h => by
    cases y with
    | fn f' cs' =>
      simp only [sameD, Bool.and_eq_true, beq_iff_eq] at h
      rw [h.1, sameL_eq h.2]
    | _ => simp [sameD] at h
  | .nilfn, y, h => by cases y <;> simp [sameD] at h <;> rfl
  | .agg cs, y, h => by
    cases y with
    | agg cs' =>
      simp only [sameD] at h
      rw [sameL_eq h]
    | _ => simp [sameD] at h
  | .tup cs, y, h => by
    cases y with
    | tup cs' =>
      simp only [sameD] at h
      rw [sameL_eq h]
    | _ => simp [sameD] at h
  | .dead, y, h => by cases y <;> simp [sameD] at h <;> rfl
  | .lptr _ _ _, y, h => by simp [sameD] at h
  | .eptr _ _ _ _ _, y, h => by simp [sameD] at h
  | .stamp _ _ _, y, h => by simp [sameD] at h
theorem sameL_eq : ∀ {x y : List D}, sameL x y = true → x = y
  | [], y, h => by cases y <;> simp [sameL] at h; rfl
  | d :: r, y, h => by
    cases y with
    | nil => simp [sameL] at h
    | cons d' r' =>
      simp only [sameL, Bool.and_eq_true] at h
      rw [sameD_eq h.1, sameL_eq h.2]
theorem sameLL_eq : ∀ {x y : List (List D)}, sameLL x y = true → x = y
  | [], y, h => by cases y <;> simp [sameLL] at h; rfl
  | d :: r, y, h => by
    cases y with
    | nil => simp [sameLL] at h
    | cons d' r' =>
      simp only [sameLL, Bool.and_eq_true] at h
      rw [sameL_eq h.1, sameLL_eq h.2]
end
noncomputable def sameEs : List (D × D) → List (D × D) → Bool
  | [], y => match y with | [] => true | _ => false
  | d :: r, y => match y with | d' :: r' => (sameD d.1 d'.1 && sameD d.2 d'.2) && sameEs r r' | _ => false
theorem sameEs_eq : ∀ {x y : List (D × D)}, sameEs x y = true → x = y
  | [], y, h => by cases y <;> simp [sameEs] at h; rfl
  | (a, b) :: r, y, h => by
    cases y with
    | nil => simp [sameEs] at h
    | cons d' r' =>
      obtain ⟨a', b'⟩ := d'
      simp only [sameEs, Bool.and_eq_true] at h
      rw [sameD_eq h.1.1, sameD_eq h.1.2, sameEs_eq h.2]
noncomputable def sameOs : List Ob → List Ob → Bool
  | [], y => match y with | [] => true | _ => false
  | .box cs :: r, y => match y with | .box cs' :: r' => sameL cs cs' && sameOs r r' | _ => false
  | .map es :: r, y => match y with | .map es' :: r' => sameEs es es' && sameOs r r' | _ => false
theorem sameOs_eq : ∀ {x y : List Ob}, sameOs x y = true → x = y
  | [], y, h => by cases y <;> simp [sameOs] at h; rfl
  | .box cs :: r, y, h => by
    match y, h with
    | [], h => simp [sameOs] at h
    | .box cs' :: r', h =>
      simp only [sameOs, Bool.and_eq_true] at h
      rw [sameL_eq h.1, sameOs_eq h.2]
    | .map _ :: _, h => simp [sameOs] at h
  | .map es :: r, y, h => by
    match y, h with
    | [], h => simp [sameOs] at h
    | .map es' :: r', h =>
      simp only [sameOs, Bool.and_eq_true] at h
      rw [sameEs_eq h.1, sameOs_eq h.2]
    | .box _ :: _, h => simp [sameOs] at h

noncomputable def limbs (n : Nat) : List Nat := [n % 1048576, n / 1048576 % 1048576, n / 1099511627776 % 1048576, n / 1152921504606846976 % 1048576]
noncomputable def encI : Int → List Nat
  | .ofNat n => 0 :: limbs n
  | .negSucc n => 1 :: limbs (n + 1)
noncomputable def kindN : IntKind → Nat
  | .i8 => 0 | .i16 => 1 | .i32 => 2 | .i64 => 3 | .u8 => 4 | .u16 => 5 | .u32 => 6 | .u64 => 7
mutual
noncomputable def encDn : D → List Nat
  | .int k n => 1 :: kindN k :: encI n
  | .bool b => [2, cond b 1 0]
  | .str s => 3 :: s.data.toList.length :: s.data.toList.map UInt8.toNat
  | .list q xs => 4 :: ((match q with | .own z => [0, z] | .imm => [1, 0] | .cp _ _ => [2, 0]) ++ (xs.length :: encDLL xs))
  | .nil => [5]
  | .gptr k o => [7, k, o]
  | .nilmap => [8]
  | .map k => [9, k]
  | .fn f cs => 10 :: f :: cs.length :: encDL cs
  | .nilfn => [11]
  | .agg cs => 12 :: cs.length :: encDL cs
  | .tup cs => 13 :: cs.length :: encDL cs
  | .dead => [14]
  | .lptr t v o => [15, t, v, o]
  | .eptr _ _ _ _ _ => [16]
  | .stamp _ _ _ => [17]
noncomputable def encDL : List D → List Nat
  | [] => []
  | d :: r => encDn d ++ encDL r
noncomputable def encDLL : List (List D) → List Nat
  | [] => []
  | d :: r => d.length :: (encDL d ++ encDLL r)
end
noncomputable def encEs : List (D × D) → List Nat
  | [] => []
  | d :: r => encDn d.1 ++ (encDn d.2 ++ encEs r)
noncomputable def encOb : List Ob → List Nat
  | [] => []
  | .box cs :: r => 1 :: cs.length :: (encDL cs ++ encOb r)
  | .map es :: r => 2 :: es.length :: (encEs es ++ encOb r)
noncomputable def encCall (r f : Nat) (args : List D) (sto : List Ob) : List Nat := 777777 :: f :: r :: args.length :: (encDL args ++ (sto.length :: encOb sto))
structure Me where
  f : Nat
  r : Nat
  args : List D
  sto : List Ob
  d : D
  sto' : List Ob
noncomputable def memT : List Me → Caller
  | [], r, f, args, sto => .no (encCall r f args sto)
  | e :: t, r, f, args, sto => if Nat.beq e.f f && (Nat.beq e.r r && (sameL args e.args && sameOs sto e.sto)) then .ok (e.d, e.sto') else memT t r f args sto
noncomputable def MeOk (P : Program) (e : Me) : Prop := Tri P e.f e.r e.args e.sto (fun d' l => d' = e.d ∧ l = e.sto') ∧ Pre e.r e.sto e.sto'
theorem memT_ok {P : Program} : ∀ {t : List Me}, (∀ e, e ∈ t → MeOk P e) → CallOk P (memT t)
  | [], _, r, f, args, sto, d, sto', h => by cases h
  | e :: t, H, r, f, args, sto, d, sto', h => by
    simp only [memT] at h
    split at h
    · rename_i hc
      simp only [Bool.and_eq_true] at hc
      have e1 := Nat.eq_of_beq_eq_true hc.1
      have e2 := Nat.eq_of_beq_eq_true hc.2.1
      have e3 := sameL_eq hc.2.2.1
      have e4 := sameOs_eq hc.2.2.2
      cases h
      have := H e (by simp)
      unfold MeOk at this
      rw [e1, e2, ← e3, ← e4] at this
      exact this
    · exact memT_ok (fun e he => H e (by simp [he])) r f args sto d sto' h
noncomputable def Ev.mem (E : Ev) (fs : List Nat) (t : List Me) : Ev := { E with sp := fun f => if fs.contains f then some (memT t) else E.sp f }
theorem Ev.mem_ok {P : Program} {E : Ev} (H : EvOk P E) {fs : List Nat} {t : List Me} (Ht : ∀ e, e ∈ t → MeOk P e) : EvOk P (E.mem fs t) where
  sp := fun f g h r args sto d sto' hg => by
    simp only [Ev.mem] at h
    split at h
    · cases h
      exact memT_ok Ht r f args sto d sto' hg
    · exact H.sp f g h r args sto d sto' hg
  L := H.L
  m := H.m
  hk := H.hk
noncomputable def evFo (P : Program) (E : Ev) (n : Nat) (f : Nat) : Caller := evF P { E with sp := fun g => if Nat.beq g f then none else E.sp g } n
theorem Ev.off_ok {P : Program} {E : Ev} (H : EvOk P E) (f : Nat) : EvOk P { E with sp := fun g => if Nat.beq g f then none else E.sp g } where
  sp := fun g k h => by
    simp only at h
    split at h
    · cases h
    · exact H.sp g k h
  L := H.L
  m := H.m
  hk := H.hk
noncomputable def outM (e : Me) : Rz (D × List Ob) → Bool
  | .ok (d, l) => sameD d e.d && sameOs l e.sto'
  | .no _ => false
theorem meOk_of {P : Program} {E : Ev} (H : EvOk P E) (n : Nat) (e : Me) (h : outM e (evFo P E n e.f e.r e.f e.args e.sto) = true) : MeOk P e := by
  unfold outM at h
  split at h
  · rename_i d l he
    simp only [Bool.and_eq_true] at h
    have h1 := sameD_eq h.1
    have h2 := sameOs_eq h.2
    subst h1 h2
    exact evF_ok (Ev.off_ok H e.f) n e.r e.f e.args e.sto _ _ he
  · cases h
theorem me_cons {P : Program} {e : Me} {t : List Me} (h : MeOk P e) (H : ∀ e, e ∈ t → MeOk P e) : ∀ x, x ∈ e :: t → MeOk P x := fun x hx => by
  rcases List.mem_cons.1 hx with rfl | hx
  · exact h
  · exact H x hx
theorem me_nil {P : Program} : ∀ x, x ∈ ([] : List Me) → MeOk P x := fun x hx => absurd hx (by simp)
end Go.Lv
