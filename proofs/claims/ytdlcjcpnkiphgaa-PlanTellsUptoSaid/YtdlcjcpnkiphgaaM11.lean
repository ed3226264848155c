/-
  Part 11 of the texts under the proof: an abstract run of loaded code on data, and what the functions do. No condition.
-/
import Derived.Test.YtdlcjcpnkiphgaaM10
set_option linter.all false
set_option maxRecDepth 100000
namespace Go.Lv
open Go

noncomputable def tkEq : Tk → Tk → Bool
  | .int k, .int k' => decide (k = k')
  | .bool, .bool => true
  | .str, .str => true
  | _, _ => false
/-- The fields' kinds, one behind the other from a cell on. -/
noncomputable def fieldsC (P : Program) (go : TypeId → List Tk → Bool) : List Field → Nat → List Tk → Bool
  | [], _, ks => isNilL ks
  | f :: fs, o, ks => f.name != "_" && f.offset == o && (match P.info? f.type with
    | some i => decide (i.size ≤ ks.length) && go f.type (ks.take i.size) && fieldsC P go fs (o + i.size) (ks.drop i.size)
    | none => false)
noncomputable def eqC (P : Program) : Nat → TypeId → List Tk → Bool
  | 0, _, _ => false
  | d + 1, t, ks => match P.underlying t with
    | some (.int k) => (match ks with | [.int k'] => decide (k = k') | _ => false)
    | some .bool => (match ks with | [.bool] => true | _ => false)
    | some .string => (match ks with | [.str] => true | _ => false)
    | some (.struct fs) => !P.stoodInHeld t && fieldsC P (eqC P d) fs.toList 0 ks
    | _ => false
/-- A value's form, of its cells. -/
noncomputable def frm (P : Program) (t : TypeId) (vs : List Value) : Value := match P.underlying t with
  | some (.struct _) => .agg vs.toArray
  | _ => vs.headD undef

section
variable {P : Program} {w : World}

theorem okKs_take : ∀ {ks : List Tk} {xs : List D} (n : Nat), okKs ks xs = true → okKs (ks.take n) (xs.take n) = true ∧ okKs (ks.drop n) (xs.drop n) = true
  | ks, xs, 0, h => ⟨by simp [okKs], by simpa using h⟩
  | [], [], n + 1, h => by simp [okKs]
  | [], _ :: _, n + 1, h => by simp [okKs] at h
  | _ :: _, [], n + 1, h => by simp [okKs] at h
  | k :: ks, x :: xs, n + 1, h => by
    simp only [okKs, Bool.and_eq_true] at h
    obtain ⟨h1, h2⟩ := okKs_take n h.2
    simp only [List.take_succ_cons, List.drop_succ_cons, okKs, Bool.and_eq_true]
    exact ⟨⟨h.1, h1⟩, h2⟩
theorem okKs_len : ∀ {ks : List Tk} {xs : List D}, okKs ks xs = true → ks.length = xs.length
  | [], [], _ => rfl
  | [], _ :: _, h => by simp [okKs] at h
  | _ :: _, [], h => by simp [okKs] at h
  | k :: ks, x :: xs, h => by
    simp only [okKs, Bool.and_eq_true] at h
    simp [okKs_len h.2]
theorem eqL_len : ∀ {xs ys : List D} {r : Bool}, eqL xs ys = some r → xs.length = ys.length
  | [], [], _, _ => rfl
  | [], _ :: _, _, h => by simp [eqL] at h
  | _ :: _, [], _, h => by simp [eqL] at h
  | a :: x, b :: y, r, h => by
    simp only [eqL] at h
    split at h
    · rename_i p q h1 h2
      simp [eqL_len h2]
    · cases h
theorem eqL_split : ∀ {xs ys : List D} {r : Bool} (n : Nat), eqL xs ys = some r → ∃ p q, eqL (xs.take n) (ys.take n) = some p ∧ eqL (xs.drop n) (ys.drop n) = some q ∧ r = (p && q)
  | xs, ys, r, 0, h => ⟨true, r, by simp [eqL], by simpa using h, by simp⟩
  | [], [], r, n + 1, h => by
    simp [eqL] at h
    exact ⟨true, true, by simp [eqL], by simp [eqL], by simp [h]⟩
  | [], _ :: _, _, _, h => by simp [eqL] at h
  | _ :: _, [], _, _, h => by simp [eqL] at h
  | a :: x, b :: y, r, n + 1, h => by
    simp only [eqL] at h
    split at h
    · rename_i p q h1 h2
      cases h
      obtain ⟨p', q', h3, h4, h5⟩ := eqL_split n h2
      refine ⟨p && p', q', ?_, by simpa using h4, by rw [h5, Bool.and_assoc]⟩
      simp [eqL, h1, h3]
    · cases h
theorem toVL_take : ∀ {xs : List D} {vs : List Value} (n : Nat), toVL xs = some vs → toVL (xs.take n) = some (vs.take n) ∧ toVL (xs.drop n) = some (vs.drop n)
  | xs, vs, 0, h => ⟨by simp [toVL], by simpa using h⟩
  | [], vs, n + 1, h => by
    simp [toVL] at h
    subst h
    simp [toVL]
  | x :: xs, vs, n + 1, h => by
    simp only [toVL] at h
    split at h
    · rename_i v vs' h1 h2
      cases h
      obtain ⟨h3, h4⟩ := toVL_take n h2
      simp [toVL, h1, h3, h4]
    · cases h
theorem run_isAgg_of {t : TypeId} {u : TypeDesc} (h : P.underlying t = some u) : (isAgg t).run P w = .ok (aggU u) w := by
  unfold isAgg
  rw [Sem.run_bind, run_underlying h]
  cases u <;> rfl

/-- A part of a struct. -/
theorem run_partC {t : TypeId} {d off : Nat} {ks : List Tk} {i : TypeInfo} {vs : List Value} (hc : eqC P d t ks = true) (hi : P.info? t = some i) (hk : ks.length = i.size) (ho : off + i.size ≤ vs.length) :
    (part t vs.toArray off).run P w = .ok (frm P t ((vs.drop off).take i.size)) w := by
  cases d with
  | zero => cases hc
  | succ d =>
    unfold eqC at hc
    unfold part frm
    rw [Sem.run_bind]
    have one : ∀ u : TypeDesc, P.underlying t = some u → aggU u = false → i.size = 1 → (∀ fs, u ≠ .struct fs) →
      ((isAgg t).run P w).andThen (fun b => (if b then do return (Value.agg (vs.toArray.extract off (off + (← sizeOf t)))) else match vs.toArray[off]? with | some v => pure v | none => stuck "part: no such cell" : Sem Value).run P) = .ok (((vs.drop off).take i.size).headD undef) w := by
      intro u hu ha h1 _
      rw [run_isAgg_of hu, ha]
      have hlt : off < vs.length := by omega
      simp only [Result.andThen_ok, Bool.false_eq_true, if_false]
      have e1 : vs.toArray[off]? = some vs[off] := by simp [hlt]
      have e2 : ((vs.drop off).take i.size).headD undef = vs[off] := by
        rw [h1, List.drop_eq_getElem_cons hlt]
        rfl
      rw [e1, e2]
      rfl
    split at hc
    · rename_i k hu
      split at hc
      · rw [hu]
        exact one _ hu rfl (by rw [← hk]; rfl) (fun fs e => by cases e)
      · cases hc
    · rename_i hu
      split at hc
      · rw [hu]
        exact one _ hu rfl (by rw [← hk]; rfl) (fun fs e => by cases e)
      · cases hc
    · rename_i hu
      split at hc
      · rw [hu]
        exact one _ hu rfl (by rw [← hk]; rfl) (fun fs e => by cases e)
      · cases hc
    · rename_i fs hu
      rw [hu, run_isAgg_of hu]
      have hsz : (sizeOf t).run P w = .ok i.size w := by
        simp [Go.sizeOf, typeInfo, hi]
      simp only [aggU, Result.andThen_ok, if_true, Sem.run_bind, hsz, Sem.run_pure]
      congr 2
      simp [List.extract_eq_take_drop]
    · cases hc

/-- Two structs, or plain values. -/
theorem run_equalC : ∀ (d : Nat) (t : TypeId) (ks : List Tk), eqC P d t ks = true → ∀ (n : Nat), d ≤ n → ∀ (w : World) (xs ys : List D) (vs us : List Value) (r : Bool), okKs ks xs = true → okKs ks ys = true → toVL xs = some vs → toVL ys = some us → eqL xs ys = some r →
    (Op.equalIn n t (frm P t vs) (frm P t us)).run P w = .ok r w := by
  intro d
  induction d with
  | zero => intro t ks h; cases h
  | succ d ih =>
    intro t ks hc n hn w xs ys vs us r hx hy hvx hvy hr
    obtain ⟨n, rfl⟩ : ∃ m, n = m + 1 := ⟨n - 1, by omega⟩
    have hc0 := hc
    unfold eqC at hc
    split at hc
    · rename_i k hu
      split at hc
      · rename_i k'
        obtain rfl : k = k' := by simpa using hc
        have ex : ∀ {zs : List D}, okKs [.int k] zs = true → ∃ a, zs = [.int k a] := fun {zs} h => by
          have hl := okKs_len h
          match zs, h, hl with
          | [z], h, _ => cases z <;> simp [okKs, okK] at h; exact ⟨_, by rw [h]⟩
        obtain ⟨a, rfl⟩ := ex hx
        obtain ⟨b, rfl⟩ := ex hy
        simp [toVL, toV1] at hvx hvy
        subst hvx; subst hvy
        simp [eqL, eqS] at hr
        simp only [frm, hu, List.headD_cons]
        rw [run_equalIn_int w n t k k a b hu, ← hr]
        by_cases e : a = b
        · simp [e]
        · simp [e]
      · cases hc
    · rename_i hu
      split at hc
      · have ex : ∀ {zs : List D}, okKs [.bool] zs = true → ∃ a, zs = [.bool a] := fun {zs} h => by
          have hl := okKs_len h
          match zs, h, hl with
          | [z], h, _ => cases z <;> simp [okKs, okK] at h; exact ⟨_, rfl⟩
        obtain ⟨a, rfl⟩ := ex hx
        obtain ⟨b, rfl⟩ := ex hy
        simp [toVL, toV1] at hvx hvy
        subst hvx; subst hvy
        simp [eqL, eqS] at hr
        simp only [frm, hu, List.headD_cons]
        rw [run_equalIn_bool' w n t a b hu, ← hr]
      · cases hc
    · rename_i hu
      split at hc
      · have ex : ∀ {zs : List D}, okKs [.str] zs = true → ∃ a, zs = [.str a] := fun {zs} h => by
          have hl := okKs_len h
          match zs, h, hl with
          | [z], h, _ => cases z <;> simp [okKs, okK] at h; exact ⟨_, rfl⟩
        obtain ⟨a, rfl⟩ := ex hx
        obtain ⟨b, rfl⟩ := ex hy
        simp [toVL, toV1] at hvx hvy
        subst hvx; subst hvy
        simp [eqL, eqS] at hr
        simp only [frm, hu, List.headD_cons]
        rw [run_equalIn_string w n t a b hu, ← hr, ba_beq]
      · cases hc
    · rename_i fs hu
      simp only [Bool.and_eq_true, Bool.not_eq_true'] at hc
      obtain ⟨hst, hfs⟩ := hc
      have hfo : P.fieldsOf t = fs := by simp [Program.fieldsOf, hu]
      simp only [frm, hu]
      rw [run_equalIn_struct w n t vs.toArray us.toArray (by rw [hfo]; exact hu) hst, hfo]
      have key : ∀ (fl : List Field) (o : Nat) (ks : List Tk), fieldsC P (eqC P d) fl o ks = true → ∀ (xs ys : List D) (r : Bool), okKs ks xs = true → okKs ks ys = true → toVL xs = some (vs.drop o) → toVL ys = some (us.drop o) → eqL xs ys = some r → o + xs.length = vs.length → o + ys.length = us.length →
          (Op.eqFields n vs.toArray us.toArray fl).run P w = .ok r w := by
        intro fl
        induction fl with
        | nil =>
          intro o ks hk xs ys r hx hy _ _ hr _ _
          cases ks with
          | cons a b => cases hk
          | nil =>
            cases xs with
            | cons a b => simp [okKs] at hx
            | nil =>
              cases ys with
              | cons a b => simp [okKs] at hy
              | nil =>
                simp [eqL] at hr
                subst hr
                rfl
        | cons f fl ihf =>
          intro o ks hk xs ys r hx hy hvx hvy hr hlx hly
          simp only [fieldsC, Bool.and_eq_true, bne_iff_ne, ne_eq, beq_iff_eq] at hk
          obtain ⟨⟨hnm, hof⟩, hk⟩ := hk
          split at hk
          · rename_i i hi
            simp only [Bool.and_eq_true, decide_eq_true_eq] at hk
            obtain ⟨⟨hsz, hgo⟩, hrest⟩ := hk
            have lx := okKs_len hx
            have ly := okKs_len hy
            obtain ⟨x1, x2⟩ := okKs_take i.size hx
            obtain ⟨y1, y2⟩ := okKs_take i.size hy
            obtain ⟨vx1, vx2⟩ := toVL_take i.size hvx
            obtain ⟨vy1, vy2⟩ := toVL_take i.size hvy
            obtain ⟨p, q, e1, e2, rfl⟩ := eqL_split i.size hr
            simp only [Op.eqFields, if_pos hnm, Sem.run_bind, hof]
            rw [run_partC (w := w) (vs := vs) (off := o) hgo hi (by rw [List.length_take]; omega) (by omega)]
            simp only [Result.andThen_ok]
            rw [run_partC (w := w) (vs := us) (off := o) hgo hi (by rw [List.length_take]; omega) (by omega)]
            simp only [Result.andThen_ok]
            rw [ih f.type _ hgo n (by omega) w _ _ _ _ p x1 y1 vx1 vy1 e1]
            simp only [Result.andThen_ok]
            cases p with
            | false => rfl
            | true =>
              simp only [Bool.not_true, Bool.false_eq_true, if_false, Bool.true_and]
              refine ihf (o + i.size) _ hrest _ _ q x2 y2 (by rw [vx2, List.drop_drop]) (by rw [vy2, List.drop_drop]) e2 (by rw [List.length_drop]; omega) (by rw [List.length_drop]; omega)
          · cases hk
      have l1 := (toVL_get hvx).1
      have l2 := (toVL_get hvy).1
      exact key fs.toList 0 ks hfs xs ys r hx hy (by simpa using hvx) (by simpa using hvy) hr (by omega) (by omega)
    · cases hc

theorem run_checkC (e : Bool) : ∀ (d : Nat) (t : TypeId) (ks : List Tk), eqC P d t ks = true → ∀ (n : Nat), d ≤ n → ∀ (w : World) (vs : List Value), vs.length = ks.length →
    (Instr.checkKey e n t (frm P t vs)).run P w = .ok () w := by
  intro d
  induction d with
  | zero => intro t ks h; cases h
  | succ d ih =>
    intro t ks hc n hn w vs hl
    obtain ⟨n, rfl⟩ : ∃ m, n = m + 1 := ⟨n - 1, by omega⟩
    unfold eqC at hc
    unfold Instr.checkKey
    rw [Sem.run_bind]
    split at hc
    · rename_i k hu
      rw [run_underlying hu]
      rfl
    · rename_i hu
      rw [run_underlying hu]
      rfl
    · rename_i hu
      rw [run_underlying hu]
      rfl
    · rename_i fs hu
      simp only [Bool.and_eq_true, Bool.not_eq_true'] at hc
      obtain ⟨hst, hfs⟩ := hc
      rw [run_underlying hu]
      simp only [frm, hu, Result.andThen_ok]
      rw [← Array.forIn_toList]
      have key : ∀ (fl : List Field) (o : Nat) (ks : List Tk), fieldsC P (eqC P d) fl o ks = true → o + ks.length = vs.length →
          (forIn fl PUnit.unit (fun (f : Field) (_ : PUnit) => (do
            if f.name ≠ "_" then do
              let v ← part f.type vs.toArray f.offset
              Instr.checkKey e n f.type v
              pure (ForInStep.yield PUnit.unit)
            else pure (ForInStep.yield PUnit.unit) : Sem (ForInStep PUnit)))).run P w = .ok PUnit.unit w := by
        intro fl
        induction fl with
        | nil => intro o ks _ _; rfl
        | cons f fl ihf =>
          intro o ks hk hlx
          simp only [fieldsC, Bool.and_eq_true, bne_iff_ne, ne_eq, beq_iff_eq] at hk
          obtain ⟨⟨hnm, hof⟩, hk⟩ := hk
          split at hk
          · rename_i i hi
            simp only [Bool.and_eq_true, decide_eq_true_eq] at hk
            obtain ⟨⟨hsz, hgo⟩, hrest⟩ := hk
            simp only [List.forIn_cons, if_pos hnm, Sem.run_bind, hof]
            rw [run_partC (w := w) (vs := vs) (off := o) hgo hi (by rw [List.length_take]; omega) (by omega)]
            simp only [Result.andThen_ok]
            rw [ih f.type _ hgo n (by omega) w _ (by rw [List.length_take, List.length_take, List.length_drop]; omega)]
            simp only [Result.andThen_ok, Sem.run_pure]
            exact ihf (o + i.size) _ hrest (by rw [List.length_drop]; omega)
          · cases hk
      rw [Sem.run_bind, key fs.toList 0 ks hfs (by omega)]
      rfl
    · cases hc

noncomputable def isStructB (P : Program) (t : TypeId) : Bool := match P.underlying t with
  | some (.struct _) => true
  | _ => false
noncomputable def eqTChk (P : Program) (t : Nat) (ks : List Tk) : Bool := eqC P 50 t ks && isStructB P t && !P.eqGuardType P.depth t
theorem EqT.of_chk {t : Nat} {ks : List Tk} (h : eqTChk P t ks = true) : EqT P t ks := by
  simp only [eqTChk, Bool.and_eq_true, Bool.not_eq_true'] at h
  obtain ⟨⟨h1, h2⟩, h3⟩ := h
  have hf : ∀ vs : List Value, frm P t vs = .agg vs.toArray := fun vs => by
    unfold isStructB at h2
    unfold frm
    cases hu : P.underlying t with
    | none => rw [hu] at h2; cases h2
    | some u =>
      rw [hu] at h2
      cases u <;> first | rfl | cases h2
  intro w xs ys vs us r hx hy hvx hvy hr
  refine ⟨?_, fun op x y => run_eqGuard_agg w op t x y _ _ h3, fun e => ?_⟩
  · have := run_equalC 50 t ks h1 10000 (by omega) w xs ys vs us r hx hy hvx hvy hr
    rwa [hf, hf] at this
  · have := run_checkC e 50 t ks h1 10000 (by omega) w vs (by rw [(toVL_get hvx).1, okKs_len hx])
    rwa [hf] at this

noncomputable def eqsChk (P : Program) : Nat → Ly → Bool
  | _, [] => true
  | t, d :: r => (!d.eq || eqTChk P t d.ks) && eqsChk P (t + 1) r
theorem eqsChk_get : ∀ {L : Ly} {k : Nat}, eqsChk P k L = true → ∀ (t : Nat) (d : Td), L[t]? = some d → d.eq = true → eqTChk P (k + t) d.ks = true
  | [], k, _, t, d, h, _ => by simp at h
  | x :: r, k, hc, 0, d, h, he => by
    simp only [eqsChk, Bool.and_eq_true, Bool.or_eq_true, Bool.not_eq_true'] at hc
    simp at h
    subst h
    rcases hc.1 with h1 | h1
    · rw [he] at h1; cases h1
    · exact h1
  | x :: r, k, hc, t + 1, d, h, he => by
    simp only [eqsChk, Bool.and_eq_true] at hc
    have := eqsChk_get hc.2 t d (by simpa using h) he
    rwa [show k + 1 + t = k + (t + 1) by omega] at this
theorem LyOK.of_chks {L : Ly} (hc : lyChk P 0 L = true) (he : eqsChk P 0 L = true) : LyOK P L :=
  LyOK.of_chk hc fun t d h h1 => EqT.of_chk (by have := eqsChk_get he t d h h1; rwa [Nat.zero_add] at this)
end

end Go.Lv
