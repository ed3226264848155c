/-
  A5: operations that leave memory alone do on Go's values what they do on data.
-/
import Derived.Test.YtpfoccpolaggiaaA4
import Derived.Laws.Strings
import Derived.Laws.Slices
import Derived.Laws.StructEq
import Derived.Laws.Small
import Derived.Laws.Cells
set_option linter.all false
namespace Go.Lv

/-! ### The table of types is the program's -/
noncomputable def tkOK : Tk → TypeDesc → Bool
  | .int k, .int k' => k == k'
  | .bool, .bool => true
  | .str, .string => true
  | .ptr e, .pointer e' => e == e'
  | .slice e, .slice e' => e == e'
  | .array n e, .array n' e' => n == n' && e == e'
  | .map k e, .map k' e' => k == k' && e == e'
  | .struct fs, .struct gs => fs == gs.toList.map fun f => (f.offset, f.type)
  | .func, .func _ _ _ => true
  | .other, _ => true
  | _, _ => false
noncomputable def Tk.isAgg : Tk → Bool
  | .struct _ | .array _ _ => true
  | _ => false

/-- Values of a struct type are compared cell by cell. -/
noncomputable def EqT (P : Program) (t : Nat) (ks : List Tk) : Prop :=
  ∀ (w : World) (xs ys : List D) (vs us : List Value) (r : Bool), okKs ks xs = true → okKs ks ys = true → toVL xs = some vs → toVL ys = some us → eqL xs ys = some r →
    (Op.equal t (.agg vs.toArray) (.agg us.toArray)).run P w = .ok r w ∧ (∀ op x y, (eqGuard op t x y (.agg vs.toArray) (.agg us.toArray)).run P w = .ok () w) ∧ ∀ e, (Instr.checkKey e 10000 t (.agg vs.toArray)).run P w = .ok () w

noncomputable def TdOK (P : Program) (t : Nat) (d : Td) : Prop :=
  ∃ i u, P.info? t = some i ∧ P.underlying t = some u ∧ tkOK d.k u = true ∧ (d.k.isAgg = false → ∀ n e, u ≠ .array n e ∧ ∀ fs, u ≠ .struct fs) ∧ i.size = d.size ∧ i.bytes = d.bytes ∧
    (d.zero.length = d.size → ∃ z, i.zero = some z ∧ dOfL z.cells.toList = some d.zero ∧ if d.k.isAgg then ∃ cs, z = .agg cs else ∀ cs, z ≠ .agg cs) ∧ (d.eq = true → EqT P t d.ks)

noncomputable def LyOK (P : Program) (L : Ly) : Prop := ∀ t d, L[t]? = some d → TdOK P t d

section
variable {P : Program} {L : Ly}
theorem tk_has {t : Nat} (h : L.tk t ≠ .other) : ∃ d, L[t]? = some d ∧ L.tk t = d.k := by
  unfold Ly.tk at *
  cases hd : L[t]? with
  | none => simp [hd] at h
  | some d => exact ⟨d, rfl, rfl⟩
theorem size_has {t : Nat} (h : 0 < L.size t) : ∃ d, L[t]? = some d ∧ L.size t = d.size := by
  unfold Ly.size at *
  cases hd : L[t]? with
  | none => simp [hd] at h
  | some d => exact ⟨d, rfl, rfl⟩
theorem LyOK.und (H : LyOK P L) {t : Nat} (h : L.tk t ≠ .other) : ∃ u, P.underlying t = some u ∧ tkOK (L.tk t) u = true := by
  obtain ⟨d, h1, h2⟩ := tk_has h
  obtain ⟨i, u, _, h3, h4, _⟩ := H t d h1
  exact ⟨u, h3, by rw [h2]; exact h4⟩
theorem LyOK.int (H : LyOK P L) {t : Nat} {k : IntKind} (h : L.tk t = .int k) : P.underlying t = some (.int k) := by
  obtain ⟨u, h1, h2⟩ := H.und (t := t) (by rw [h]; simp)
  rw [h] at h2
  cases u <;> simp [tkOK] at h2
  rw [h1, h2]
theorem LyOK.bool (H : LyOK P L) {t : Nat} (h : L.tk t = .bool) : P.underlying t = some .bool := by
  obtain ⟨u, h1, h2⟩ := H.und (t := t) (by rw [h]; simp)
  rw [h] at h2
  cases u <;> simp [tkOK] at h2
  rw [h1]
theorem LyOK.str (H : LyOK P L) {t : Nat} (h : L.tk t = .str) : P.underlying t = some .string := by
  obtain ⟨u, h1, h2⟩ := H.und (t := t) (by rw [h]; simp)
  rw [h] at h2
  cases u <;> simp [tkOK] at h2
  rw [h1]
theorem LyOK.ptr (H : LyOK P L) {t e : Nat} (h : L.tk t = .ptr e) : P.underlying t = some (.pointer e) := by
  obtain ⟨u, h1, h2⟩ := H.und (t := t) (by rw [h]; simp)
  rw [h] at h2
  cases u <;> simp [tkOK] at h2
  rw [h1, h2]
theorem LyOK.slice (H : LyOK P L) {t e : Nat} (h : L.tk t = .slice e) : P.underlying t = some (.slice e) := by
  obtain ⟨u, h1, h2⟩ := H.und (t := t) (by rw [h]; simp)
  rw [h] at h2
  cases u <;> simp [tkOK] at h2
  rw [h1, h2]
theorem LyOK.array (H : LyOK P L) {t n e : Nat} (h : L.tk t = .array n e) : P.underlying t = some (.array n e) := by
  obtain ⟨u, h1, h2⟩ := H.und (t := t) (by rw [h]; simp)
  rw [h] at h2
  cases u <;> simp [tkOK] at h2
  rw [h1, h2.1, h2.2]
theorem LyOK.map (H : LyOK P L) {t n e : Nat} (h : L.tk t = .map n e) : P.underlying t = some (.map n e) := by
  obtain ⟨u, h1, h2⟩ := H.und (t := t) (by rw [h]; simp)
  rw [h] at h2
  cases u <;> simp [tkOK] at h2
  rw [h1, h2.1, h2.2]
theorem LyOK.struct (H : LyOK P L) {t : Nat} {fs : List (Nat × Nat)} (h : L.tk t = .struct fs) : ∃ gs, P.underlying t = some (.struct gs) ∧ fs = gs.toList.map fun f => (f.offset, f.type) := by
  obtain ⟨u, h1, h2⟩ := H.und (t := t) (by rw [h]; simp)
  rw [h] at h2
  cases u <;> simp [tkOK] at h2
  exact ⟨_, h1, h2⟩

theorem LyOK.info (H : LyOK P L) {t : Nat} {d : Td} (h : L[t]? = some d) : ∃ i, P.info? t = some i ∧ i.size = d.size ∧ i.bytes = d.bytes := by
  obtain ⟨i, u, h1, _, _, _, h2, h3, _⟩ := H t d h
  exact ⟨i, h1, h2, h3⟩
theorem LyOK.sizeOf (H : LyOK P L) {t : Nat} (h : 0 < L.size t) (w : World) : (sizeOf t).run P w = .ok (L.size t) w := by
  obtain ⟨d, h1, h2⟩ := size_has h
  obtain ⟨i, h3, h4, _⟩ := H.info h1
  simp [Go.sizeOf, typeInfo, h3, h2, h4]
theorem LyOK.sizeOf' (H : LyOK P L) {t : Nat} {d : Td} (h : L[t]? = some d) (w : World) : (Go.sizeOf t).run P w = .ok (L.size t) w := by
  obtain ⟨i, h3, h4, _⟩ := H.info h
  simp [Go.sizeOf, typeInfo, h3, Ly.size, h, h4]
theorem LyOK.isAgg (H : LyOK P L) {t : Nat} {d : Td} (h : L[t]? = some d) (w : World) : (isAgg t).run P w = .ok (L.agg t) w := by
  obtain ⟨i, u, h1, h2, h3, h4, _⟩ := H t d h
  have e : L.tk t = d.k := by simp [Ly.tk, h]
  simp only [Go.isAgg, Sem.run_bind, run_underlying h2, Result.andThen_ok, Ly.agg, e]
  cases hk : d.k with
  | struct fs => rw [hk] at h3; cases u <;> simp [tkOK] at h3 ⊢
  | array n e => rw [hk] at h3; cases u <;> simp [tkOK] at h3 ⊢
  | _ =>
    have h5 := h4 (by simp [hk, Tk.isAgg])
    cases u with
    | array n e => exact absurd rfl (h5 n e).1
    | struct fs => exact absurd rfl ((h5 0 0).2 fs)
    | _ => simp
theorem LyOK.zero (H : LyOK P L) {t : Nat} {cs : List D} (h : L.zero t = some cs) (w : World) : ∃ z, (zeroValue t).run P w = .ok z w ∧ dOfL z.cells.toList = some cs ∧ cs.length = L.size t ∧ if L.agg t then ∃ zs, z = .agg zs else ∀ zs, z ≠ .agg zs := by
  unfold Ly.zero at h
  split at h
  · rename_i d hd
    split at h
    · rename_i hl
      cases h
      obtain ⟨i, u, h1, _, _, _, _, _, h2, _⟩ := H t d hd
      obtain ⟨z, h3, h4, h5⟩ := h2 hl
      refine ⟨z, by simp [zeroValue, typeInfo, h1, h3], h4, by simp [Ly.size, hd, hl], ?_⟩
      have e : L.agg t = d.k.isAgg := by simp [Ly.agg, Ly.tk, hd, Tk.isAgg]; cases d.k <;> rfl
      rw [e]
      exact h5
    · cases h
  · cases h
end

/-! ### What values say -/
section
variable {w : World} {G : Gh} {m : Mt} {r : Root} {v : Value}
theorem inv_int {k : IntKind} {n : Int} (h : VT w G m r (.int k n) v) : v = .int k n := by
  have h' : Imm w G.be G.st (.int k n) v := h
  cases h'; rfl
theorem inv_bool {b : Bool} (h : VT w G m r (.bool b) v) : v = .bool b := by
  have h' : Imm w G.be G.st (.bool b) v := h
  cases h'; rfl
theorem inv_str {b : ByteArray} (h : VT w G m r (.str b) v) : v = .string b := by
  have h' : Imm w G.be G.st (.str b) v := h
  cases h'; rfl
theorem inv_nil (h : VT w G m r .nil v) : v = .pointer none := by
  have h' : Imm w G.be G.st .nil v := h
  cases h'; rfl
theorem inv_gptr {k off : Nat} (h : VT w G m r (.gptr k off) v) : ∃ b, G.be k = some b ∧ v = .pointer (some ⟨b, off, none⟩) := by
  have h' : Imm w G.be G.st (.gptr k off) v := h
  cases h' with | gptr _ _ b hb => exact ⟨b, hb, rfl⟩
theorem inv_nilmap (h : VT w G m r .nilmap v) : v = .map none := by
  have h' : Imm w G.be G.st .nilmap v := h
  cases h'; rfl
theorem inv_map {k : Nat} (h : VT w G m r (.map k) v) : ∃ b, G.be k = some b ∧ v = .map (some b) := by
  have h' : Imm w G.be G.st (.map k) v := h
  cases h' with | map _ b hb => exact ⟨b, hb, rfl⟩
theorem inv_fn {f : Nat} {ds : List D} (h : VT w G m r (.fn f ds) v) : ∃ vs : List Value, v = .func (.func f) #[] vs.toArray ∧ ds.length = vs.length ∧ ∀ (i : Nat) (d : D) (u : Value), ds[i]? = some d → vs[i]? = some u → Imm w G.be G.st d u := by
  have h' : Imm w G.be G.st (.fn f ds) v := h
  cases h' with | fn _ _ vs hl hi => exact ⟨vs, rfl, hl, hi⟩
theorem inv_agg {cs : List D} (h : VT w G m r (.agg cs) v) : ∃ vs : List Value, v = .agg vs.toArray ∧ vs.length = cs.length ∧ ∀ (j : Nat) (d : D) (u : Value), cs[j]? = some d → vs[j]? = some u → VC w G m ⟨r, 0, j⟩ d u := h
theorem inv_list {q : Kind} {xs : List (List D)} (h : VT w G m r (.list q xs) v) : ∃ A cap, v = .slice A xs.length cap := by
  cases q with
  | own sz =>
    rcases h with ⟨rfl, rfl⟩ | ⟨_, b, off, cap, rfl, _⟩
    · exact ⟨none, 0, rfl⟩
    · exact ⟨_, cap, rfl⟩
  | cp e p =>
    obtain ⟨A, cap, rfl, _⟩ := h
    exact ⟨A, cap, rfl⟩
  | imm =>
    rcases imm_list.1 h with ⟨rfl, a, cap, rfl⟩ | ⟨b, off, cap, sz, rfl, _⟩
    · exact ⟨a, cap, rfl⟩
    · exact ⟨_, cap, rfl⟩

theorem vc_toV1 {p : Place} {d : D} {u : Value} (hd : sclC d = true) (h : VC w G m p d u) : toV1 d = some u := by
  cases d <;> first | (simp [sclC] at hd; done) | skip
  · have h' : Imm w G.be G.st (.int _ _) u := h
    cases h'; rfl
  · have h' : Imm w G.be G.st (.bool _) u := h
    cases h'; rfl
  · have h' : Imm w G.be G.st (.str _) u := h
    cases h'; rfl
theorem toV1_vc {p : Place} {d : D} {u : Value} (h : toV1 d = some u) : VC w G m p d u := by
  cases d <;> simp [toV1] at h <;> subst h
  · exact .int _ _
  · exact .bool _
  · exact .str _
theorem toVL_of : ∀ (cs : List D) (vs : List Value), vs.length = cs.length → (∀ (j : Nat) (d : D) (u : Value), cs[j]? = some d → vs[j]? = some u → toV1 d = some u) → toVL cs = some vs
  | [], [], _, _ => rfl
  | [], _ :: _, h, _ => by simp at h
  | _ :: _, [], h, _ => by simp at h
  | c :: cs, v :: vs, h, h1 => by
    have h2 := toVL_of cs vs (by simpa using h) (fun j d u hd hu => h1 (j + 1) d u (by simpa using hd) (by simpa using hu))
    simp [toVL, h1 0 c v rfl rfl, h2]
theorem toVL_get : ∀ {cs : List D} {vs : List Value}, toVL cs = some vs → vs.length = cs.length ∧ ∀ (j : Nat) (d : D) (u : Value), cs[j]? = some d → vs[j]? = some u → toV1 d = some u
  | [], vs, h => by
    simp [toVL] at h
    subst h
    exact ⟨rfl, fun j d u h => by simp at h⟩
  | c :: cs, vs, h => by
    simp only [toVL] at h
    split at h
    · rename_i v vs' h1 h2
      cases h
      obtain ⟨h3, h4⟩ := toVL_get h2
      refine ⟨by simp [h3], fun j d u hd hu => ?_⟩
      cases j with
      | zero => simp at hd hu; subst hd; subst hu; exact h1
      | succ j => simp at hd hu; exact h4 j d u hd hu
    · cases h
theorem eqL_scl : ∀ {xs ys : List D} {r : Bool}, eqL xs ys = some r → xs.all sclC = true ∧ ys.all sclC = true
  | [], [], _, _ => ⟨rfl, rfl⟩
  | [], _ :: _, _, h => by simp [eqL] at h
  | _ :: _, [], _, h => by simp [eqL] at h
  | a :: x, b :: y, r, h => by
    simp only [eqL] at h
    split at h
    · rename_i p q h1 h2
      obtain ⟨h3, h4⟩ := eqL_scl h2
      have h5 : sclC a = true ∧ sclC b = true := by cases a <;> cases b <;> simp [eqS] at h1 <;> exact ⟨rfl, rfl⟩
      simp [h3, h4, h5.1, h5.2]
    · cases h
theorem agg_toVL {cs : List D} (hs : cs.all sclC = true) (h : VT w G m r (.agg cs) v) : ∃ vs : List Value, v = .agg vs.toArray ∧ toVL cs = some vs := by
  obtain ⟨vs, rfl, hl, h1⟩ := h
  refine ⟨vs, rfl, toVL_of cs vs hl fun j d u hd hu => ?_⟩
  exact vc_toV1 (List.all_eq_true.1 hs d (List.mem_of_getElem? hd)) (h1 j d u hd hu)
end

/-! ### Comparing, reckoning -/
section
variable {P : Program} {L : Ly} {w : World} {G : Gh} {m : Mt} {r r' : Root}
theorem LyOK.eqT (H : LyOK P L) {t : Nat} (h : L.eqt t = true) : EqT P t (L.ks t) := by
  unfold Ly.eqt at h
  split at h
  · rename_i d hd
    obtain ⟨i, u, _, _, _, _, _, _, _, h2⟩ := H t d hd
    have : L.ks t = d.ks := by simp [Ly.ks, hd]
    rw [this]
    exact h2 h
  · cases h
theorem ba_beq (a b : ByteArray) : (a.toList == b.toList) = decide (a = b) := by
  rw [ByteArray.toList_eq, ByteArray.toList_eq]
  by_cases h : a = b
  · subst h; simp
  · have : ¬ a.data.toList = b.data.toList := fun e => h (ByteArray.ext (Array.toList_inj.1 e))
    rw [beq_eq_false_iff_ne.2 this, decide_eq_false h]
theorem eqGuard_plain (op : BinOp) (t : TypeId) (xo yo : Operand) {v u : Value} (h1 : ∀ cs, v ≠ .agg cs) (h2 : v ≠ .nilIface) : (eqGuard op t xo yo v u).run P w = .ok () w := by
  unfold eqGuard
  cases v <;> first | exact absurd rfl h2 | exact absurd rfl (h1 _) | (cases op <;> rfl)
theorem isPtr_inv {y : D} {u : Value} (h : isPtr y = true) (hy : VT w G m r y u) : ∃ a, u = .pointer (some a) := by
  cases y <;> simp [isPtr] at h
  · obtain ⟨a, rfl, _⟩ := hy
    exact ⟨a, rfl⟩
  · obtain ⟨b, _, rfl⟩ := inv_gptr hy
    exact ⟨_, rfl⟩
theorem run_equal_deep (t : TypeId) (v u : Value) : (Op.equal t v u).run P w = (Op.equalIn (9999 + 1) t v u).run P w := rfl
theorem run_equalIn_ptr_nil (d : Nat) {t e : TypeId} (h : P.underlying t = some (.pointer e)) (b : Option Addr) : (Op.equalIn (d + 1) t (.pointer none) (.pointer b)).run P w = .ok b.isNone w := by
  simp [Op.equalIn, run_underlying h]
theorem run_equalIn_nil_ptr (d : Nat) {t e : TypeId} (h : P.underlying t = some (.pointer e)) (b : Addr) : (Op.equalIn (d + 1) t (.pointer (some b)) (.pointer none)).run P w = .ok false w := by
  simp [Op.equalIn, run_underlying h]
theorem run_eqD (H : LyOK P L) {t : Nat} {x y : D} {v u : Value} {q : Bool} (h : eqD L t x y = some q) (hx : VT w G m r x v) (hy : VT w G m r' y u) :
    (Op.equal t v u).run P w = .ok q w ∧ ∀ op xo yo, (eqGuard op t xo yo v u).run P w = .ok () w := by
  unfold eqD at h
  split at h
  · rename_i hk
    have hu := H.int hk
    have e1 := inv_int hx; have e2 := inv_int hy
    subst e1; subst e2
    rw [Option.ite_none_right_eq_some] at h
    obtain ⟨hkk, h⟩ := h
    cases h
    refine ⟨?_, fun op xo yo => eqGuard_plain _ _ _ _ (by simp) (by simp)⟩
    subst hkk
    rw [run_equal_deep, run_equalIn_int w 9999 t _ _ _ _ hu]
    rfl
  · rename_i hk
    have hu := H.str hk
    have e1 := inv_str hx; have e2 := inv_str hy
    subst e1; subst e2
    cases h
    refine ⟨?_, fun op xo yo => eqGuard_plain _ _ _ _ (by simp) (by simp)⟩
    rw [run_equal_deep, run_equalIn_string w 9999 t _ _ hu, ba_beq]
  · rename_i hk
    have hu := H.bool hk
    have e1 := inv_bool hx; have e2 := inv_bool hy
    subst e1; subst e2
    cases h
    refine ⟨?_, fun op xo yo => eqGuard_plain _ _ _ _ (by simp) (by simp)⟩
    rw [run_equal_deep, run_equalIn_bool w 9999 t _ _ hu]
  · rename_i hk
    have hu := H.ptr hk
    have e1 := inv_nil hx; have e2 := inv_nil hy
    subst e1; subst e2
    cases h
    refine ⟨?_, fun op xo yo => eqGuard_plain _ _ _ _ (by simp) (by simp)⟩
    rw [run_equal_deep, run_equalIn_ptr_nil 9999 hu]; rfl
  · rename_i hk _
    have hu := H.ptr hk
    rw [Option.ite_none_right_eq_some] at h
    obtain ⟨hp, h⟩ := h
    cases h
    have e1 := inv_nil hx
    obtain ⟨a, e2⟩ := isPtr_inv hp hy
    subst e1; subst e2
    refine ⟨?_, fun op xo yo => eqGuard_plain _ _ _ _ (by simp) (by simp)⟩
    rw [run_equal_deep, run_equalIn_ptr_nil 9999 hu]; rfl
  · rename_i hk _
    have hu := H.ptr hk
    rw [Option.ite_none_right_eq_some] at h
    obtain ⟨hp, h⟩ := h
    cases h
    have e1 := inv_nil hy
    obtain ⟨a, e2⟩ := isPtr_inv hp hx
    subst e1; subst e2
    refine ⟨?_, fun op xo yo => eqGuard_plain _ _ _ _ (by simp) (by simp)⟩
    rw [run_equal_deep, run_equalIn_nil_ptr 9999 hu]
  · rw [Option.ite_none_right_eq_some] at h
    obtain ⟨hc, h⟩ := h
    simp only [Bool.and_eq_true, beq_iff_eq] at hc
    obtain ⟨s1, s2⟩ := eqL_scl h
    obtain ⟨vs, rfl, h1⟩ := agg_toVL s1 hx
    obtain ⟨us, rfl, h2⟩ := agg_toVL s2 hy
    obtain ⟨e1, e2, _⟩ := H.eqT hc.1.1 w _ _ vs us q hc.1.2 hc.2 h1 h2 h
    exact ⟨e1, e2⟩
  · cases h

theorem eqD_shape {t : Nat} {x y : D} {v u : Value} {q : Bool} (h : eqD L t x y = some q) (hx : VT w G m r x v) (hy : VT w G m r' y u) :
    (∃ k a b, L.tk t = .int k ∧ ∃ k', v = .int k' a ∧ u = .int k' b ∧ q = decide (a = b)) ∨ (∃ a b, v = .string a ∧ u = .string b ∧ q = decide (a = b)) ∨ (∃ a b, v = .bool a ∧ u = .bool b) ∨ (∃ a b, v = .pointer a ∧ u = .pointer b) ∨ (∃ a b, v = .agg a ∧ u = .agg b) := by
  unfold eqD at h
  split at h
  · rename_i hk
    rw [Option.ite_none_right_eq_some] at h
    obtain ⟨rfl, h⟩ := h
    cases h
    exact .inl ⟨_, _, _, hk, _, inv_int hx, inv_int hy, rfl⟩
  · cases h
    exact .inr (.inl ⟨_, _, inv_str hx, inv_str hy, rfl⟩)
  · exact .inr (.inr (.inl ⟨_, _, inv_bool hx, inv_bool hy⟩))
  · exact .inr (.inr (.inr (.inl ⟨_, _, inv_nil hx, inv_nil hy⟩)))
  · rw [Option.ite_none_right_eq_some] at h
    obtain ⟨a, ha⟩ := isPtr_inv h.1 hy
    exact .inr (.inr (.inr (.inl ⟨_, _, inv_nil hx, ha⟩)))
  · rw [Option.ite_none_right_eq_some] at h
    obtain ⟨a, ha⟩ := isPtr_inv h.1 hx
    exact .inr (.inr (.inr (.inl ⟨_, _, ha, inv_nil hy⟩)))
  · obtain ⟨vs, hv, _⟩ := inv_agg hx
    obtain ⟨us, hu, _⟩ := inv_agg hy
    exact .inr (.inr (.inr (.inr ⟨_, _, hv, hu⟩)))
  · cases h
theorem run_binEql {t : Nat} {x y : D} {v u : Value} {q : Bool} (h : eqD L t x y = some q) (hx : VT w G m r x v) (hy : VT w G m r' y u) (hq : (Op.equal t v u).run P w = .ok q w) : (binOp .eql t v u).run P w = .ok (.bool q) w := by
  rcases eqD_shape h hx hy with ⟨k, a, b, _, k', rfl, rfl, rfl⟩ | ⟨a, b, rfl, rfl, rfl⟩ | ⟨a, b, rfl, rfl⟩ | ⟨a, b, rfl, rfl⟩ | ⟨a, b, rfl, rfl⟩
  · simp only [binOp, ne_eq, not_true, if_false]; rfl
  · rw [← ba_beq]; simp [binOp, Op.stringOp]
  all_goals simp only [binOp, Sem.run_bind, hq, Result.andThen_ok, Sem.run_pure]
theorem run_binNeq {t : Nat} {x y : D} {v u : Value} {q : Bool} (h : eqD L t x y = some q) (hx : VT w G m r x v) (hy : VT w G m r' y u) (hq : (Op.equal t v u).run P w = .ok q w) : (binOp .neq t v u).run P w = .ok (.bool !q) w := by
  rcases eqD_shape h hx hy with ⟨k, a, b, _, k', rfl, rfl, rfl⟩ | ⟨a, b, rfl, rfl, rfl⟩ | ⟨a, b, rfl, rfl⟩ | ⟨a, b, rfl, rfl⟩ | ⟨a, b, rfl, rfl⟩
  · simp only [binOp, ne_eq, not_true, if_false]; rfl
  · rw [← ba_beq]; simp [binOp, Op.stringOp]
  all_goals simp only [binOp, Sem.run_bind, hq, Result.andThen_ok, Sem.run_pure]

theorem run_binD (H : LyOK P L) {t : Nat} {op : BinOp} {x y d : D} {v u : Value} (xo yo : Operand) (h : binD L t op x y = some d) (hx : VT w G m r x v) (hy : VT w G m r' y u) :
    ∃ z, (do eqGuard op t xo yo v u; binOp op t v u : Sem Value).run P w = .ok z w ∧ VT w G m r d z ∧ hasOwn d = false := by
  unfold binD at h
  split at h
  · have e1 := inv_int hx; have e2 := inv_int hy
    subst e1; subst e2
    unfold shiftI at h
    split at h
    · cases h
    · rename_i hb
      cases h
      refine ⟨_, ?_, .int _ _, rfl⟩
      simp [eqGuard, binOp, Op.shift, hb]
  · have e1 := inv_int hx; have e2 := inv_int hy
    subst e1; subst e2
    unfold shiftI at h
    split at h
    · cases h
    · rename_i hb
      cases h
      refine ⟨_, ?_, .int _ _, rfl⟩
      simp [eqGuard, binOp, Op.shift, hb]
  · rename_i n1 n2
    have e1 := inv_int hx; have e2 := inv_int hy
    subst e1; subst e2
    rw [Option.ite_none_right_eq_some] at h
    obtain ⟨rfl, h⟩ := h
    rw [Sem.run_bind, eqGuard_plain _ _ _ _ (by simp) (by simp), Result.andThen_ok]
    cases op <;> simp only [arithI] at h <;> first
      | (cases h; exact ⟨_, by simp [binOp, Op.intArith, Op.intCmp, Op.intBits], .int _ _, rfl⟩)
      | (cases h; refine ⟨.bool _, ?_, .bool _, rfl⟩; simp only [binOp, ne_eq, not_true, if_false]; rfl)
      | (rw [Option.ite_none_left_eq_some] at h; obtain ⟨hb, h⟩ := h; cases h; exact ⟨_, by simp [binOp, Op.intDiv, hb], .int _ _, rfl⟩)
      | cases h
  · have e1 := inv_str hx; have e2 := inv_str hy
    subst e1; subst e2
    rename_i s1 s2
    rw [Option.ite_none_right_eq_some] at h
    obtain ⟨hl, h⟩ := h
    cases h
    refine ⟨_, ?_, .str _, rfl⟩
    rw [Sem.run_bind, eqGuard_plain _ _ _ _ (by simp) (by simp), Result.andThen_ok]
    have hc : ¬ ((s1.size + s2.size : Nat) : Int) > IntKind.i64.max := by
      intro hc
      simp only [IntKind.max, IntKind.signed, IntKind.bits] at hc
      simp at hc
      omega
    simp only [binOp, Op.stringOp]
    rw [if_neg hc]
    rfl
  · have e1 := inv_str hx; have e2 := inv_str hy
    subst e1; subst e2
    cases h
    refine ⟨_, ?_, .bool _, rfl⟩
    rw [Sem.run_bind, eqGuard_plain _ _ _ _ (by simp) (by simp), Result.andThen_ok, ← ba_beq]
    simp [binOp, Op.stringOp]
  · have e1 := inv_str hx; have e2 := inv_str hy
    subst e1; subst e2
    cases h
    refine ⟨_, ?_, .bool _, rfl⟩
    rw [Sem.run_bind, eqGuard_plain _ _ _ _ (by simp) (by simp), Result.andThen_ok, ← ba_beq]
    simp [binOp, Op.stringOp]
  · obtain ⟨q, hq, rfl⟩ := Option.map_eq_some_iff.1 h
    obtain ⟨h1, h2⟩ := run_eqD H hq hx hy
    refine ⟨.bool q, ?_, .bool _, rfl⟩
    rw [Sem.run_bind, h2, Result.andThen_ok, run_binEql hq hx hy h1]
  · obtain ⟨q, hq, rfl⟩ := Option.map_eq_some_iff.1 h
    obtain ⟨h1, h2⟩ := run_eqD H hq hx hy
    refine ⟨.bool !q, ?_, .bool _, rfl⟩
    rw [Sem.run_bind, h2, Result.andThen_ok, run_binNeq hq hx hy h1]
  · cases h
end

end Go.Lv
