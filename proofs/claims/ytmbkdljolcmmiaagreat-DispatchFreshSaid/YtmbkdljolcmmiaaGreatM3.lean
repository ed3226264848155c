/-
  Part 3 of the texts under the proof: an abstract run of loaded code on data, and what the functions do. No condition.
-/
import Derived.Test.YtmbkdljolcmmiaaGreatM2
import Derived.Laws.Strings
import Derived.Laws.Slices
import Derived.Laws.StructEq
import Derived.Laws.Small
import Derived.Laws.Cells
set_option linter.all false
set_option maxRecDepth 100000
namespace Go.Lv

noncomputable def tkOK : Tk → TypeDesc → Bool
  | .int k, .int k' => k == k'
  | .bool, .bool => true
  | .str, .string => true
  | .ptr e, .pointer e' => e == e'
  | .slice e, .slice e' => e == e'
  | .array n e, .array n' e' => n == n' && e == e'
  | .map k e, .map k' e' => k == k' && e == e'
  | .struct fs, .struct gs => fs == gs.toList.map fun f => (f.offset, f.type)
  | .func, .func _ _ _ => true
  | .other, _ => true
  | _, _ => false
noncomputable def Tk.isAgg : Tk → Bool
  | .struct _ | .array _ _ => true
  | _ => false

noncomputable def EqT (P : Program) (t : Nat) (ks : List Tk) : Prop :=
  ∀ (w : World) (xs ys : List D) (vs us : List Value) (r : Bool), okKs ks xs = true → okKs ks ys = true → toVL xs = some vs → toVL ys = some us → eqL xs ys = some r →
    (Op.equal t (.agg vs.toArray) (.agg us.toArray)).run P w = .ok r w ∧ (∀ op x y, (eqGuard op t x y (.agg vs.toArray) (.agg us.toArray)).run P w = .ok () w) ∧ ∀ e, (Instr.checkKey e 10000 t (.agg vs.toArray)).run P w = .ok () w

noncomputable def TdOK (P : Program) (t : Nat) (d : Td) : Prop :=
  ∃ i u, P.info? t = some i ∧ P.underlying t = some u ∧ tkOK d.k u = true ∧ (d.k.isAgg = false → ∀ n e, u ≠ .array n e ∧ ∀ fs, u ≠ .struct fs) ∧ i.size = d.size ∧ i.bytes = d.bytes ∧
    (d.zero.length = d.size → ∃ z, i.zero = some z ∧ dOfL z.cells.toList = some d.zero ∧ if d.k.isAgg then ∃ cs, z = .agg cs else ∀ cs, z ≠ .agg cs) ∧ (d.eq = true → EqT P t d.ks)

noncomputable def LyOK (P : Program) (L : Ly) : Prop := ∀ t d, L[t]? = some d → TdOK P t d

section
variable {P : Program} {L : Ly}
theorem tk_has {t : Nat} (h : L.tk t ≠ .other) : ∃ d, L[t]? = some d ∧ L.tk t = d.k := by
  unfold Ly.tk at *
  cases hd : L[t]? with
  | none => simp [hd] at h
  | some d => exact ⟨d, rfl, rfl⟩
theorem size_has {t : Nat} (h : 0 < L.size t) : ∃ d, L[t]? = some d ∧ L.size t = d.size := by
  unfold Ly.size at *
  cases hd : L[t]? with
  | none => simp [hd] at h
  | some d => exact ⟨d, rfl, rfl⟩
theorem LyOK.und (H : LyOK P L) {t : Nat} (h : L.tk t ≠ .other) : ∃ u, P.underlying t = some u ∧ tkOK (L.tk t) u = true := by
  obtain ⟨d, h1, h2⟩ := tk_has h
  obtain ⟨i, u, _, h3, h4, _⟩ := H t d h1
  exact ⟨u, h3, by rw [h2]; exact h4⟩
theorem LyOK.int (H : LyOK P L) {t : Nat} {k : IntKind} (h : L.tk t = .int k) : P.underlying t = some (.int k) := by
  obtain ⟨u, h1, h2⟩ := H.und (t := t) (by rw [h]; simp)
  rw [h] at h2
  cases u <;> simp [tkOK] at h2
  rw [h1, h2]
theorem LyOK.bool (H : LyOK P L) {t : Nat} (h : L.tk t = .bool) : P.underlying t = some .bool := by
  obtain ⟨u, h1, h2⟩ := H.und (t := t) (by rw [h]; simp)
  rw [h] at h2
  cases u <;> simp [tkOK] at h2
  rw [h1]
theorem LyOK.str (H : LyOK P L) {t : Nat} (h : L.tk t = .str) : P.underlying t = some .string := by
  obtain ⟨u, h1, h2⟩ := H.und (t := t) (by rw [h]; simp)
  rw [h] at h2
  cases u <;> simp [tkOK] at h2
  rw [h1]
theorem LyOK.ptr (H : LyOK P L) {t e : Nat} (h : L.tk t = .ptr e) : P.underlying t = some (.pointer e) := by
  obtain ⟨u, h1, h2⟩ := H.und (t := t) (by rw [h]; simp)
  rw [h] at h2
  cases u <;> simp [tkOK] at h2
  rw [h1, h2]
theorem LyOK.slice (H : LyOK P L) {t e : Nat} (h : L.tk t = .slice e) : P.underlying t = some (.slice e) := by
  obtain ⟨u, h1, h2⟩ := H.und (t := t) (by rw [h]; simp)
  rw [h] at h2
  cases u <;> simp [tkOK] at h2
  rw [h1, h2]
theorem LyOK.array (H : LyOK P L) {t n e : Nat} (h : L.tk t = .array n e) : P.underlying t = some (.array n e) := by
  obtain ⟨u, h1, h2⟩ := H.und (t := t) (by rw [h]; simp)
  rw [h] at h2
  cases u <;> simp [tkOK] at h2
  rw [h1, h2.1, h2.2]
theorem LyOK.map (H : LyOK P L) {t n e : Nat} (h : L.tk t = .map n e) : P.underlying t = some (.map n e) := by
  obtain ⟨u, h1, h2⟩ := H.und (t := t) (by rw [h]; simp)
  rw [h] at h2
  cases u <;> simp [tkOK] at h2
  rw [h1, h2.1, h2.2]
theorem LyOK.struct (H : LyOK P L) {t : Nat} {fs : List (Nat × Nat)} (h : L.tk t = .struct fs) : ∃ gs, P.underlying t = some (.struct gs) ∧ fs = gs.toList.map fun f => (f.offset, f.type) := by
  obtain ⟨u, h1, h2⟩ := H.und (t := t) (by rw [h]; simp)
  rw [h] at h2
  cases u <;> simp [tkOK] at h2
  exact ⟨_, h1, h2⟩

theorem LyOK.info (H : LyOK P L) {t : Nat} {d : Td} (h : L[t]? = some d) : ∃ i, P.info? t = some i ∧ i.size = d.size ∧ i.bytes = d.bytes := by
  obtain ⟨i, u, h1, _, _, _, h2, h3, _⟩ := H t d h
  exact ⟨i, h1, h2, h3⟩
theorem LyOK.sizeOf (H : LyOK P L) {t : Nat} (h : 0 < L.size t) (w : World) : (sizeOf t).run P w = .ok (L.size t) w := by
  obtain ⟨d, h1, h2⟩ := size_has h
  obtain ⟨i, h3, h4, _⟩ := H.info h1
  simp [Go.sizeOf, typeInfo, h3, h2, h4]
theorem LyOK.sizeOf' (H : LyOK P L) {t : Nat} {d : Td} (h : L[t]? = some d) (w : World) : (Go.sizeOf t).run P w = .ok (L.size t) w := by
  obtain ⟨i, h3, h4, _⟩ := H.info h
  simp [Go.sizeOf, typeInfo, h3, Ly.size, h, h4]
theorem LyOK.isAgg (H : LyOK P L) {t : Nat} {d : Td} (h : L[t]? = some d) (w : World) : (isAgg t).run P w = .ok (L.agg t) w := by
  obtain ⟨i, u, h1, h2, h3, h4, _⟩ := H t d h
  have e : L.tk t = d.k := by simp [Ly.tk, h]
  simp only [Go.isAgg, Sem.run_bind, run_underlying h2, Result.andThen_ok, Ly.agg, e]
  cases hk : d.k with
  | struct fs => rw [hk] at h3; cases u <;> simp [tkOK] at h3 ⊢
  | array n e => rw [hk] at h3; cases u <;> simp [tkOK] at h3 ⊢
  | _ =>
    have h5 := h4 (by simp [hk, Tk.isAgg])
    cases u with
    | array n e => exact absurd rfl (h5 n e).1
    | struct fs => exact absurd rfl ((h5 0 0).2 fs)
    | _ => simp
theorem LyOK.zero (H : LyOK P L) {t : Nat} {cs : List D} (h : L.zero t = some cs) (w : World) : ∃ z, (zeroValue t).run P w = .ok z w ∧ dOfL z.cells.toList = some cs ∧ cs.length = L.size t ∧ if L.agg t then ∃ zs, z = .agg zs else ∀ zs, z ≠ .agg zs := by
  unfold Ly.zero at h
  split at h
  · rename_i d hd
    split at h
    · rename_i hl
      cases h
      obtain ⟨i, u, h1, _, _, _, _, _, h2, _⟩ := H t d hd
      obtain ⟨z, h3, h4, h5⟩ := h2 hl
      refine ⟨z, by simp [zeroValue, typeInfo, h1, h3], h4, by simp [Ly.size, hd, hl], ?_⟩
      have e : L.agg t = d.k.isAgg := by simp only [Ly.agg, Ly.tk, hd]; cases d.k <;> rfl
      rw [e]
      exact h5
    · cases h
  · cases h
end

section
variable {w : World} {G : Gh} {m : Mt} {r : Root} {v : Value}
theorem inv_int {k : IntKind} {n : Int} (h : VT w G m r (.int k n) v) : v = .int k n := by
  have h' : Imm w G.be G.st (.int k n) v := h
  cases h'; rfl
theorem inv_bool {b : Bool} (h : VT w G m r (.bool b) v) : v = .bool b := by
  have h' : Imm w G.be G.st (.bool b) v := h
  cases h'; rfl
theorem inv_str {b : ByteArray} (h : VT w G m r (.str b) v) : v = .string b := by
  have h' : Imm w G.be G.st (.str b) v := h
  cases h'; rfl
theorem inv_nil (h : VT w G m r .nil v) : v = .pointer none := by
  have h' : Imm w G.be G.st .nil v := h
  cases h'; rfl
theorem inv_gptr {k off : Nat} (h : VT w G m r (.gptr k off) v) : ∃ b, G.be k = some b ∧ v = .pointer (some ⟨b, off, none⟩) := by
  have h' : Imm w G.be G.st (.gptr k off) v := h
  cases h' with | gptr _ _ b hb => exact ⟨b, hb, rfl⟩
theorem inv_nilmap (h : VT w G m r .nilmap v) : v = .map none := by
  have h' : Imm w G.be G.st .nilmap v := h
  cases h'; rfl
theorem inv_map {k : Nat} (h : VT w G m r (.map k) v) : ∃ b, G.be k = some b ∧ v = .map (some b) := by
  have h' : Imm w G.be G.st (.map k) v := h
  cases h' with | map _ b hb => exact ⟨b, hb, rfl⟩
theorem inv_fn {f : Nat} {ds : List D} (h : VT w G m r (.fn f ds) v) : ∃ vs : List Value, v = .func (.func f) #[] vs.toArray ∧ ds.length = vs.length ∧ ∀ (i : Nat) (d : D) (u : Value), ds[i]? = some d → vs[i]? = some u → Imm w G.be G.st d u := by
  have h' : Imm w G.be G.st (.fn f ds) v := h
  cases h' with | fn _ _ vs hl hi => exact ⟨vs, rfl, hl, hi⟩
theorem inv_agg {cs : List D} (h : VT w G m r (.agg cs) v) : ∃ vs : List Value, v = .agg vs.toArray ∧ vs.length = cs.length ∧ ∀ (j : Nat) (d : D) (u : Value), cs[j]? = some d → vs[j]? = some u → VC w G m ⟨r, 0, j⟩ d u := h
theorem inv_list {q : Kind} {xs : List (List D)} (h : VT w G m r (.list q xs) v) : ∃ A cap, v = .slice A xs.length cap := by
  cases q with
  | own sz =>
    rcases h with ⟨rfl, rfl⟩ | ⟨_, b, off, cap, rfl, _⟩
    · exact ⟨none, 0, rfl⟩
    · exact ⟨_, cap, rfl⟩
  | cp e p =>
    obtain ⟨A, cap, rfl, _⟩ := h
    exact ⟨A, cap, rfl⟩
  | imm =>
    rcases imm_list.1 h with ⟨rfl, a, cap, rfl⟩ | ⟨b, off, cap, sz, rfl, _⟩
    · exact ⟨a, cap, rfl⟩
    · exact ⟨_, cap, rfl⟩

theorem vc_toV1 {p : Place} {d : D} {u : Value} (hd : sclC d = true) (h : VC w G m p d u) : toV1 d = some u := by
  cases d <;> first | (simp [sclC] at hd; done) | skip
  · have h' : Imm w G.be G.st (.int _ _) u := h
    cases h'; rfl
  · have h' : Imm w G.be G.st (.bool _) u := h
    cases h'; rfl
  · have h' : Imm w G.be G.st (.str _) u := h
    cases h'; rfl
theorem toV1_vc {p : Place} {d : D} {u : Value} (h : toV1 d = some u) : VC w G m p d u := by
  cases d <;> simp [toV1] at h <;> subst h
  · exact .int _ _
  · exact .bool _
  · exact .str _
theorem toVL_of : ∀ (cs : List D) (vs : List Value), vs.length = cs.length → (∀ (j : Nat) (d : D) (u : Value), cs[j]? = some d → vs[j]? = some u → toV1 d = some u) → toVL cs = some vs
  | [], [], _, _ => rfl
  | [], _ :: _, h, _ => by simp at h
  | _ :: _, [], h, _ => by simp at h
  | c :: cs, v :: vs, h, h1 => by
    have h2 := toVL_of cs vs (by simpa using h) (fun j d u hd hu => h1 (j + 1) d u (by simpa using hd) (by simpa using hu))
    simp [toVL, h1 0 c v rfl rfl, h2]
theorem toVL_get : ∀ {cs : List D} {vs : List Value}, toVL cs = some vs → vs.length = cs.length ∧ ∀ (j : Nat) (d : D) (u : Value), cs[j]? = some d → vs[j]? = some u → toV1 d = some u
  | [], vs, h => by
    simp [toVL] at h
    subst h
    exact ⟨rfl, fun j d u h => by simp at h⟩
  | c :: cs, vs, h => by
    simp only [toVL] at h
    split at h
    · rename_i v vs' h1 h2
      cases h
      obtain ⟨h3, h4⟩ := toVL_get h2
      refine ⟨by simp [h3], fun j d u hd hu => ?_⟩
      cases j with
      | zero => simp at hd hu; subst hd; subst hu; exact h1
      | succ j => simp at hd hu; exact h4 j d u hd hu
    · cases h
theorem eqL_scl : ∀ {xs ys : List D} {r : Bool}, eqL xs ys = some r → xs.all sclC = true ∧ ys.all sclC = true
  | [], [], _, _ => ⟨rfl, rfl⟩
  | [], _ :: _, _, h => by simp [eqL] at h
  | _ :: _, [], _, h => by simp [eqL] at h
  | a :: x, b :: y, r, h => by
    simp only [eqL] at h
    split at h
    · rename_i p q h1 h2
      obtain ⟨h3, h4⟩ := eqL_scl h2
      have h5 : sclC a = true ∧ sclC b = true := by cases a <;> cases b <;> simp [eqS] at h1 <;> exact ⟨rfl, rfl⟩
      simp [h3, h4, h5.1, h5.2]
    · cases h
theorem agg_toVL {cs : List D} (hs : cs.all sclC = true) (h : VT w G m r (.agg cs) v) : ∃ vs : List Value, v = .agg vs.toArray ∧ toVL cs = some vs := by
  obtain ⟨vs, rfl, hl, h1⟩ := h
  refine ⟨vs, rfl, toVL_of cs vs hl fun j d u hd hu => ?_⟩
  exact vc_toV1 (List.all_eq_true.1 hs d (List.mem_of_getElem? hd)) (h1 j d u hd hu)
end

section
variable {P : Program} {L : Ly} {w : World} {G : Gh} {m : Mt} {r r' : Root}
theorem LyOK.eqT (H : LyOK P L) {t : Nat} (h : L.eqt t = true) : EqT P t (L.ks t) := by
  unfold Ly.eqt at h
  split at h
  · rename_i d hd
    obtain ⟨i, u, _, _, _, _, _, _, _, h2⟩ := H t d hd
    have : L.ks t = d.ks := by simp [Ly.ks, hd]
    rw [this]
    exact h2 h
  · cases h
theorem ba_beq (a b : ByteArray) : (a.toList == b.toList) = decide (a = b) := by
  rw [ByteArray.toList_eq, ByteArray.toList_eq]
  by_cases h : a = b
  · subst h; simp
  · have : ¬ a.data.toList = b.data.toList := fun e => h (ByteArray.ext (Array.toList_inj.1 e))
    rw [beq_eq_false_iff_ne.2 this, decide_eq_false h]
theorem eqGuard_plain (op : BinOp) (t : TypeId) (xo yo : Operand) {v u : Value} (h1 : ∀ cs, v ≠ .agg cs) (h2 : v ≠ .nilIface) : (eqGuard op t xo yo v u).run P w = .ok () w := by
  unfold eqGuard
  cases v <;> first | exact absurd rfl h2 | exact absurd rfl (h1 _) | (cases op <;> rfl)
theorem isPtr_inv {y : D} {u : Value} (h : isPtr y = true) (hy : VT w G m r y u) : ∃ a, u = .pointer (some a) := by
  cases y <;> simp [isPtr] at h
  · obtain ⟨a, rfl, _⟩ := hy
    exact ⟨a, rfl⟩
  · obtain ⟨b, _, rfl⟩ := inv_gptr hy
    exact ⟨_, rfl⟩
theorem run_equal_deep (t : TypeId) (v u : Value) : (Op.equal t v u).run P w = (Op.equalIn (9999 + 1) t v u).run P w := rfl
theorem run_equalIn_ptr_nil (d : Nat) {t e : TypeId} (h : P.underlying t = some (.pointer e)) (b : Option Addr) : (Op.equalIn (d + 1) t (.pointer none) (.pointer b)).run P w = .ok b.isNone w := by
  simp [Op.equalIn, run_underlying h]
theorem run_equalIn_nil_ptr (d : Nat) {t e : TypeId} (h : P.underlying t = some (.pointer e)) (b : Addr) : (Op.equalIn (d + 1) t (.pointer (some b)) (.pointer none)).run P w = .ok false w := by
  simp [Op.equalIn, run_underlying h]
theorem run_eqD (H : LyOK P L) {t : Nat} {x y : D} {v u : Value} {q : Bool} (h : eqD L t x y = some q) (hx : VT w G m r x v) (hy : VT w G m r' y u) :
    (Op.equal t v u).run P w = .ok q w ∧ ∀ op xo yo, (eqGuard op t xo yo v u).run P w = .ok () w := by
  unfold eqD at h
  split at h
  · rename_i hk
    have hu := H.int hk
    have e1 := inv_int hx; have e2 := inv_int hy
    subst e1; subst e2
    rw [Option.ite_none_right_eq_some] at h
    obtain ⟨hkk, h⟩ := h
    cases h
    refine ⟨?_, fun op xo yo => eqGuard_plain _ _ _ _ (by simp) (by simp)⟩
    subst hkk
    rw [run_equal_deep, run_equalIn_int w 9999 t _ _ _ _ hu]
    rfl
  · rename_i hk
    have hu := H.str hk
    have e1 := inv_str hx; have e2 := inv_str hy
    subst e1; subst e2
    cases h
    refine ⟨?_, fun op xo yo => eqGuard_plain _ _ _ _ (by simp) (by simp)⟩
    rw [run_equal_deep, run_equalIn_string w 9999 t _ _ hu, ba_beq]
  · rename_i hk
    have hu := H.bool hk
    have e1 := inv_bool hx; have e2 := inv_bool hy
    subst e1; subst e2
    cases h
    refine ⟨?_, fun op xo yo => eqGuard_plain _ _ _ _ (by simp) (by simp)⟩
    rw [run_equal_deep, run_equalIn_bool w 9999 t _ _ hu]
  · rename_i hk
    have hu := H.ptr hk
    have e1 := inv_nil hx; have e2 := inv_nil hy
    subst e1; subst e2
    cases h
    refine ⟨?_, fun op xo yo => eqGuard_plain _ _ _ _ (by simp) (by simp)⟩
    rw [run_equal_deep, run_equalIn_ptr_nil 9999 hu]; rfl
  · rename_i hk _
    have hu := H.ptr hk
    rw [Option.ite_none_right_eq_some] at h
    obtain ⟨hp, h⟩ := h
    cases h
    have e1 := inv_nil hx
    obtain ⟨a, e2⟩ := isPtr_inv hp hy
    subst e1; subst e2
    refine ⟨?_, fun op xo yo => eqGuard_plain _ _ _ _ (by simp) (by simp)⟩
    rw [run_equal_deep, run_equalIn_ptr_nil 9999 hu]; rfl
  · rename_i hk _
    have hu := H.ptr hk
    rw [Option.ite_none_right_eq_some] at h
    obtain ⟨hp, h⟩ := h
    cases h
    have e1 := inv_nil hy
    obtain ⟨a, e2⟩ := isPtr_inv hp hx
    subst e1; subst e2
    refine ⟨?_, fun op xo yo => eqGuard_plain _ _ _ _ (by simp) (by simp)⟩
    rw [run_equal_deep, run_equalIn_nil_ptr 9999 hu]
  · rw [Option.ite_none_right_eq_some] at h
    obtain ⟨hc, h⟩ := h
    simp only [Bool.and_eq_true, beq_iff_eq] at hc
    obtain ⟨s1, s2⟩ := eqL_scl h
    obtain ⟨vs, rfl, h1⟩ := agg_toVL s1 hx
    obtain ⟨us, rfl, h2⟩ := agg_toVL s2 hy
    obtain ⟨e1, e2, _⟩ := H.eqT hc.1.1 w _ _ vs us q hc.1.2 hc.2 h1 h2 h
    exact ⟨e1, e2⟩
  · cases h

theorem eqD_shape {t : Nat} {x y : D} {v u : Value} {q : Bool} (h : eqD L t x y = some q) (hx : VT w G m r x v) (hy : VT w G m r' y u) :
    (∃ k a b, L.tk t = .int k ∧ ∃ k', v = .int k' a ∧ u = .int k' b ∧ q = decide (a = b)) ∨ (∃ a b, v = .string a ∧ u = .string b ∧ q = decide (a = b)) ∨ (∃ a b, v = .bool a ∧ u = .bool b) ∨ (∃ a b, v = .pointer a ∧ u = .pointer b) ∨ (∃ a b, v = .agg a ∧ u = .agg b) := by
  unfold eqD at h
  split at h
  · rename_i hk
    rw [Option.ite_none_right_eq_some] at h
    obtain ⟨rfl, h⟩ := h
    cases h
    exact .inl ⟨_, _, _, hk, _, inv_int hx, inv_int hy, rfl⟩
  · cases h
    exact .inr (.inl ⟨_, _, inv_str hx, inv_str hy, rfl⟩)
  · exact .inr (.inr (.inl ⟨_, _, inv_bool hx, inv_bool hy⟩))
  · exact .inr (.inr (.inr (.inl ⟨_, _, inv_nil hx, inv_nil hy⟩)))
  · rw [Option.ite_none_right_eq_some] at h
    obtain ⟨a, ha⟩ := isPtr_inv h.1 hy
    exact .inr (.inr (.inr (.inl ⟨_, _, inv_nil hx, ha⟩)))
  · rw [Option.ite_none_right_eq_some] at h
    obtain ⟨a, ha⟩ := isPtr_inv h.1 hx
    exact .inr (.inr (.inr (.inl ⟨_, _, ha, inv_nil hy⟩)))
  · obtain ⟨vs, hv, _⟩ := inv_agg hx
    obtain ⟨us, hu, _⟩ := inv_agg hy
    exact .inr (.inr (.inr (.inr ⟨_, _, hv, hu⟩)))
  · cases h
theorem run_binEql {t : Nat} {x y : D} {v u : Value} {q : Bool} (h : eqD L t x y = some q) (hx : VT w G m r x v) (hy : VT w G m r' y u) (hq : (Op.equal t v u).run P w = .ok q w) : (binOp .eql t v u).run P w = .ok (.bool q) w := by
  rcases eqD_shape h hx hy with ⟨k, a, b, _, k', rfl, rfl, rfl⟩ | ⟨a, b, rfl, rfl, rfl⟩ | ⟨a, b, rfl, rfl⟩ | ⟨a, b, rfl, rfl⟩ | ⟨a, b, rfl, rfl⟩
  · simp only [binOp, ne_eq, not_true, if_false]; rfl
  · rw [← ba_beq]; simp [binOp, Op.stringOp]
  all_goals simp only [binOp, Sem.run_bind, hq, Result.andThen_ok, Sem.run_pure]
theorem run_binNeq {t : Nat} {x y : D} {v u : Value} {q : Bool} (h : eqD L t x y = some q) (hx : VT w G m r x v) (hy : VT w G m r' y u) (hq : (Op.equal t v u).run P w = .ok q w) : (binOp .neq t v u).run P w = .ok (.bool !q) w := by
  rcases eqD_shape h hx hy with ⟨k, a, b, _, k', rfl, rfl, rfl⟩ | ⟨a, b, rfl, rfl, rfl⟩ | ⟨a, b, rfl, rfl⟩ | ⟨a, b, rfl, rfl⟩ | ⟨a, b, rfl, rfl⟩
  · simp only [binOp, ne_eq, not_true, if_false]; rfl
  · rw [← ba_beq]; simp [binOp, Op.stringOp]
  all_goals simp only [binOp, Sem.run_bind, hq, Result.andThen_ok, Sem.run_pure]

theorem run_binD (H : LyOK P L) {t : Nat} {op : BinOp} {x y d : D} {v u : Value} (xo yo : Operand) (h : binD L t op x y = some d) (hx : VT w G m r x v) (hy : VT w G m r' y u) :
    ∃ z, (do eqGuard op t xo yo v u; binOp op t v u : Sem Value).run P w = .ok z w ∧ VT w G m r d z ∧ hasOwn d = false := by
  unfold binD at h
  split at h
  · have e1 := inv_int hx; have e2 := inv_int hy
    subst e1; subst e2
    unfold shiftI at h
    split at h
    · cases h
    · rename_i hb
      cases h
      refine ⟨_, ?_, .int _ _, rfl⟩
      simp [eqGuard, binOp, Op.shift, hb]
  · have e1 := inv_int hx; have e2 := inv_int hy
    subst e1; subst e2
    unfold shiftI at h
    split at h
    · cases h
    · rename_i hb
      cases h
      refine ⟨_, ?_, .int _ _, rfl⟩
      simp [eqGuard, binOp, Op.shift, hb]
  · rename_i n1 n2
    have e1 := inv_int hx; have e2 := inv_int hy
    subst e1; subst e2
    rw [Option.ite_none_right_eq_some] at h
    obtain ⟨rfl, h⟩ := h
    rw [Sem.run_bind, eqGuard_plain _ _ _ _ (by simp) (by simp), Result.andThen_ok]
    cases op <;> simp only [arithI] at h <;> first
      | (cases h; exact ⟨_, by simp [binOp, Op.intArith, Op.intCmp, Op.intBits], .int _ _, rfl⟩)
      | (cases h; refine ⟨.bool _, ?_, .bool _, rfl⟩; simp only [binOp, ne_eq, not_true, if_false]; rfl)
      | (rw [Option.ite_none_left_eq_some] at h; obtain ⟨hb, h⟩ := h; cases h; exact ⟨_, by simp [binOp, Op.intDiv, hb], .int _ _, rfl⟩)
      | cases h
  · have e1 := inv_str hx; have e2 := inv_str hy
    subst e1; subst e2
    rename_i s1 s2
    rw [Option.ite_none_right_eq_some] at h
    obtain ⟨hl, h⟩ := h
    cases h
    refine ⟨_, ?_, .str _, rfl⟩
    rw [Sem.run_bind, eqGuard_plain _ _ _ _ (by simp) (by simp), Result.andThen_ok]
    have hc : ¬ ((s1.size + s2.size : Nat) : Int) > IntKind.i64.max := by
      intro hc
      simp only [IntKind.max, IntKind.signed, IntKind.bits] at hc
      simp at hc
      omega
    simp only [binOp, Op.stringOp]
    rw [if_neg hc]
    rfl
  · have e1 := inv_str hx; have e2 := inv_str hy
    subst e1; subst e2
    cases h
    refine ⟨_, ?_, .bool _, rfl⟩
    rw [Sem.run_bind, eqGuard_plain _ _ _ _ (by simp) (by simp), Result.andThen_ok, ← ba_beq]
    simp [binOp, Op.stringOp]
  · have e1 := inv_str hx; have e2 := inv_str hy
    subst e1; subst e2
    cases h
    refine ⟨_, ?_, .bool _, rfl⟩
    rw [Sem.run_bind, eqGuard_plain _ _ _ _ (by simp) (by simp), Result.andThen_ok, ← ba_beq]
    simp [binOp, Op.stringOp]
  · obtain ⟨q, hq, rfl⟩ := Option.map_eq_some_iff.1 h
    obtain ⟨h1, h2⟩ := run_eqD H hq hx hy
    refine ⟨.bool q, ?_, .bool _, rfl⟩
    rw [Sem.run_bind, h2, Result.andThen_ok, run_binEql hq hx hy h1]
  · obtain ⟨q, hq, rfl⟩ := Option.map_eq_some_iff.1 h
    obtain ⟨h1, h2⟩ := run_eqD H hq hx hy
    refine ⟨.bool !q, ?_, .bool _, rfl⟩
    rw [Sem.run_bind, h2, Result.andThen_ok, run_binNeq hq hx hy h1]
  · cases h
end

end Go.Lv

namespace Go.Lv

noncomputable def Runs (P : Program) (o : Oper) (a : Act) (w : World) (v : Value) (w' : World) : Prop :=
  (execOp a.eval o).run P w = .ok (.value v) w' ∨ ((execOp a.eval o).run P w = .ok .skip w' ∧ v = undef)
noncomputable def Yd (P : Program) (X : Ctx) (o : Oper) (a : Act) (w : World) (s' : DS) : Prop := ∃ v w' G', Runs P o a w v w' ∧ Rel X G' s' (a.put o.dst v) w'

section
variable {P : Program} {L : Ly} {X : Ctx} {G : Gh} {s s' : DS} {a : Act} {w : World} {c : FC}

theorem Rel.putO (h : Rel X G s a w) (hn : c.n = X.n) {dst : Option Nat} {d : D} {v : Value} (hp : Lv.put c dst d s = some s') (n : Nat) (hv : VT w G s.m (.air n) d v) : ∃ G', Rel X G' s' (a.put dst v) w := by
  unfold Lv.put at hp
  cases dst with
  | none => cases hp; exact ⟨G, h⟩
  | some t =>
    simp only [Option.ite_none_right_eq_some] at hp
    obtain ⟨ht, hp⟩ := hp
    cases hp
    exact h.land (n := n) (by omega) hv

noncomputable def Yd0 (P : Program) (X : Ctx) (o : Oper) (a : Act) (w : World) (s' : DS) : Prop := ∃ v G', (execOp a.eval o).run P w = .ok (.value v) w ∧ Rel X G' s' (a.put o.dst v) w
theorem Yd0.yd {o : Oper} (h : Yd0 P X o a w s') : Yd P X o a w s' := by
  obtain ⟨v, G', h1, h2⟩ := h
  exact ⟨v, w, G', .inl h1, h2⟩
theorem Yd0.put (h : Rel X G s a w) (hn : c.n = X.n) {o : Oper} {d : D} {v : Value} (hr : (execOp a.eval o).run P w = .ok (.value v) w) (hp : Lv.put c o.dst d s = some s') (n : Nat) (hv : VT w G s.m (.air n) d v) : Yd0 P X o a w s' := by
  obtain ⟨G', hG⟩ := h.putO hn hp n hv
  exact ⟨v, G', hr, hG⟩

noncomputable def lookK : Op → Bool
  | .move _ | .indexAddr _ _ _ => true
  | .call { callee := .builtin .len, .. } => true
  | _ => false
noncomputable def Takes (c : FC) (s : DS) (o : Oper) : Prop := (∃ x d0, x ∈ o.op.operands ∧ lookO s x = some d0 ∧ hasOwn d0 = true ∧ lookK o.op = false) ∨ ∃ t, o.dst = some t ∧ c.xf.contains t = true
noncomputable def Yd2 (P : Program) (c : FC) (X : Ctx) (G : Gh) (o : Oper) (s : DS) (a : Act) (w : World) (s' : DS) : Prop :=
  ∃ (v : Value) (d : D) (n : Nat), (execOp a.eval o).run P w = .ok (.value v) w ∧ ((Lv.put c o.dst d s = some s' ∧ VT w G s.m (.air n) d v) ∨ (Takes c s o ∧ ∃ G2 s2, Rel X G2 s2 a w ∧ Lv.put c o.dst d s2 = some s' ∧ VT w G2 s2.m (.air n) d v))
theorem Yd2.yd0 {o : Oper} (h : Rel X G s a w) (hn : c.n = X.n) (hy : Yd2 P c X G o s a w s') : Yd0 P X o a w s' := by
  obtain ⟨v, d, n, h1, h2 | ⟨_, G2, s2, h2, h3, h4⟩⟩ := hy
  · exact Yd0.put h hn h1 h2.1 n h2.2
  · exact Yd0.put h2 hn h1 h3 n h4
theorem Yd2.yd {o : Oper} (hy : Yd2 P c X G o s a w s') (h : Rel X G s a w) (hn : c.n = X.n) : Yd P X o a w s' := (hy.yd0 h hn).yd
theorem Yd2.put {o : Oper} {d : D} {v : Value} (hr : (execOp a.eval o).run P w = .ok (.value v) w) (hp : Lv.put c o.dst d s = some s') (n : Nat) (hv : VT w G s.m (.air n) d v) : Yd2 P c X G o s a w s' := ⟨v, d, n, hr, .inl ⟨hp, hv⟩⟩
theorem Yd2.tk {o : Oper} {d : D} {v : Value} {G2 : Gh} {s2 : DS} (hk : Takes c s o) (h : Rel X G2 s2 a w) (hr : (execOp a.eval o).run P w = .ok (.value v) w) (hp : Lv.put c o.dst d s2 = some s') (n : Nat) (hv : VT w G2 s2.m (.air n) d v) : Yd2 P c X G o s a w s' := ⟨v, d, n, hr, .inr ⟨hk, G2, s2, h, hp, hv⟩⟩
theorem Takes.own {o : Oper} {x : Operand} {d0 : D} (hm : x ∈ o.op.operands) (hx : lookO s x = some d0) (h : hasOwn d0 = true) (hk : lookK o.op = false) : Takes c s o := .inl ⟨x, d0, hm, hx, h, hk⟩

theorem Yd.put (h : Rel X G s a w) (hn : c.n = X.n) {o : Oper} {d : D} {v : Value} (hr : (execOp a.eval o).run P w = .ok (.value v) w) (hp : Lv.put c o.dst d s = some s') (n : Nat) (hv : VT w G s.m (.air n) d v) : Yd P X o a w s' := by
  obtain ⟨G', hG⟩ := h.putO hn hp n hv
  exact ⟨v, w, G', .inl hr, hG⟩

theorem op_move (h : Rel X G s a w) (hn : c.n = X.n) {o : Oper} {x : Operand} (ho : o.op = .move x) (hs : opD L c X.ro s o = some s') : Yd2 P c X G o s a w s' := by
  simp only [opD, ho] at hs
  have hr : (execOp a.eval o).run P w = .ok (.value (a.eval x)) w := by simp [execOp, ho]
  split at hs
  · cases hs
  · rename_i d hd
    split at hs
    · rename_i how
      split at hs
      · rename_i t u hu
        split at hs
        · rename_i hxf
          split at hs
          · rename_i d1 s1 ht
            obtain ⟨G1, h1, h2, _⟩ := takeO_rel h ht 0
            exact Yd2.tk (.inr ⟨u, hu, hxf⟩) h1 hr hs 0 h2
          · cases hs
        · refine Yd2.put hr hs 0 ?_
          exact VT.map _ (fun i j c u hc => VC.look (Keeps.refl _ _ _ (fun _ => True)) rfl rfl trivial hc) (h.env t d hd)
      · exact Yd2.put hr hs 0 (dOf_vt hd)
      · cases hs
    · rename_i how
      exact Yd2.put hr hs 0 (lookO_vt h hd _ (by simpa using how))

theorem op_assign (h : Rel X G s a w) (hn : c.n = X.n) {o : Oper} {x : Operand} (ho : o.op = .assign x) (hs : opD L c X.ro s o = some s') : Yd0 P X o a w s' := by
  simp only [opD, ho] at hs
  have hr : (execOp a.eval o).run P w = .ok (.value (a.eval x)) w := by simp [execOp, ho]
  split at hs
  · rename_i d s1 t ht hdst
    obtain ⟨G1, h1, h2, _⟩ := takeO_rel h ht 0
    split at hs
    · exact Yd0.put h1 hn hr hs 0 h2
    · exact Yd0.put (h1.freeze 0).1 hn hr hs 0 h2.fz
  · cases hs

theorem op_pick (h : Rel X G s a w) (hn : c.n = X.n) {o : Oper} {x y z : Operand} (ho : o.op = .pick x y z) (hs : opD L c X.ro s o = some s') : Yd2 P c X G o s a w s' := by
  simp only [opD, ho] at hs
  split at hs
  · rename_i b hb
    have e1 := inv_bool (lookO_vt h hb (.air 0) rfl)
    split at hs
    · rename_i d hd
      split at hs
      · cases hs
      · rename_i how
        have hr : (execOp a.eval o).run P w = .ok (.value (a.eval (if b then y else z))) w := by
          simp only [execOp, ho, e1, asBool]
          cases b <;> simp
        exact Yd2.put hr hs 0 (lookO_vt h hd _ (by simpa using how))
    · cases hs
  · cases hs

theorem op_nilCheck (h : Rel X G s a w) (hn : c.n = X.n) {o : Oper} {x : Operand} (ho : o.op = .nilCheck x) (hs : opD L c X.ro s o = some s') : Yd2 P c X G o s a w s' := by
  simp only [opD, ho] at hs
  have key : ∀ d, lookO s x = some d → hasOwn d = false → Lv.put c o.dst d s = some s' → ((∃ ad, a.eval x = .pointer (some ad)) ∨ ∃ f vs, a.eval x = .func (.func f) #[] vs) → Yd2 P c X G o s a w s' := by
    intro d hd how hp hv
    refine Yd2.put (v := a.eval x) ?_ hp 0 (lookO_vt h hd _ how)
    rcases hv with ⟨ad, hv⟩ | ⟨f, vs, hv⟩ <;> simp [execOp, ho, hv]
  split at hs
  · rename_i t v n hd
    have e1 := lookO_vt h hd (.air 0) rfl
    obtain ⟨ad, h1, _⟩ := e1
    exact key _ hd rfl hs (.inl ⟨ad, h1⟩)
  · rename_i k n hd
    obtain ⟨b, _, h1⟩ := inv_gptr (lookO_vt h hd (.air 0) rfl)
    exact key _ hd rfl hs (.inl ⟨_, h1⟩)
  · rename_i e p i r n hd
    obtain ⟨b, o', h1, _⟩ := lookO_vt h hd (.air 0) rfl
    exact key _ hd rfl hs (.inl ⟨_, h1⟩)
  · rename_i f cs hd
    obtain ⟨vs, h1, _⟩ := inv_fn (lookO_vt h hd (.air 0) rfl)
    exact key _ hd rfl hs (.inr ⟨_, _, h1⟩)
  · cases hs

theorem isPtr_noOwn {y : D} (h : isPtr y = true) : hasOwn y = false := by
  cases y <;> first | rfl | (simp [isPtr] at h; done)
theorem binD_noOwnArg {t : Nat} {op : BinOp} {x y d : D} (h : binD L t op x y = some d) : hasOwn x = false ∧ hasOwn y = false := by
  have e1 : ∀ {x y q}, eqD L t x y = some q → hasOwn x = false ∧ hasOwn y = false := by
    intro x y q h
    unfold eqD at h
    split at h
    · exact ⟨rfl, rfl⟩
    · exact ⟨rfl, rfl⟩
    · exact ⟨rfl, rfl⟩
    · exact ⟨rfl, rfl⟩
    · rw [Option.ite_none_right_eq_some] at h
      exact ⟨rfl, isPtr_noOwn h.1⟩
    · rw [Option.ite_none_right_eq_some] at h
      exact ⟨isPtr_noOwn h.1, rfl⟩
    · rw [Option.ite_none_right_eq_some] at h
      obtain ⟨s1, s2⟩ := eqL_scl h.2
      have key : ∀ cs : List D, cs.all sclC = true → hasOwn (.agg cs) = false := by
        intro cs hc
        refine List.any_eq_false.2 fun x hx => ?_
        have := List.all_eq_true.1 hc x hx
        cases x <;> simp [sclC, isOwn] at *
      exact ⟨key _ s1, key _ s2⟩
    · cases h
  unfold binD at h
  split at h <;> first | (cases h; done) | exact ⟨rfl, rfl⟩ | (obtain ⟨q, hq, _⟩ := Option.map_eq_some_iff.1 h; exact e1 hq)

theorem op_bin (H : LyOK P L) (h : Rel X G s a w) (hn : c.n = X.n) {o : Oper} {op : BinOp} {t t' : Nat} {x y : Operand} (ho : o.op = .binOp op t x y t') (hs : opD L c X.ro s o = some s') : Yd2 P c X G o s a w s' := by
  simp only [opD, ho] at hs
  split at hs
  · rename_i d1 d2 h1 h2
    split at hs
    · rename_i d hd
      obtain ⟨o1, o2⟩ := binD_noOwnArg hd
      obtain ⟨z, hz, hv, how⟩ := run_binD H x y hd (lookO_vt h h1 (.air 0) o1) (lookO_vt h h2 (.air 0) o2)
      refine Yd2.put (v := z) ?_ hs 0 hv
      simp only [execOp, ho, Sem.run_bind, hz, Result.andThen_ok]
      rfl
    · cases hs
  · cases hs

theorem op_un (h : Rel X G s a w) (hn : c.n = X.n) {o : Oper} {op : UnOp} {t : Nat} {x : Operand} (ho : o.op = .unOp op t x) (hs : opD L c X.ro s o = some s') : Yd2 P c X G o s a w s' := by
  simp only [opD, ho] at hs
  split at hs
  · rename_i d1 h1
    split at hs
    · rename_i d hd
      unfold unD at hd
      split at hd
      · have e1 := inv_int (lookO_vt h h1 (.air 0) rfl)
        cases hd
        refine Yd2.put ?_ hs 0 (.int _ _)
        simp [execOp, ho, e1, Op.unary, Op.intArith]
      · have e1 := inv_int (lookO_vt h h1 (.air 0) rfl)
        cases hd
        refine Yd2.put ?_ hs 0 (.int _ _)
        simp [execOp, ho, e1, Op.unary, Op.intBits]
      · have e1 := inv_bool (lookO_vt h h1 (.air 0) rfl)
        cases hd
        refine Yd2.put ?_ hs 0 (.bool _)
        simp [execOp, ho, e1, Op.unary]
      · cases hd
    · cases hs
  · cases hs

theorem lookO_any (h : Rel X G s a w) {x : Operand} {d : D} (hx : lookO s x = some d) : ∃ r, VT w G s.m r d (a.eval x) := by
  cases x with
  | tmp u => exact ⟨_, h.env u _ hx⟩
  | const v => exact ⟨.air 0, dOf_vt hx⟩
  | func f => exact ⟨.air 0, by
      simp [lookO] at hx
      subst hx
      exact .fn f [] [] rfl fun i d v h => by simp at h⟩
  | global g => cases hx

noncomputable def LsV (w : World) (G : Gh) (ys : List (List D)) (v : Value) : Prop :=
  ∃ A cap, v = .slice A ys.length cap ∧ (ys = [] ∨ ∃ b off sz, A = some ⟨b, off, none⟩ ∧ 0 < sz ∧ ys.length ≤ cap ∧ G.rd b (off + ys.length * sz) ∧ RowsAt w G.be G.st b off sz ys)

theorem OwnL.ls {p : Place} {sz : Nat} {xs : List (List D)} {v : Value} (h : OwnL w G p sz xs v) : LsV w G xs v := by
  rcases h with ⟨rfl, rfl⟩ | ⟨hz, b, off, cap, rfl, hc, ho, hf, hpl, _, hr⟩
  · exact ⟨none, 0, rfl, .inl rfl⟩
  · exact ⟨_, cap, rfl, .inr ⟨b, off, sz, rfl, hz, hc, .inr ⟨⟨p, ho⟩, by omega⟩, hr⟩⟩
theorem imm_ls {xs : List (List D)} {v : Value} (h : Imm w G.be G.st (.list .imm xs) v) : LsV w G xs v := by
  rcases imm_list.1 h with ⟨rfl, a, cap, rfl⟩ | ⟨b, off, cap, sz, rfl, h1, h2, h3, h4, h5⟩
  · exact ⟨a, cap, rfl, .inl rfl⟩
  · exact ⟨_, cap, rfl, .inr ⟨b, off, sz, rfl, h2, h3, .inl h4, h5⟩⟩

theorem VT.part {m : Mt} {r : Root} {d q : D} {v : Value} {i : Nat} (h : VT w G m r d v) (hq : partAt d i = some q) : ∃ u, VP w G m r i q u := by
  cases d with
  | tup ds =>
    obtain ⟨vs, rfl, hl, h1⟩ := h
    have hi := (List.getElem?_eq_some_iff.1 hq).1
    have hu : vs[i]? = some (vs[i]'(by omega)) := List.getElem?_eq_getElem (by omega)
    exact ⟨_, h1 i q _ hq hu⟩
  | _ =>
    simp only [partAt] at hq
    split at hq
    · rename_i hi
      subst hi
      cases hq
      rw [VT_part (by intro cs h; cases h)] at h
      exact ⟨_, h⟩
    · cases hq
theorem VP.cell {m : Mt} {r : Root} {i : Nat} {d q : D} {v : Value} {j : Nat} (h : VP w G m r i d v) (hq : cellAt d j = some q) : ∃ u, VC w G m ⟨r, i, j⟩ q u := by
  cases d with
  | agg ds =>
    obtain ⟨vs, rfl, hl, h1⟩ := h
    have hi := (List.getElem?_eq_some_iff.1 hq).1
    have hu : vs[j]? = some (vs[j]'(by omega)) := List.getElem?_eq_getElem (by omega)
    exact ⟨_, h1 j q _ hq hu⟩
  | _ =>
    simp only [cellAt] at hq
    split at hq
    · rename_i hi
      subst hi
      cases hq
      rw [VP_cell (by intro cs h; cases h)] at h
      exact ⟨_, h⟩
    · cases hq

theorem getPl_own (h : Rel X G s a w) {p : Place} {sz : Nat} {ys : List (List D)} (hp : getPl s p = some (.list (.own sz) ys)) (hr : okR X.ro p.r = true) : ∃ v, OwnL w G p sz ys v := by
  obtain ⟨r, i, j⟩ := p
  unfold getPl at hp
  cases r with
  | slot t =>
    simp only [Option.bind_eq_some_iff] at hp
    obtain ⟨d, h1, q, h2, h3⟩ := hp
    obtain ⟨u, hu⟩ := (h.env t d h1).part h2
    exact hu.cell h3
  | lbox t =>
    simp only [Option.bind_eq_some_iff] at hp
    obtain ⟨cs, h1, h2⟩ := hp
    rw [Option.ite_none_right_eq_some] at h2
    obtain ⟨rfl, h2⟩ := h2
    obtain ⟨u, _, _, h3⟩ := (h.loc t cs h1).2 j _ h2
    exact ⟨u, h3⟩
  | gbox k =>
    simp only at hp
    split at hp
    · rename_i cs hk
      rw [Option.ite_none_right_eq_some] at hp
      obtain ⟨rfl, h2⟩ := hp
      obtain ⟨b, h3, h4, h5, h6⟩ := h.sto k _ hk
      have hk' : ¬ k < X.ro := by simp [okR] at hr; omega
      simp only [ObV, hk', if_false] at h6
      obtain ⟨u, _, _, h7⟩ := h6 j _ h2
      exact ⟨u, h7⟩
    · cases hp
  | air n => cases hp

theorem atPr_own (h : Rel X G s a w) {q : Option (Place × Nat)} {ys : List (List D)} (hp : atPr s q = some ys) : ∃ p n sz v, q = some (p, n) ∧ s.m.rv p.r = n ∧ OwnL w G p sz ys v := by
  unfold atPr at hp
  split at hp
  · rename_i p n
    rw [Option.ite_none_right_eq_some] at hp
    obtain ⟨⟨h1, h2⟩, h3⟩ := hp
    split at h3
    · rename_i sz zs hz
      cases h3
      obtain ⟨v, hv⟩ := getPl_own h hz (by rw [← h.rom]; exact h2)
      exact ⟨p, n, sz, v, rfl, h1, hv⟩
    · cases h3
  · cases hp

theorem lsD_rel (h : Rel X G s a w) {r : Root} {d : D} {v : Value} {ys : List (List D)} (hv : VT w G s.m r d v) (hl : lsD s d = some ys) : LsV w G ys v := by
  unfold lsD at hl
  split at hl
  · cases hl
    have hv' : OwnL w G ⟨r, 0, 0⟩ _ _ v := hv
    exact hv'.ls
  · cases hl
    exact imm_ls hv
  · rename_i e q xs
    have hv' : CpL w G s.m e q xs v := hv
    obtain ⟨A, cap, rfl, he, h1, h2⟩ := hv'
    split at hl
    · rename_i zs hz
      rw [Option.ite_none_right_eq_some] at hl
      obtain ⟨hlen, hl⟩ := hl
      cases hl
      obtain ⟨p, n, sz, u, hq, hn, hown⟩ := atPr_own h hz
      obtain ⟨_, _, h4⟩ := h2 p n hq
      rcases h4 hn with h5 | ⟨h5, h6⟩
      · subst h5
        have : ys = [] := List.eq_nil_of_length_eq_zero hlen
        subst this
        exact ⟨A, cap, rfl, .inl rfl⟩
      · rcases hown with ⟨rfl, rfl⟩ | ⟨hz', b, off, cap', rfl, hc, ho, hf, hpl, _, hr⟩
        · have : xs = [] := List.eq_nil_of_length_eq_zero hlen.symm
          subst this
          exact ⟨A, cap, rfl, .inl rfl⟩
        · refine ⟨A, cap, by rw [hlen], .inr ⟨b, off, sz, ?_, hz', by omega, .inr ⟨⟨p, ho⟩, by omega⟩, hr⟩⟩
          rw [h5, hpl]
    · rw [Option.ite_none_right_eq_some] at hl
      obtain ⟨he', hl⟩ := hl
      cases hl
      rcases h1 he' with h3 | ⟨b, off, sz, h3, h4, h5, h6, h7⟩
      · exact ⟨A, cap, rfl, .inl h3⟩
      · exact ⟨A, cap, rfl, .inr ⟨b, off, sz, h3, h4, h5, h6, h7⟩⟩
  · cases hl

theorem rowOf_rel (h : Rel X G s a w) {r : Root} {e : Option Nat} {q : Option (Place × Nat)} {i off : Nat} {row rw' : List D} {v : Value} (hv : VT w G s.m r (.eptr e q i row off) v) (hr : rowOf s e q i row = some rw') :
    ∃ b o, v = .pointer (some ⟨b, o + off, none⟩) ∧ rw'.length = row.length ∧ ∀ c d, rw'[c]? = some d → ∃ u, w.cell? ⟨b, o + c, none⟩ = some u ∧ Imm w G.be G.st d u := by
  have hv' : EpV w G s.m e q i row off v := hv
  obtain ⟨b, o, rfl, he, h0, h1, h2⟩ := hv'
  unfold rowOf at hr
  split at hr
  · rename_i ys hys
    obtain ⟨p, n, sz, u, hq, hn, hown⟩ := atPr_own h hys
    split at hr
    · rename_i r' hr'
      rw [Option.ite_none_right_eq_some] at hr
      obtain ⟨hlen, hr⟩ := hr
      cases hr
      obtain ⟨_, _, h4⟩ := h2 p n hq
      obtain ⟨rfl, rfl⟩ := h4 hn
      rcases hown with ⟨rfl, rfl⟩ | ⟨hz', b, off', cap', rfl, hc, ho, hf, hpl, _, hrows⟩
      · simp at hr'
      · refine ⟨_, _, rfl, hlen, fun c d hd => ?_⟩
        obtain ⟨u, hu, hi⟩ := hrows.2 i c rw' d hr' hd
        refine ⟨u, ?_, hi⟩
        have hsz : row.length = sz := by rw [← hlen]; exact hrows.1 rw' (List.mem_of_getElem? hr')
        rw [hpl, hsz, Nat.add_assoc]
        exact hu
    · cases hr
  · split at hr
    · cases hr
      exact ⟨b, o, rfl, rfl, (h1 (.inl rfl)).2⟩
    · rw [Option.ite_none_right_eq_some] at hr
      obtain ⟨he', hr⟩ := hr
      cases hr
      exact ⟨b, o, rfl, rfl, (h1 (.inr (by rw [he']))).2⟩

theorem sliceL_get {α : Type} {l ds : List α} {off n : Nat} (h : sliceL l off n = some ds) : ds.length = n ∧ off + n ≤ l.length ∧ ∀ j, j < n → ds[j]? = l[off + j]? := by
  unfold sliceL at h
  rw [Option.ite_none_right_eq_some] at h
  obtain ⟨h1, h⟩ := h
  cases h
  refine ⟨by simp; omega, h1, fun j hj => ?_⟩
  rw [List.getElem?_take_of_lt hj, List.getElem?_drop]

theorem add_none (b o j : Nat) : (⟨b, o, none⟩ : Addr).add j = ⟨b, o + j, none⟩ := by
  unfold Addr.add
  split
  · rename_i h; simp [h]
  · rfl

noncomputable def srcP (s : DS) (a : D) (j : Nat) : Place := match rootOf s a with
  | some (r, off) => ⟨r, 0, off + j⟩
  | none => ⟨.air 0, 0, j⟩

theorem fz_seeC {ro k : Nat} (h : k < ro) (d : D) : seeC ro k d = fz d := by simp [seeC, h]

theorem readD_rel (h : Rel X G s a w) {r : Root} {ad : D} {v : Value} {n : Nat} {cs : List D} (hv : VT w G s.m r ad v) (hr : readD X.ro s ad n = some cs) :
    ∃ b o, v = .pointer (some ⟨b, o, none⟩) ∧ cs.length = n ∧ ∀ j d, cs[j]? = some d → ∃ u, w.cell? ⟨b, o + j, none⟩ = some u ∧ VC w G s.m (srcP s ad j) d u := by
  unfold readD at hr
  split at hr
  · rename_i t ver off
    rw [Option.ite_none_right_eq_some] at hr
    obtain ⟨h1, hr⟩ := hr
    split at hr
    · rename_i bs hbs
      obtain ⟨h2, h3, h4⟩ := sliceL_get hr
      obtain ⟨ad, rfl, _, h5⟩ := (hv : LpV G s.m t ver off v)
      rw [h5 h1]
      refine ⟨G.la t, off, rfl, h2, fun j d hd => ?_⟩
      have hj : j < n := by rw [← h2]; exact (List.getElem?_eq_some_iff.1 hd).1
      rw [h4 j hj] at hd
      obtain ⟨u, hu, _, hc⟩ := (h.loc t bs hbs).2 _ _ hd
      exact ⟨u, hu, hc⟩
    · cases hr
  · rename_i k off
    split at hr
    · rename_i bs hbs
      split at hr
      · rename_i ds hds
        cases hr
        obtain ⟨h2, h3, h4⟩ := sliceL_get hds
        obtain ⟨b, hb, rfl⟩ := inv_gptr hv
        obtain ⟨b', hb', _, _, hob⟩ := h.sto k _ hbs
        rw [hb] at hb'
        cases hb'
        refine ⟨b, off, rfl, by simpa using h2, fun j d hd => ?_⟩
        rw [List.getElem?_map] at hd
        obtain ⟨d0, hd0, rfl⟩ := Option.map_eq_some_iff.1 hd
        have hj : j < n := by rw [← h2]; exact (List.getElem?_eq_some_iff.1 hd0).1
        rw [h4 j hj] at hd0
        by_cases hk : k < X.ro
        · simp only [ObV, hk, if_true] at hob
          obtain ⟨u, hu, hi⟩ := hob _ _ hd0
          rw [fz_seeC hk]
          refine ⟨u, hu, ?_⟩
          have : isOwn (fz d0) = false := fz_own d0
          revert hi this
          generalize fz d0 = e
          intro hi ho
          cases e with
          | list q xs => cases q <;> first | exact hi | cases hi
          | _ => first | exact hi | cases hi
        · simp only [ObV, hk, if_false] at hob
          obtain ⟨u, hu, _, hc⟩ := hob _ _ hd0
          refine ⟨u, hu, ?_⟩
          simp only [seeC, hk, if_false]
          exact hc
      · cases hr
    · cases hr
  · rename_i e q i row off
    split at hr
    · rename_i row' hrow
      obtain ⟨b, o, rfl, hl, hc⟩ := rowOf_rel h hv hrow
      obtain ⟨h2, h3, h4⟩ := sliceL_get hr
      refine ⟨b, o + off, rfl, h2, fun j d hd => ?_⟩
      have hj : j < n := by rw [← h2]; exact (List.getElem?_eq_some_iff.1 hd).1
      rw [h4 j hj] at hd
      obtain ⟨u, hu, hi⟩ := hc _ _ hd
      refine ⟨u, by rw [Nat.add_assoc]; exact hu, ?_⟩
      revert hi
      generalize d = e
      intro hi
      cases e with
      | list q xs => cases q <;> first | exact hi | cases hi
      | _ => first | exact hi | cases hi
    · cases hr
  · cases hr
end

end Go.Lv

namespace Go.Lv

section
variable {P : Program} {L : Ly} {X : Ctx} {G : Gh} {s s' : DS} {a : Act} {w : World} {c : FC}

noncomputable def mkV (L : Ly) (t : Nat) (us : List Value) : Value := if L.agg t then .agg us.toArray else us.headD undef

theorem ofCells_has {t : Nat} {cs : List D} {d : D} (h : ofCells L t cs = some d) : cs.length = L.size t ∧ ∃ td, L[t]? = some td := by
  unfold ofCells at h
  rw [Option.ite_none_right_eq_some] at h
  obtain ⟨h1, h⟩ := h
  refine ⟨h1, ?_⟩
  split at h
  · rename_i ha
    unfold Ly.agg Ly.tk at ha
    cases ht : L[t]? with
    | none => simp [ht] at ha
    | some td => exact ⟨td, rfl⟩
  · split at h
    · obtain ⟨d, hd, _⟩ := size_has (L := L) (t := t) (by rw [← h1]; simp)
      exact ⟨d, hd⟩
    · cases h

theorem ofCells_vt {m : Mt} {r : Root} {t : Nat} {cs : List D} {d : D} {us : List Value} (h : ofCells L t cs = some d) (hl : us.length = cs.length) (hv : ∀ j d u, cs[j]? = some d → us[j]? = some u → VC w G m ⟨r, 0, j⟩ d u) : VT w G m r d (mkV L t us) := by
  unfold ofCells at h
  rw [Option.ite_none_right_eq_some] at h
  obtain ⟨_, h⟩ := h
  unfold mkV
  split at h
  · rename_i ha
    cases h
    rw [if_pos ha]
    exact ⟨us, rfl, hl, hv⟩
  · rename_i ha
    rw [if_neg ha]
    split at h
    · cases h
      cases us with
      | nil => simp at hl
      | cons u rest =>
        have h1 := hv 0 _ u rfl rfl
        rw [VT_part h1.plain.2, VP_cell h1.plain.1]
        exact h1
    · cases h

theorem vc_one {m : Mt} {p : Place} {d : D} {u : Value} (h : VC w G m p d u) : u.oneCell' = true := by
  have key : ∀ {d u}, Imm w G.be G.st d u → u.oneCell' = true := by
    intro d u h
    cases h <;> rfl
  cases d with
  | list q xs =>
    cases q with
    | own sz =>
      rcases h with ⟨_, rfl⟩ | ⟨_, b, off, cap, rfl, _⟩ <;> rfl
    | cp e p =>
      obtain ⟨A, cap, rfl, _⟩ := h
      rfl
    | imm => exact key h
  | lptr => obtain ⟨ad, rfl, _⟩ := h; rfl
  | eptr => obtain ⟨b, o, rfl, _⟩ := h; rfl
  | stamp => obtain ⟨n, rfl, _⟩ := h; rfl
  | dead => exact h
  | agg => exact h.elim
  | tup => exact h.elim
  | int => exact key h
  | bool => exact key h
  | str => exact key h
  | nil => exact key h
  | gptr => exact key h
  | nilmap => exact key h
  | map => exact key h
  | fn => exact key h
  | nilfn => exact key h

noncomputable def cellsAt (w : World) (b o n : Nat) : List Value := (List.range n).map fun j => (w.cell? ⟨b, o + j, none⟩).getD undef
theorem cellsAt_length (b o n : Nat) : (cellsAt w b o n).length = n := by simp [cellsAt]
theorem cellsAt_get {b o n j : Nat} (hj : j < n) {u : Value} (h : w.cell? ⟨b, o + j, none⟩ = some u) : (cellsAt w b o n)[j]? = some u := by
  simp [cellsAt, hj, h]

theorem run_loadAt (H : LyOK P L) {t b o : Nat} {td : Td} (ht : L[t]? = some td) (hc : ∀ j, j < L.size t → ∃ u, w.cell? ⟨b, o + j, none⟩ = some u) (h1 : L.agg t = false → L.size t = 1) :
    (Instr.loadAt t (.pointer (some ⟨b, o, none⟩))).run P w = .ok (mkV L t (cellsAt w b o (L.size t))) w := by
  unfold Instr.loadAt Instr.sureAddr
  simp only [Sem.run_bind, Sem.run_pure, Result.andThen_ok, loadVar, H.isAgg ht]
  cases ha : L.agg t with
  | true =>
    simp only [if_true, Sem.run_bind, H.sizeOf' ht, Result.andThen_ok]
    have := run_loadCells_list (P := P) (w := w) ⟨b, o, none⟩ (cellsAt w b o (L.size t)) (fun j v hv => by
      have hj : j < L.size t := by
        have := (List.getElem?_eq_some_iff.1 hv).1
        rwa [cellsAt_length] at this
      obtain ⟨u, hu⟩ := hc j hj
      rw [cellsAt_get hj hu] at hv
      cases hv
      rw [add_none]
      exact hu)
    rw [cellsAt_length] at this
    simp only [this, Result.andThen_ok, Sem.run_pure, mkV, ha, if_true]
  | false =>
    obtain ⟨u, hu⟩ := hc 0 (by rw [h1 ha]; omega)
    simp only [Bool.false_eq_true, if_false, mkV, ha]
    have e : (cellsAt w b o (L.size t)).headD undef = u := by
      have := cellsAt_get (w := w) (n := L.size t) (j := 0) (by rw [h1 ha]; omega) hu
      cases hl : cellsAt w b o (L.size t) with
      | nil => simp [hl] at this
      | cons x r => simp [hl] at this; simp [this]
    rw [e]
    rw [Nat.add_zero] at hu
    simp [hu]

theorem ofCells_one {t : Nat} {cs : List D} {d : D} (h : ofCells L t cs = some d) : L.agg t = false → L.size t = 1 := by
  intro ha
  unfold ofCells at h
  rw [Option.ite_none_right_eq_some] at h
  obtain ⟨h1, h⟩ := h
  simp only [ha, Bool.false_eq_true, if_false] at h
  split at h
  · rw [← h1]; rfl
  · cases h

theorem rootOf_air {ad : D} {r : Root} {off : Nat} (h : rootOf s ad = some (r, off)) : r.isAir = false := by
  unfold rootOf at h
  split at h <;> first | (cases h; rfl) | cases h

theorem op_load (H : LyOK P L) (h : Rel X G s a w) (hn : c.n = X.n) {o : Oper} {t : Nat} {x : Operand} (ho : o.op = .load t x) (hs : opD L c X.ro s o = some s')
    (hx : ∀ ad cs dst, lookO s x = some ad → readD X.ro s ad (L.size t) = some cs → cs.any isOwn = true → o.dst = some dst → c.xf.contains dst = false) : Yd2 P c X G o s a w s' := by
  simp only [opD, ho] at hs
  split at hs
  · rename_i ad had
    unfold loadD at hs
    split at hs
    · cases hs
    · rename_i cs hcs
      have hao : hasOwn ad = false := by
        unfold readD at hcs
        split at hcs <;> first | rfl | cases hcs
      obtain ⟨b, off, hv, hlen, hcell⟩ := readD_rel h (lookO_vt h had (.air 0) hao) hcs
      have hr : ∀ {cs' d}, ofCells L t cs' = some d → (execOp a.eval o).run P w = .ok (.value (mkV L t (cellsAt w b off (L.size t)))) w := by
        intro cs' d hof
        obtain ⟨_, td, ht⟩ := ofCells_has hof
        simp only [execOp, ho, hv]
        rw [Sem.run_bind, run_loadAt H ht (fun j hj => ?_) (ofCells_one hof)]
        · rfl
        · obtain ⟨u, hu, _⟩ := hcell j (cs[j]'(by omega)) (List.getElem?_eq_getElem (by omega))
          exact ⟨u, hu⟩
      have hcell' : ∀ j d u, cs[j]? = some d → (cellsAt w b off (L.size t))[j]? = some u → VC w G s.m (srcP s ad j) d u := by
        intro j d u hd hu
        obtain ⟨u', hu', hc⟩ := hcell j d hd
        have hj : j < L.size t := by rw [← hlen]; exact (List.getElem?_eq_some_iff.1 hd).1
        rw [cellsAt_get hj hu'] at hu
        cases hu
        exact hc
      split at hs
      · rename_i hown
        split at hs
        · rename_i r off' y hroot hdst
          rw [hx ad cs y had hcs hown hdst] at hs
          simp only [Bool.false_eq_true, if_false] at hs
          split at hs
          · rename_i d hof
            refine Yd2.put (hr hof) hs 0 (ofCells_vt hof ?_ fun j d u hd hu => ?_)
            · rw [mapIx_length, cellsAt_length, hlen]
            · rw [mapIx_get] at hd
              obtain ⟨d0, hd0, rfl⟩ := Option.map_eq_some_iff.1 hd
              have h1 := hcell' j d0 u hd0 hu
              simp only [srcP, hroot] at h1
              exact VC.look (Keeps.refl _ _ _ (fun _ => True)) rfl (p := ⟨r, 0, off' + j⟩) (rootOf_air hroot) trivial h1
          · cases hs
        · cases hs
      · rename_i hown
        split at hs
        · rename_i d hof
          refine Yd2.put (hr hof) hs 0 (ofCells_vt hof ?_ fun j d u hd hu => ?_)
          · rw [cellsAt_length, hlen]
          · refine (hcell' j d u hd hu).any ?_
            have := List.any_eq_false.1 (by simpa using hown) d (List.mem_of_getElem? hd)
            simpa using this
        · cases hs
  · cases hs

theorem offD_rel {r : Root} {x d : D} {v : Value} {n : Nat} (hv : VT w G s.m r x v) (hd : offD x n = some d) : ∃ ad, v = .pointer (some ad) ∧ VT w G s.m r d (.pointer (some (ad.add n))) ∧ hasOwn x = false ∧ hasOwn d = false := by
  unfold offD at hd
  split at hd
  · rename_i t ver off
    cases hd
    obtain ⟨ad, rfl, h1, h2⟩ := (hv : LpV G s.m t ver off v)
    refine ⟨ad, rfl, ⟨ad.add n, rfl, h1, fun he => ?_⟩, rfl, rfl⟩
    rw [h2 he, add_none]
  · rename_i k off
    cases hd
    obtain ⟨b, hb, rfl⟩ := inv_gptr hv
    exact ⟨_, rfl, by rw [add_none]; exact .gptr _ _ _ hb, rfl, rfl⟩
  · rename_i e p i row off
    cases hd
    obtain ⟨b, o, rfl, h1⟩ := (hv : EpV w G s.m e p i row off v)
    exact ⟨_, rfl, ⟨b, o, by rw [add_none, Nat.add_assoc], h1⟩, rfl, rfl⟩
  · cases hd

theorem op_fieldAddr (H : LyOK P L) (h : Rel X G s a w) (hn : c.n = X.n) {o : Oper} {t f : Nat} {x : Operand} (ho : o.op = .fieldAddr t x f) (hs : opD L c X.ro s o = some s') : Yd2 P c X G o s a w s' := by
  simp only [opD, ho] at hs
  split at hs
  · rename_i off u ad hf had
    rw [Option.ite_none_right_eq_some] at hs
    obtain ⟨hu, hs⟩ := hs
    split at hs
    · rename_i d hd
      have hao : hasOwn ad = false := by unfold offD at hd; split at hd <;> first | rfl | cases hd
      obtain ⟨ad', e1, h2, _, _⟩ := offD_rel (lookO_vt h had (.air 0) hao) hd
      refine Yd2.put ?_ hs 0 h2
      unfold fieldOf at hf
      split at hf
      · rename_i fs hk
        obtain ⟨gs, h3, rfl⟩ := H.struct hk
        rw [List.getElem?_map] at hf
        obtain ⟨g, hg, hg'⟩ := Option.map_eq_some_iff.1 hf
        cases hg'
        have hg2 : gs[f]? = some g := by simpa using hg
        have hsz := H.sizeOf hu w
        have hne : L.size g.type ≠ 0 := by omega
        simp [execOp, ho, e1, Instr.fieldAt, run_underlying h3, hg2, Instr.sureAddr, fieldPlace, hsz, hne]
      · cases hf
    · cases hs
  · cases hs

theorem idxD_inv {d : D} {n k : Nat} (h : idxD d n = some k) : ∃ kd, d = .int kd k ∧ k < n := by
  unfold idxD at h
  split at h
  · rename_i kd i
    rw [Option.ite_none_right_eq_some] at h
    obtain ⟨h1, h⟩ := h
    cases h
    exact ⟨kd, by rw [Int.toNat_of_nonneg h1.1], by omega⟩
  · cases h

theorem rowsAt_row {b off sz i : Nat} {ys : List (List D)} {row : List D} (h : RowsAt w G.be G.st b off sz ys) (hi : ys[i]? = some row) : row.length = sz ∧ ∀ c d, row[c]? = some d → ∃ u, w.cell? ⟨b, off + i * sz + c, none⟩ = some u ∧ Imm w G.be G.st d u :=
  ⟨h.1 row (List.mem_of_getElem? hi), fun c d hd => by
    obtain ⟨u, hu, hi'⟩ := h.2 i c row d hi hd
    exact ⟨u, by rw [Nat.add_assoc]; exact hu, hi'⟩⟩

theorem rd_down (h : Rel X G s a w) {b n n' : Nat} (hr : G.rd b n) (hn : n' ≤ n) : G.rd b n' := by
  rcases hr with hr | ⟨hp, hr⟩
  · exact .inl (h.std _ _ _ hr hn)
  · exact .inr ⟨hp, by omega⟩

theorem mul_lt {i n sz : Nat} (hi : i < n) : i * sz + sz ≤ n * sz := by
  have : (i + 1) * sz ≤ n * sz := Nat.mul_le_mul_right _ hi
  rwa [Nat.succ_mul] at this

theorem run_indexAt (H : LyOK P L) {t e : Nat} (hk : L.tk t = .slice e) (he : 0 < L.size e) {b off len cap k : Nat} {kd : IntKind} (hl : k < len) :
    (Instr.indexAt t (.slice (some ⟨b, off, none⟩) len cap) (.int kd k)).run P w = .ok (.pointer (some ⟨b, off + k * L.size e, none⟩)) w := by
  have hu := H.slice hk
  have h1 : (0 : Int) ≤ (k : Int) ∧ (k : Int) < (len : Int) := by omega
  simp only [Instr.indexAt, Sem.run_bind, asIntOf, Sem.run_pure, Result.andThen_ok, run_underlying hu]
  have hne : ((decide (len ≤ 1)) && (match (TypeDesc.slice e) with | .array .. => true | _ => false)) = false := by simp
  simp [h1, H.sizeOf he w, add_none]

theorem op_indexAddr (H : LyOK P L) (h : Rel X G s a w) (hn : c.n = X.n) {o : Oper} {t : Nat} {x y : Operand} (ho : o.op = .indexAddr t x y) (hs : opD L c X.ro s o = some s') : Yd2 P c X G o s a w s' := by
  simp only [opD, ho] at hs
  split at hs
  · rename_i d1 d2 h1 h2
    split at hs
    · rename_i d hd
      unfold indexAddrD at hd
      split at hd
      · rename_i e hk
        split at hd
        · rename_i q xs0 ys hls
          split at hd
          · rename_i k hidx
            obtain ⟨kd, rfl, hkn⟩ := idxD_inv hidx
            split at hd
            · rename_i row hrow
              rw [Option.ite_none_right_eq_some] at hd
              obtain ⟨⟨hlen, he⟩, hd⟩ := hd
              have e2 := inv_int (lookO_vt h h2 (.air 0) rfl)
              have hx' := lookO_any h h1
              obtain ⟨r, hx'⟩ := hx'
              obtain ⟨A, cap, hv, hor⟩ := lsD_rel h hx' hls
              rcases hor with rfl | ⟨b, off, sz, rfl, hz, hc, hrd, hrows⟩
              · simp at hkn
              obtain ⟨hl, hcells⟩ := rowsAt_row hrows hrow
              have hsz : sz = L.size e := by omega
              subst hsz
              have hr : (execOp a.eval o).run P w = .ok (.value (.pointer (some ⟨b, off + k * L.size e, none⟩))) w := by
                simp only [execOp, ho, hv, e2]
                rw [Sem.run_bind, run_indexAt H hk he hkn]
                rfl
              have hend : off + k * L.size e + row.length ≤ off + ys.length * L.size e := by
                have := mul_lt (sz := L.size e) hkn
                omega
              have hrd' : G.rd b (off + k * L.size e + row.length) := rd_down h hrd hend
              split at hd
              · cases hd
                refine Yd2.put hr hs 0 ⟨b, off + k * L.size e, rfl, fun n hn => (nomatch hn), fun _ => ?_, fun _ => ⟨hrd', hcells⟩, fun p n hq => (nomatch hq)⟩
                simp only [lsD] at hls
                cases hls
                have hi : Imm w G.be G.st (.list .imm xs0) (a.eval x) := hx'
                rw [hv] at hi
                rcases imm_list.1 hi with ⟨rfl, _⟩ | ⟨b', off', cap', sz', e1, q1, q2, q3, q4, q5⟩
                · simp at hkn
                · cases e1
                  have : sz' = L.size e := by rw [← q5.1 row (List.mem_of_getElem? hrow)]; exact hlen
                  subst this
                  exact h.std _ _ _ q4 hend
              · rename_i e0 p0
                cases hd
                have hi : CpL w G s.m e0 p0 xs0 (a.eval x) := hx'
                refine Yd2.put hr hs 0 ⟨b, off + k * L.size e, rfl, fun n hn => by cases hn; exact Nat.le_refl _, fun hn => (nomatch hn), fun _ => ⟨hrd', hcells⟩, fun p n hq => ?_⟩
                obtain ⟨A', cap', e1, _, _, h5⟩ := hi
                obtain ⟨h6, h7, h8⟩ := h5 p n hq
                refine ⟨h6, h7, fun hvv => ?_⟩
                rw [hv] at e1
                have e1' : (some (⟨b, off, none⟩ : Addr)) = A' ∧ ys.length = xs0.length := by
                  injection e1 with e3 e4 e5
                  exact ⟨e3, e4⟩
                rcases h8 hvv with h9 | ⟨h9, _⟩
                · exfalso
                  have e6 := e1'.2
                  rw [h9, List.length_nil] at e6
                  omega
                · rw [h9] at e1'
                  have e3 := e1'.1
                  injection e3 with e3
                  injection e3 with e4 e5
                  subst e4
                  exact ⟨rfl, by rw [← e5, hlen]⟩
              · rename_i sz0
                split at hd
                · rename_i u
                  cases hd
                  simp only [lsD] at hls
                  cases hls
                  have hi : OwnL w G ⟨.slot u, 0, 0⟩ sz0 xs0 (a.eval (.tmp u)) := h.env u _ h1
                  refine Yd2.put hr hs 0 ⟨b, off + k * L.size e, rfl, fun n hn => by cases hn; exact Nat.le_refl _, fun hn => (nomatch hn), fun _ => ⟨hrd', hcells⟩, fun p n hq => ?_⟩
                  cases hq
                  refine ⟨rfl, Nat.le_refl _, fun _ => ?_⟩
                  rcases hi with ⟨rfl, _⟩ | ⟨hz', b', off', cap', e1, _, _, _, hpl, _⟩
                  · simp at hkn
                  · rw [hv] at e1
                    cases e1
                    rw [hpl]
                    exact ⟨rfl, by rw [hlen]⟩
                · cases hd
            · cases hd
          · cases hd
        · cases hd
      · rename_i n e hk
        split at hd
        · rename_i k hidx
          obtain ⟨kd, rfl, hkn⟩ := idxD_inv hidx
          rw [Option.ite_none_right_eq_some] at hd
          obtain ⟨hsz, hd⟩ := hd
          have hao : hasOwn d1 = false := by unfold offD at hd; split at hd <;> first | rfl | cases hd
          obtain ⟨ad', e1, h3, _, _⟩ := offD_rel (lookO_vt h h1 (.air 0) hao) hd
          have e2 := inv_int (lookO_vt h h2 (.air 0) rfl)
          have hu := H.array hk
          have hb : (0 : Int) ≤ (k : Int) ∧ (k : Int) < (n : Int) := by omega
          refine Yd2.put ?_ hs 0 h3
          simp [execOp, ho, e1, e2, Instr.indexAt, asIntOf, run_underlying hu, Instr.sureAddr, hb, H.sizeOf hsz w]
          intro hc
          omega
        · cases hd
      · cases hd
    · cases hs
  · cases hs
end

end Go.Lv

namespace Go.Lv

section
variable {P : Program} {L : Ly} {X : Ctx} {G : Gh} {s s' : DS} {a : Act} {w : World} {c : FC}

theorem Rel.pull (h : Rel X G s a w) {y n : Nat} {d0 d1 : D} (f g : Place → Option Place) (hf : ∀ p q, f p = some q → p.r = .slot y) (hg : ∀ p q, g q = some p → q.r = .air n)
    (h0 : lk y s.env = some d0) (h1 : ∀ (K : Keeps w G s.m w (G.mv f g) (s.m.bS y) (fun p => f p = none ∧ g p = none)), VT w (G.mv f g) (s.m.bS y) (.slot y) d1 (a.tmps.getD y undef)) :
    Rel X (G.mv f g) { s with env := ins y d1 s.env, m := s.m.bS y } a w ∧ Keeps w G s.m w (G.mv f g) (s.m.bS y) (fun p => f p = none ∧ g p = none) := by
  have K : Keeps w G s.m w (G.mv f g) (s.m.bS y) (fun p => f p = none ∧ g p = none) :=
    mv_keeps rfl (bS_rv _ _) (fun _ => Nat.le_refl _) (Nat.le_refl _) (fun q p hq => .inl (by rw [hg p q hq]; rfl))
  have hk : ∀ p : Place, p.r ≠ .slot y → p.r.isAir = false → f p = none ∧ g p = none := by
    intro p h1 h2
    constructor
    · cases hp : f p with
      | none => rfl
      | some q => exact absurd (hf p q hp) h1
    · cases hp : g p with
      | none => rfl
      | some q => rw [hg q p hp] at h2; cases h2
  refine ⟨?_, K⟩
  refine h.re (fun b hb => mv_own_other hb) rfl rfl (fun b e he => .inl he) (mv_stow h.stow) h.std (fun u e hu => ?_) (fun u cs hu => ⟨⟨cs, hu⟩, h.locK K (fun t j => hk _ (by simp) rfl) hu⟩) rfl rfl (fun k o b hk' hb => h.stoK K (fun t j => hk _ (by simp) rfl) hk' hb)
  have hu' : lk u (ins y d1 s.env) = some e := hu
  rw [lk_ins] at hu'
  by_cases e' : u = y
  · subst e'
    simp at hu'
    subst hu'
    exact h1 K
  · simp only [e', if_false] at hu'
    exact K.vt (fun i q j c _ _ _ => hk _ (by simp [e']) rfl) (h.env u e hu')

theorem getElem?_splice {α : Type} (l ys : List α) (off : Nat) (h : off + ys.length ≤ l.length) (j : Nat) : (splice l off ys)[j]? = if off ≤ j ∧ j < off + ys.length then ys[j - off]? else l[j]? := by
  unfold splice
  by_cases h1 : j < off
  · rw [List.append_assoc, List.getElem?_append_left (by simp; omega), List.getElem?_take_of_lt h1]
    simp; omega
  · by_cases h2 : j < off + ys.length
    · rw [List.append_assoc, List.getElem?_append_right (by simp; omega)]
      have e : (l.take off).length = off := by simp; omega
      rw [e, List.getElem?_append_left (by omega)]
      rw [if_pos ⟨by omega, h2⟩]
    · rw [List.getElem?_append_right (by simp; omega)]
      have e : (l.take off ++ ys).length = off + ys.length := by simp; omega
      rw [e, List.getElem?_drop, if_neg (by omega)]
      congr 1
      omega
theorem length_splice {α : Type} (l ys : List α) (off : Nat) (h : off + ys.length ≤ l.length) : (splice l off ys).length = l.length := by
  simp [splice]; omega

theorem run_part (H : LyOK P L) {t off : Nat} {cs ds : List D} {d : D} {vs : List Value} (hs : sliceL cs off (L.size t) = some ds) (hd : ofCells L t ds = some d) (hl : vs.length = cs.length) (W : World) :
    (part t vs.toArray off).run P W = .ok (mkV L t ((vs.drop off).take (L.size t))) W := by
  obtain ⟨h1, td, ht⟩ := ofCells_has hd
  obtain ⟨h2, h3, h4⟩ := sliceL_get hs
  unfold Go.part
  rw [Sem.run_bind, H.isAgg ht]
  simp only [Result.andThen_ok, mkV]
  cases ha : L.agg t with
  | true =>
    simp only [if_true, Sem.run_bind, H.sizeOf' ht, Result.andThen_ok, Sem.run_pure]
    congr 2
    simp [List.extract_eq_take_drop]
  | false =>
    have h5 := ofCells_one hd ha
    have hlt : off < vs.length := by omega
    simp only [Bool.false_eq_true, if_false]
    have e1 : vs.toArray[off]? = some vs[off] := by simp [hlt]
    rw [e1]
    have e2 : ((vs.drop off).take (L.size t)).headD undef = vs[off] := by
      rw [h5, List.drop_eq_getElem_cons hlt]
      rfl
    rw [e2]
    rfl

theorem op_field (H : LyOK P L) (h : Rel X G s a w) (hn : c.n = X.n) {o : Oper} {t f : Nat} {x : Operand} (ho : o.op = .field t x f) (hs : opD L c X.ro s o = some s') : Yd2 P c X G o s a w s' := by
  simp only [opD, ho] at hs
  unfold fieldD at hs
  split at hs
  · rename_i off u cs hf hx
    split at hs
    · rename_i ds hds
      split at hs
      · rename_i d hd
        obtain ⟨h2, h3, h4⟩ := sliceL_get hds
        obtain ⟨r, hv⟩ := lookO_any h hx
        obtain ⟨vs, e1, hl, hc⟩ := inv_agg hv
        have hr : (execOp a.eval o).run P w = .ok (.value (mkV L u ((vs.drop off).take (L.size u)))) w := by
          unfold fieldOf at hf
          split at hf
          · rename_i fs hk
            obtain ⟨gs, h5, rfl⟩ := H.struct hk
            rw [List.getElem?_map] at hf
            obtain ⟨g, hg, hg'⟩ := Option.map_eq_some_iff.1 hf
            cases hg'
            have hg2 : gs[f]? = some g := by simpa using hg
            simp [execOp, ho, e1, Instr.field, run_underlying h5, hg2, asAgg, run_part H hds hd hl]
          · cases hf
        have hus : ∀ j u', ((vs.drop off).take (L.size u))[j]? = some u' → j < L.size u ∧ vs[off + j]? = some u' := by
          intro j u' hu
          have hj : j < L.size u := by
            have := (List.getElem?_eq_some_iff.1 hu).1
            simp at this; omega
          rw [List.getElem?_take_of_lt hj, List.getElem?_drop] at hu
          exact ⟨hj, hu⟩
        have hlen : ((vs.drop off).take (L.size u)).length = ds.length := by simp; omega
        split at hs
        · rename_i hown
          split at hs
          · rename_i y
            have hv' : VT w G s.m (.slot y) (.agg cs) (a.tmps.getD y undef) := h.env y _ hx
            obtain ⟨vs', e1', hl', hc'⟩ := inv_agg hv'
            have e2 : vs' = vs := by
              have : a.eval (.tmp y) = a.tmps.getD y undef := rfl
              rw [this, e1'] at e1
              injection e1 with e1
              injection e1
            subst e2
            have hp := h.pull (y := y) (n := 0) (d0 := .agg cs) (d1 := .agg (splice cs off (ds.map (leftC s.m.ep))))
              (fun p => if p.r = .slot y ∧ p.i = 0 ∧ off ≤ p.j ∧ p.j < off + L.size u then some ⟨.air 0, 0, p.j - off⟩ else none)
              (fun q => if q.r = .air 0 ∧ q.i = 0 ∧ q.j < L.size u then some ⟨.slot y, 0, off + q.j⟩ else none)
              (fun p q hp => by simp only [Option.ite_none_right_eq_some] at hp; exact hp.1.1) (fun p q hp => by simp only [Option.ite_none_right_eq_some] at hp; exact hp.1.1) hx ?_
            · obtain ⟨h5, K⟩ := hp
              refine Yd2.tk (.own (by rw [ho]; simp [Op.operands]) hx (by obtain ⟨y1, q1, q2⟩ := List.any_eq_true.1 hown; obtain ⟨j1, q3⟩ := List.mem_iff_getElem?.1 q1; obtain ⟨_, _, z3⟩ := sliceL_get hds; have hj1 := (List.getElem?_eq_some_iff.1 q3).1; rw [z3 j1 (by omega)] at q3; exact List.any_eq_true.2 ⟨y1, List.mem_of_getElem? q3, q2⟩ ) (by rw [ho]; rfl)) h5 hr hs 0 (ofCells_vt hd hlen fun j d' u' hd' hu' => ?_)
              obtain ⟨hj, hu''⟩ := hus j u' hu'
              rw [h4 j hj] at hd'
              refine VC.mv K (p := ⟨.slot y, 0, off + j⟩) ?_ ?_ (hc' (off + j) d' u' hd' hu'')
              · simp [hj]
              · simp [hj]
            · intro K
              refine ⟨vs', e1', by rw [length_splice _ _ _ (by simp; omega)]; exact hl', fun j d' u' hd' hu' => ?_⟩
              rw [getElem?_splice _ _ _ (by simp; omega)] at hd'
              split at hd'
              · rename_i hj
                rw [List.getElem?_map] at hd'
                obtain ⟨d2, hd2, rfl⟩ := Option.map_eq_some_iff.1 hd'
                have hjn : j - off < L.size u := by simp at hj; omega
                rw [h4 _ hjn] at hd2
                have : off + (j - off) = j := by omega
                rw [this] at hd2
                exact VC.left K rfl (hc' j d2 u' hd2 hu')
              · rename_i hj
                simp only [List.length_map, h2] at hj
                refine K.vc (fun _ => ⟨?_, by simp⟩) (hc' j d' u' hd' hu')
                rw [if_neg]
                rintro ⟨_, _, q1, q2⟩
                exact hj ⟨q1, q2⟩
          · cases hs
        · rename_i hown
          refine Yd2.put hr hs 0 (ofCells_vt hd hlen fun j d' u' hd' hu' => ?_)
          obtain ⟨hj, hu''⟩ := hus j u' hu'
          have hd2 := hd'
          rw [h4 j hj] at hd2
          refine (hc (off + j) d' u' hd2 hu'').any ?_
          have := List.any_eq_false.1 (by simpa using hown) d' (List.mem_of_getElem? hd')
          simpa using this
      · cases hs
    · cases hs
  · cases hs

theorem op_extract (h : Rel X G s a w) (hn : c.n = X.n) {o : Oper} {i : Nat} {x : Operand} (ho : o.op = .extract x i) (hs : opD L c X.ro s o = some s') : Yd2 P c X G o s a w s' := by
  simp only [opD, ho] at hs
  unfold extractD at hs
  split at hs
  · rename_i y ds hx
    split at hs
    · rename_i d hd
      have hv : VT w G s.m (.slot y) (.tup ds) (a.tmps.getD y undef) := h.env y _ hx
      obtain ⟨vs, e1, hl, hc⟩ := hv
      have hi := (List.getElem?_eq_some_iff.1 hd).1
      have hu : vs[i]? = some (vs[i]'(by omega)) := List.getElem?_eq_getElem (by omega)
      have e2 : a.eval (.tmp y) = .tuple vs.toArray := e1
      have hr : (execOp a.eval o).run P w = .ok (.value (vs[i]'(by omega))) w := by
        simp only [execOp, ho, e2, Instr.extract, Sem.run_bind]
        have : vs.toArray[i]? = some (vs[i]'(by omega)) := by simpa using hu
        rw [this]
        rfl
      have hp := hc i d _ hd hu
      split at hs
      · rename_i hown
        have hq := h.pull (y := y) (n := 0) (d0 := .tup ds) (d1 := .tup (ds.set i (leftTop s.m.ep d)))
          (fun p => if p.r = .slot y ∧ p.i = i then some ⟨.air 0, 0, p.j⟩ else none)
          (fun q => if q.r = .air 0 ∧ q.i = 0 then some ⟨.slot y, i, q.j⟩ else none)
          (fun p q hp => by simp only [Option.ite_none_right_eq_some] at hp; exact hp.1.1) (fun p q hp => by simp only [Option.ite_none_right_eq_some] at hp; exact hp.1.1) hx ?_
        · obtain ⟨h5, K⟩ := hq
          refine Yd2.tk (.own (by rw [ho]; simp [Op.operands]) hx (List.any_eq_true.2 ⟨d, List.mem_of_getElem? hd, by cases d with | tup es => exact hp.elim | _ => exact hown⟩) (by rw [ho]; rfl)) h5 hr hs 0 ?_
          have h6 := VP.map (r' := .air 0) (i' := 0) (fun _ c => c) (fun j c u hc => VC.mv K (p := ⟨.slot y, i, j⟩) (q := ⟨.air 0, 0, j⟩) (by simp) (by simp) hc) hp
          rw [mapAt_id] at h6
          rw [VT_part h6.notup]
          exact h6
        · intro K
          refine ⟨vs, e1, by simp [hl], fun j d' u' hd' hu' => ?_⟩
          rw [List.getElem?_set] at hd'
          split at hd'
          · rename_i hj
            subst hj
            cases hd'
            rw [hu] at hu'
            cases hu'
            have h6 := VP.map (r' := .slot y) (i' := i) (fun _ c => leftC s.m.ep c) (fun j c u hc => VC.left K rfl hc) hp
            have h7 : leftTop s.m.ep d = mapAt (fun _ c => leftC s.m.ep c) d := by
              unfold leftTop mapTop
              split
              · exact absurd rfl (hp.notup _)
              · rfl
            rw [h7]
            exact h6
          · rename_i hj
            refine K.vp (fun j' c hc' _ => ⟨?_, by simp⟩) (hc j d' u' hd' hu')
            rw [if_neg]
            rintro ⟨_, q⟩
            exact hj q.symm
      · rename_i hown
        refine Yd2.put hr hs 0 ?_
        rw [VT_part hp.notup]
        refine VP.any hp ?_
        have := hp.notup
        cases d <;> first | (simpa [hasOwn, anyTop] using hown) | exact absurd rfl (this _)
    · cases hs
  · cases hs

theorem op_index (H : LyOK P L) (h : Rel X G s a w) (hn : c.n = X.n) {o : Oper} {t : Nat} {x y : Operand} (ho : o.op = .index t x y) (hs : opD L c X.ro s o = some s') : Yd2 P c X G o s a w s' := by
  simp only [opD, ho] at hs
  split at hs
  · rename_i d1 d2 h1 h2
    split at hs
    · rename_i d hd
      unfold indexD at hd
      split at hd
      · rename_i b hk
        split at hd
        · rename_i k hidx
          obtain ⟨kd, rfl, hkn⟩ := idxD_inv hidx
          split at hd
          · rename_i ch hch
            cases hd
            have e1 := inv_str (lookO_vt h h1 (.air 0) rfl)
            have e2 := inv_int (lookO_vt h h2 (.air 0) rfl)
            refine Yd2.put ?_ hs 0 (.int _ _)
            have hu := H.str hk
            have hg : b[k]? = some ch := by
              have h3 := List.getElem?_eq_some_iff.1 hch
              obtain ⟨h4, h5⟩ := h3
              have h6 : k < b.size := hkn
              rw [show b[k]? = some b[k] from by simp [h6]]
              rw [← h5]
              rfl
            simp [execOp, ho, e1, e2, Instr.index, asIntOf, run_underlying hu, hg]
          · cases hd
        · cases hd
      · rename_i n e cs hk
        split at hd
        · rename_i k hidx
          obtain ⟨kd, rfl, hkn⟩ := idxD_inv hidx
          split at hd
          · rename_i ds hds
            rw [Option.ite_none_left_eq_some] at hd
            obtain ⟨hno, hd⟩ := hd
            obtain ⟨r, hv⟩ := lookO_any h h1
            obtain ⟨vs, e1, hl, hc⟩ := inv_agg hv
            have e2 := inv_int (lookO_vt h h2 (.air 0) rfl)
            obtain ⟨q1, q2, q3⟩ := sliceL_get hds
            obtain ⟨_, td, ht⟩ := ofCells_has hd
            have hu := H.array hk
            have hb : (0 : Int) ≤ (k : Int) ∧ (k : Int) < (n : Int) := by omega
            refine Yd2.put (v := mkV L e ((vs.drop (k * L.size e)).take (L.size e))) ?_ hs 0 (ofCells_vt hd (by simp; omega) fun j d' u' hd' hu' => ?_)
            · simp only [execOp, ho, e1, e2, Instr.index, asIntOf, Sem.run_bind, Sem.run_pure, Result.andThen_ok, run_underlying hu]
              rw [if_pos hb]
              simp [H.sizeOf' ht, run_part H hds hd hl]
            · have hj : j < L.size e := by rw [← q1]; exact (List.getElem?_eq_some_iff.1 hd').1
              have hd2 := hd'
              rw [q3 j hj] at hd2
              rw [List.getElem?_take_of_lt hj, List.getElem?_drop] at hu'
              refine (hc _ d' u' hd2 hu').any ?_
              have := List.any_eq_false.1 (by simpa using hno) d' (List.mem_of_getElem? hd')
              simpa using this
          · cases hd
        · cases hd
      · cases hd
    · cases hs
  · cases hs
end

end Go.Lv
