/-
  Part 6 of the texts under the proof: an abstract run of loaded code on data, and what the functions do. No condition.
-/
import Derived.Test.YtmbkdljolcmmiaaGreatM5
import Derived.Laws.IdiomStrings
set_option linter.all false
set_option maxRecDepth 100000
namespace Go.Lv

section
variable {P : Program} {L : Ly} {X : Ctx} {G : Gh} {s s' : DS} {a : Act} {w w' : World} {c : FC}

theorem op_makeSlice (H : LyOK P L) (h : Rel X G s a w) (hn : c.n = X.n) {o : Oper} {t : Nat} {x y : Operand} (ho : o.op = .makeSlice t x y) (hs : opD L c X.ro s o = some s') : Yd P X o a w s' := by
  simp only [opD, ho] at hs
  split at hs
  · rename_i e hk
    split at hs
    · rename_i k1 A k2 B z h1 h2 hz
      rw [Option.ite_none_right_eq_some] at hs
      obtain ⟨⟨hA, hAB, hB, hB2, hsz⟩, hs⟩ := hs
      obtain ⟨i, zv, hi, hzv, hi2, hi3, hzc, hzl⟩ := H.zeroI hz
      obtain ⟨z1, z2⟩ := dOfL_get hzc
      have hzs : zv.cells.size = L.size e := by rw [← Array.length_toList, z1, hzl]
      obtain ⟨a1, rfl⟩ : ∃ n : Nat, A = n := ⟨A.toNat, by omega⟩
      obtain ⟨b1, rfl⟩ : ∃ n : Nat, B = n := ⟨B.toNat, by omega⟩
      have hab : a1 ≤ b1 := by omega
      have N : New w (w.alloc (.cells (zerosA zv.cells (b1 * L.size e)) e)) (.cells (zerosA zv.cells (b1 * L.size e)) e (0, 0)) := ⟨rfl, rfl, rfl, rfl⟩
      obtain ⟨G3, r3, v3, K3⟩ := h.newList N 0 (xs := List.replicate a1 (z.map fz)) (sz := L.size e) (cap := b1) hsz (by simpa using hab) (by rw [zerosA_size]; exact Nat.le_refl _) (fun o _ => by simp) (fun r hr => by
          rw [List.mem_replicate] at hr
          rw [hr.2, List.length_map, hzl]) (fun j c' r d u hr hd hu => by
          rw [List.getElem?_replicate, Option.ite_none_right_eq_some] at hr
          obtain ⟨hj, hr⟩ := hr
          cases hr
          rw [List.getElem?_map] at hd
          obtain ⟨d0, hd0, rfl⟩ := Option.map_eq_some_iff.1 hd
          have hc' : c' < L.size e := by have := (List.getElem?_eq_some_iff.1 hd0).1; omega
          have h5 := zerosA_get _ _ _ u hu (by omega)
          rw [hzs, Nat.mul_comm, Nat.mul_add_mod, Nat.mod_eq_of_lt hc'] at h5
          have h6 := z2 c' d0 u hd0 (by rw [Array.getElem?_toList]; exact h5)
          unfold dOf1 at h6
          split at h6 <;> first | (cases h6; first | exact .int _ _ | exact .bool _ | exact .str _ | exact .nil | exact .nilmap | exact .nilfn | exact .nils _ _) | simp at h6)
      simp only [Int.toNat_natCast] at hs
      obtain ⟨G4, r4⟩ := r3.putO hn hs 0 v3
      refine ⟨_, _, G4, .inl ?_, r4⟩
      have ex := inv_int (lookO_vt h h1 (.air 0) rfl)
      have ey := inv_int (lookO_vt h h2 (.air 0) rfl)
      have w1 : IntKind.i64.wrap (a1 : Int) = a1 := by simp [IntKind.wrap, IntKind.bits, IntKind.signed]; omega
      have w2 : IntKind.i64.wrap (b1 : Int) = b1 := by simp [IntKind.wrap, IntKind.bits, IntKind.signed]; omega
      have n1 : ¬ ((2 : Int) ^ 48 < (i.bytes : Int) * (b1 : Int)) := by
        rw [hi3, Int.mul_comm]; simp only [room] at hB; omega
      have n1' : ¬ ((281474976710656 : Int) < (L.bytes e : Int) * (b1 : Int)) := by
        rw [Int.mul_comm]; simp only [room] at hB; omega
      have n2 : ¬ ((a1 : Int) < 0) := by omega
      have n3 : ¬ ((b1 : Int) < 0) := by omega
      have n4 : ¬ (b1 < a1) := by omega
      rw [List.length_replicate]
      by_cases hn0 : b1 * L.size e = 0
      · have hz0 : zerosA zv.cells (b1 * L.size e) = #[] := Array.eq_empty_of_size_eq_zero (by rw [zerosA_size, hn0])
        have e1 : ∀ (f : Nat → Value), Array.map f (Array.range 0) = #[] := fun f => Array.eq_empty_of_size_eq_zero (by simp)
        simp [execOp, ho, Instr.makeSlice, run_underlying (H.slice hk), sizeOf, typeInfo, zeroValue, ex, ey, asInt, asIntOf, w1, w2, hi, hi2, hi3, hzv, n1', n2, n3, n4, hn0, newRow, e1, show zerosA zv.cells 0 = #[] from Array.eq_empty_of_size_eq_zero (zerosA_size _ _)]
      · simp [execOp, ho, Instr.makeSlice, run_underlying (H.slice hk), sizeOf, typeInfo, zeroValue, ex, ey, asInt, asIntOf, w1, w2, hi, hi2, hi3, hzv, n1', n2, n3, n4, hn0, newRow, zerosA]
    · cases hs
  · cases hs

noncomputable def Gh.nsto (G : Gh) (k b : Nat) : Gh := { G with be := gset G.be k (some b), own := gset G.own b (some (.box (.gbox k))) }

theorem Rel.nstoKeeps (h : Rel X G s a w) {o : Obj} (N : New w w' o) : Keeps w G s.m w' (G.nsto s.sto.length w.heap.size) s.m (fun _ => True) := by
  refine h.newKeeps N (fun k b hb => ?_) (fun _ _ h => h) rfl (fun _ => Nat.le_refl _) (fun _ => Nat.le_refl _) (Nat.le_refl _) (fun b hb => gset_ne _ _ (by omega)) (fun _ _ => rfl) (fun _ _ _ => rfl) (fun _ _ => rfl) (fun _ _ => rfl)
  have : k ≠ s.sto.length := by
    rintro rfl
    rw [h.be _ (Nat.le_refl _)] at hb
    cases hb
  simp only [Gh.nsto]
  rw [gset_ne _ _ this]
  exact hb

theorem Rel.newSto (h : Rel X G s a w) {o : Obj} (N : New w w' o) {ob : Ob} (hv : ObV w' (G.nsto s.sto.length w.heap.size) s.m X.ro s.sto.length w.heap.size ob) : Rel X (G.nsto s.sto.length w.heap.size) { s with sto := s.sto ++ [ob] } a w' := by
  have K := h.nstoKeeps N
  refine h.newBlock N K (fun b hb => gset_ne _ _ (by omega)) (fun e he => (h.new _ (Nat.le_refl _)).2 e he) (fun b hb => ?_) (fun _ _ h => h) h.size h.defers (fun u e hu => K.vt (fun i q j c _ _ _ => trivial) (h.env u e hu)) (fun u cs hu => ?_) (fun k ob' hk => ?_) (fun k hk => ?_) (by simp) rfl (fun k hk => gset_ne _ _ (by omega)) (fun _ _ => rfl)
  · simp only [Gh.nsto]
    rw [gset_ne _ _ (by omega)]
    exact (h.new b (by omega)).1
  · obtain ⟨h1, h2⟩ := h.loc u cs hu
    have hb := h.ownLt h1
    refine ⟨?_, K.box (fun j c _ _ => trivial) (fun j => ⟨N.cell hb j, N.frozen hb j⟩) h2⟩
    show gset G.own w.heap.size _ (G.la u) = _
    rw [gset_ne _ _ (by omega)]
    exact h1
  · have hk' : (s.sto ++ [ob])[k]? = some ob' := hk
    by_cases hlt : k < s.sto.length
    · rw [List.getElem?_append_left hlt] at hk'
      obtain ⟨b, h1, h2, h3, h4⟩ := h.sto k ob' hk'
      refine ⟨b, K.be k b h1, ?_, by rw [N.size]; omega, ?_⟩
      · show if k < X.ro then gset G.own w.heap.size _ b = _ else gset G.own w.heap.size _ b = _
        rw [gset_ne _ _ (show b ≠ w.heap.size by omega)]
        exact h2
      · cases ob' with
        | map es =>
          obtain ⟨arr, clock, q1, q2⟩ := h4
          exact ⟨arr, clock, by rw [N.old h3]; exact q1, q2⟩
        | box cs =>
          simp only [ObV] at h4 ⊢
          split <;> rename_i hr
          · simp only [hr, if_true] at h4
            intro j d hd
            obtain ⟨u, h5, h6⟩ := h4 j d hd
            exact ⟨u, by rw [N.cell h3]; exact h5, K.imm h6⟩
          · simp only [hr, if_false] at h4
            exact K.box (fun j c _ _ => trivial) (fun j => ⟨N.cell h3 j, N.frozen h3 j⟩) h4
    · have hkl : k = s.sto.length := by
        have := (List.getElem?_eq_some_iff.1 hk').1
        simp at this
        omega
      subst hkl
      rw [List.getElem?_append_right (Nat.le_refl _)] at hk'
      simp at hk'
      subst hk'
      refine ⟨w.heap.size, gset_same _ _ _, ?_, by rw [N.size]; omega, hv⟩
      rw [if_neg (by have := h.ro; omega)]
      exact gset_same _ _ _
  · have hk' : s.sto.length + 1 ≤ k := by simpa using hk
    show gset G.be s.sto.length _ k = none
    rw [gset_ne _ _ (by omega)]
    exact h.be k (by omega)

theorem op_makeMap (H : LyOK P L) (h : Rel X G s a w) (hn : c.n = X.n) {o : Oper} {t : Nat} {r : Option Operand} (ho : o.op = .makeMap t r) (hs : opD L c X.ro s o = some s') : Yd P X o a w s' := by
  simp only [opD, ho] at hs
  split at hs
  · rename_i hr
    have N : New w (w.alloc (.map #[] 0)) (.map #[] 0) := ⟨rfl, rfl, rfl, rfl⟩
    have h1 := h.newSto N (ob := .map []) ⟨#[], 0, by rw [N.at_], rfl, fun i x e hx => by simp at hx, fun i j x y hx => by simp at hx⟩
    obtain ⟨G4, r4⟩ := h1.putO (v := .map (some w.heap.size)) hn hs 0 (Imm.map _ _ (gset_same _ _ _))
    refine ⟨_, _, G4, .inl ?_, r4⟩
    cases r with
    | none => simp [execOp, ho, Instr.makeMap]
    | some x =>
      simp only at hr
      split at hr
      · rename_i k e _ n hk hx
        have ex := inv_int (lookO_vt h hx (.air 0) rfl)
        simp [execOp, ho, Instr.makeMap, run_underlying (H.map hk), ex, asInt, asIntOf]
      · cases hr
  · cases hs

theorem bytesRows_get {b : ByteArray} {j c' : Nat} {r : List D} {d : D} (hr : (bytesRows b)[j]? = some r) (hd : r[c']? = some d) : c' = 0 ∧ ∃ x : UInt8, b.data[j]? = some x ∧ d = .int .u8 (x.toNat : Int) := by
  simp only [bytesRows, List.getElem?_map] at hr
  obtain ⟨x, hx, rfl⟩ := Option.map_eq_some_iff.1 hr
  cases c' with
  | zero => simp at hd; exact ⟨rfl, x, by simpa using hx, hd.symm⟩
  | succ c' => simp at hd

theorem op_convert (H : LyOK P L) (h : Rel X G s a w) (hn : c.n = X.n) {o : Oper} {t u : Nat} {x : Operand} (ho : o.op = .convert t u x) (hs : opD L c X.ro s o = some s') : Yd P X o a w s' := by
  by_cases hnew : ∀ b, L.tk t = .str → lookO s x = some (.str b) → L.tk u = .str
  · exact (op_convert_num H h hn ho hs hnew).yd h hn
  · simp only [Classical.not_forall] at hnew
    obtain ⟨b, ht, hx, hu⟩ := hnew
    simp only [opD, ho, convertD, ht, hx] at hs
    split at hs
    · rename_i h1; cases h1
    · exact absurd ‹L.tk u = Tk.str› hu
    · exact absurd ‹L.tk u = Tk.str› hu
    · rename_i e b' _ hk h2
      cases h2
      split at hs
      · rename_i he
        have hr := run_bytes_of_string (P := P) w t u e b (H.str ht) (H.slice hk) (H.int he)
        have hge := grownCap_ge w b.size 0 e
        have hsz : (bytesRow b (grownCap w b.size 0 e)).size = grownCap w b.size 0 e := by
          simp only [bytesRow, Array.size_append, Array.size_map, Array.size_replicate]
          have : b.data.size = b.size := rfl
          omega
        have N : New w (w.drew.alloc (.cells (bytesRow b (grownCap w b.size 0 e)) e ((bytesRow b (grownCap w b.size 0 e)).size, (bytesRow b (grownCap w b.size 0 e)).size + 1))) (.cells (bytesRow b (grownCap w b.size 0 e)) e ((bytesRow b (grownCap w b.size 0 e)).size, (bytesRow b (grownCap w b.size 0 e)).size + 1)) := ⟨rfl, rfl, rfl, rfl⟩
        have hlen : (bytesRows b).length = b.size := by simp [bytesRows]
        obtain ⟨G3, r3, v3, K3⟩ := h.newList N 0 (xs := bytesRows b) (sz := 1) (cap := grownCap w b.size 0 e) (by omega) (by omega) (by omega) (fun o ho => by simp only; omega) (fun r hr => by
            simp only [bytesRows, List.mem_map] at hr
            obtain ⟨y, _, rfl⟩ := hr
            rfl) (fun j c' r d v hr hd hv => by
            obtain ⟨rfl, y, hy, rfl⟩ := bytesRows_get hr hd
            have hj : j < b.data.size := (Array.getElem?_eq_some_iff.1 hy).1
            simp only [Nat.mul_one, Nat.add_zero, bytesRow] at hv
            rw [Array.getElem?_append_left (by simpa using hj), Array.getElem?_map, hy] at hv
            simp at hv
            rw [← hv]
            exact .int _ _)
        obtain ⟨G4, r4⟩ := r3.putO hn hs 0 v3
        refine ⟨_, _, G4, .inl ?_, r4⟩
        rw [hlen]
        have ex := inv_str (lookO_vt h hx (.air 0) rfl)
        simp only [execOp, ho, Sem.run_bind, ex, hr, Result.andThen_ok, Sem.run_pure]
      · cases hs
    · cases hs
end

end Go.Lv
