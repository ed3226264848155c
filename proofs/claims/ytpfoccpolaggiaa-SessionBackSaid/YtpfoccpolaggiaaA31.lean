/-
  A31: no operation turns what is only read of the store; data held equal.
-/
import Derived.Test.YtpfoccpolaggiaaA30
set_option linter.all false
namespace Go.Lv

/-- The store's first objects stay, and no object goes. -/
noncomputable def Pre (ro : Nat) (l l' : List Ob) : Prop := l.length ≤ l'.length ∧ ∀ k, k < ro → l'[k]? = l[k]?
theorem Pre.refl (ro : Nat) (l : List Ob) : Pre ro l l := ⟨Nat.le_refl _, fun _ _ => rfl⟩
theorem Pre.trans {ro : Nat} {l l1 l2 : List Ob} (h : Pre ro l l1) (h2 : Pre ro l1 l2) : Pre ro l l2 :=
  ⟨Nat.le_trans h.1 h2.1, fun k hk => (h2.2 k hk).trans (h.2 k hk)⟩
theorem Pre.of_eq {ro : Nat} {l l' : List Ob} (h : l' = l) : Pre ro l l' := h ▸ Pre.refl _ _
theorem Pre.set {ro k : Nat} (l : List Ob) (o : Ob) (h : ro ≤ k) : Pre ro l (l.set k o) :=
  ⟨by simp, fun j hj => by rw [List.getElem?_set_ne (by omega)]⟩
theorem Pre.snoc {ro : Nat} {l : List Ob} (o : Ob) (h : ro ≤ l.length) : Pre ro l (l ++ [o]) :=
  ⟨by simp, fun j hj => by rw [List.getElem?_append_left (by omega)]⟩
theorem Pre.mono {r ro : Nat} {l l' : List Ob} (h : Pre r l l') (hr : ro ≤ r) : Pre ro l l' := ⟨h.1, fun k hk => h.2 k (by omega)⟩

section
variable {L : Ly} {c : FC} {ro : Nat} {s s' s1 : DS} {dst : Option Nat} {d : D}
theorem put_sto (h : put c dst d s = some s') : s'.sto = s.sto := by
  unfold put at h
  split at h
  · split at h
    · cases h; rfl
    · cases h
  · cases h; rfl
theorem voidS_sto (h : voidS c dst s = some s') : s'.sto = s.sto := by
  unfold voidS at h
  split at h
  · split at h
    · cases h; rfl
    · cases h
  · cases h; rfl
theorem takeO_sto {x : Operand} (h : takeO s x = some (d, s')) : s'.sto = s.sto := by
  unfold takeO at h
  split at h
  · split at h
    · split at h <;> cases h <;> rfl
    · cases h
  · split at h
    · cases h; rfl
    · cases h
theorem takeL_sto : ∀ {xs : List Operand} {ds : List D} {s s' : DS}, takeL s xs = some (ds, s') → s'.sto = s.sto
  | [], ds, s, s', h => by simp [takeL] at h; rw [h.2]
  | x :: xs, ds, s, s', h => by
    simp only [takeL] at h
    split at h
    · rename_i d s1 h1
      split at h
      · cases h
      · split at h
        · rename_i ds' s2 h2
          cases h
          rw [takeL_sto h2, takeO_sto h1]
        · cases h
    · cases h
theorem setPl_pre {p : Place} {x : D} (h : okR ro p.r = true) : Pre ro s.sto (setPl s p x).sto := by
  unfold setPl
  split
  · split
    · split <;> exact Pre.refl _ _
    · exact Pre.refl _ _
  · split <;> exact Pre.refl _ _
  · rename_i k hk
    rw [hk] at h
    split
    · exact Pre.set _ _ (by simpa [okR] using h)
    · exact Pre.refl _ _
  · exact Pre.refl _ _
theorem boxD_pre {cs : List D} (h : boxD c s dst cs = some s') (hl : ro ≤ s.sto.length) : Pre ro s.sto s'.sto := by
  unfold boxD at h
  split at h
  · cases h
  · rename_i t
    revert h
    simp only
    generalize (if c.kb.contains t then cs else cs.map fz) = ys
    intro h
    split at h
    · split at h
      · rw [put_sto h]; exact Pre.snoc _ hl
      · cases h
    · split at h
      · rw [put_sto h]; exact Pre.refl _ _
      · cases h
theorem loadD_pre {t : Nat} {a : D} (h : loadD L c ro s dst t a = some s') : Pre ro s.sto s'.sto := by
  unfold loadD at h
  split at h
  · cases h
  · rename_i cs hcs
    split at h
    · rename_i hany
      split at h
      · rename_i r off x hr
        split at h
        · split at h
          · split at h
            · split at h
              · rw [put_sto h]; exact Pre.refl _ _
              · cases h
            · cases h
          · rename_i k
            split at h
            · rename_i bs hbs
              split at h
              · rw [put_sto h]
                refine Pre.set _ _ ?_
                cases a with
                | gptr k' off' =>
                  simp [rootOf] at hr
                  obtain ⟨rfl, rfl⟩ := hr
                  unfold readD at hcs
                  simp only [hbs] at hcs
                  split at hcs
                  · cases hcs
                    apply Nat.le_of_not_lt
                    intro hlt
                    rw [List.any_map] at hany
                    obtain ⟨c', _, hc'⟩ := List.any_eq_true.1 hany
                    simp only [Function.comp, seeC, if_pos hlt] at hc'
                    cases c' with
                    | list q xs => cases q <;> simp [fz, isOwn] at hc'
                    | _ => simp [fz, isOwn] at hc'
                  · cases hcs
                | _ => simp [rootOf] at hr
              · cases h
            · cases h
          · cases h
        · split at h
          · rw [put_sto h]; exact Pre.refl _ _
          · cases h
      · cases h
    · split at h
      · rw [put_sto h]; exact Pre.refl _ _
      · cases h
theorem storeD_pre {t : Nat} {a v : D} (h : storeD L c ro s t a v = some s') : Pre ro s.sto s'.sto := by
  unfold storeD at h
  simp only at h
  split at h
  · split at h
    · split at h
      · split at h
        · split at h
          · revert h
            generalize (if c.kb.contains _ then cellsD v else (cellsD v).map fz) = ys
            intro h
            split at h
            · cases h; exact Pre.refl _ _
            · cases h
          · cases h
        · cases h
      · cases h
    · split at h
      · rename_i hk
        split at h
        · split at h
          · cases h; exact Pre.set _ _ hk
          · cases h
        · cases h
      · cases h
    · split at h
      · rename_i hp
        split at h
        · split at h
          · split at h
            · cases h; exact setPl_pre hp.2
            · cases h
          · cases h
        · cases h
      · cases h
    · cases h
  · cases h
theorem copyD_pre {e : Nat} {x y : Operand} (h : copyD L ro c s dst e x y = some s') : Pre ro s.sto s'.sto := by
  unfold copyD at h
  split at h
  · split at h
    · rename_i hp
      split at h
      · split at h
        · split at h
          · rw [put_sto h]; exact Pre.refl _ _
          · simp only at h
            rw [put_sto h]
            exact setPl_pre hp.1.2
        · cases h
      · cases h
    · cases h
  · cases h
theorem appendD_sto {e : Nat} {x y : Operand} (h : appendD L c s dst e x y = some s') : s'.sto = s.sto := by
  unfold appendD at h
  split at h
  · cases h
  · split at h
    · rename_i ht
      split at h
      · rw [put_sto h, takeO_sto ht]
      · cases h
    · cases h
theorem sliceLsD_sto {e : Nat} {x : Operand} {lo hi : Option Operand} (h : sliceLsD L c s dst e x lo hi = some s') : s'.sto = s.sto := by
  unfold sliceLsD at h
  split at h
  · split at h
    · cases h
    · split at h
      · split at h
        · split at h
          · split at h
            · exact put_sto h
            · exact put_sto h
            · split at h
              · rename_i ht
                split at h <;> rw [put_sto h, takeO_sto ht]
              · cases h
          · cases h
        · cases h
      · cases h
  · cases h
theorem sliceStrD_sto {x : Operand} {lo hi : Option Operand} (h : sliceStrD c s dst x lo hi = some s') : s'.sto = s.sto := by
  unfold sliceStrD at h
  split at h
  · split at h
    · split at h
      · exact put_sto h
      · cases h
    · cases h
  · cases h
theorem fieldD_sto {t f : Nat} {x : Operand} (h : fieldD L c s dst t x f = some s') : s'.sto = s.sto := by
  unfold fieldD at h
  split at h
  · split at h
    · split at h
      · split at h
        · split at h
          · rw [put_sto h]
          · cases h
        · exact put_sto h
      · cases h
    · cases h
  · cases h
theorem extractD_sto {i : Nat} {x : Operand} (h : extractD c s dst x i = some s') : s'.sto = s.sto := by
  unfold extractD at h
  split at h
  · split at h
    · split at h <;> rw [put_sto h]
    · cases h
  · cases h
theorem convertD_sto {a b : Nat} {x : Operand} (h : convertD L c s dst a b x = some s') : s'.sto = s.sto := by
  unfold convertD at h
  split at h
  · exact put_sto h
  · exact put_sto h
  · split at h
    · split at h
      · exact put_sto h
      · cases h
    · cases h
  · split at h
    · exact put_sto h
    · cases h
  · cases h
theorem lookupD_sto {t : Nat} {m k : D} {ok : Bool} (h : lookupD L c s dst t m k ok = some s') : s'.sto = s.sto := by
  unfold lookupD at h
  split at h
  · split at h
    · split at h
      · exact put_sto h
      · cases h
    · cases h
  · cases h
theorem mapUpdateD_pre {t : Nat} {m k v : D} (h : mapUpdateD L ro s t m k v = some s') : Pre ro s.sto s'.sto := by
  unfold mapUpdateD at h
  split at h
  · split at h
    · rename_i hk
      simp only [Bool.and_eq_true, decide_eq_true_eq] at hk
      split at h
      · split at h
        · cases h; exact Pre.set _ _ hk.1.1
        · cases h
      · cases h
    · cases h
  · cases h
theorem mapEntryD_pre {t : Nat} {m k : D} (h : mapEntryD L ro c s dst t m k = some s') : Pre ro s.sto s'.sto := by
  unfold mapEntryD at h
  split at h
  · split at h
    · rename_i hk
      simp only [Bool.and_eq_true, decide_eq_true_eq] at hk
      split at h
      · split at h
        · rw [put_sto h]; exact Pre.refl _ _
        · split at h
          · rw [put_sto h]; exact Pre.set _ _ hk.1
          · cases h
        · cases h
      · cases h
    · cases h
  · cases h
theorem entryStoreD_pre {m st v : D} (h : entryStoreD ro s m st v = some s') : Pre ro s.sto s'.sto := by
  unfold entryStoreD at h
  split at h
  · split at h
    · rename_i hk
      simp only [Bool.and_eq_true, decide_eq_true_eq] at hk
      split at h
      · split at h
        · cases h; exact Pre.set _ _ hk.1.1.1
        · cases h
      · cases h
    · cases h
  · cases h
theorem builtinD_pre {b : Builtin} {args : List Operand} {tys : List Nat} (h : builtinD L ro c s dst b args tys = some s') : Pre ro s.sto s'.sto := by
  unfold builtinD at h
  split at h
  · unfold lenOp at h
    split at h
    · split at h
      · split at h
        · exact Pre.of_eq (put_sto h)
        · cases h
      · cases h
    · cases h
  · unfold appendOp at h
    split at h
    · split at h
      · exact Pre.of_eq (appendD_sto h)
      · exact Pre.of_eq (appendD_sto h)
      · cases h
    · cases h
  · unfold copyOp at h
    split at h
    · split at h
      · exact copyD_pre h
      · cases h
    · cases h
  · unfold minmaxOp at h
    split at h
    · split at h
      · split at h
        · exact Pre.of_eq (put_sto h)
        · cases h
      · cases h
    · cases h
  · unfold minmaxOp at h
    split at h
    · split at h
      · split at h
        · exact Pre.of_eq (put_sto h)
        · cases h
      · cases h
    · cases h
  · cases h

theorem opD_pre {o : Oper} (h : opD L c ro s o = some s') (hl : ro ≤ s.sto.length) : Pre ro s.sto s'.sto := by
  unfold opD at h
  split at h
  -- move
  · split at h
    · cases h
    · split at h
      · split at h
        · split at h
          · split at h
            · rename_i ht
              exact Pre.of_eq (by rw [put_sto h, takeO_sto ht])
            · cases h
          · exact Pre.of_eq (put_sto h)
        · exact Pre.of_eq (put_sto h)
        · cases h
      · exact Pre.of_eq (put_sto h)
  -- assign
  · split at h
    · rename_i ht _
      split at h <;> exact Pre.of_eq (by rw [put_sto h, takeO_sto ht])
    · cases h
  -- pick
  · split at h
    · split at h
      · split at h
        · cases h
        · exact Pre.of_eq (put_sto h)
      · cases h
    · cases h
  -- alloc
  · split at h
    · exact boxD_pre h hl
    · cases h
  -- box
  · split at h
    · rename_i ht
      split at h
      · have := boxD_pre (ro := ro) h (by rw [takeO_sto ht]; exact hl)
        rwa [takeO_sto ht] at this
      · cases h
    · cases h
  -- build
  · split at h
    · rename_i ht
      split at h
      · exact Pre.of_eq (by rw [put_sto h, takeL_sto ht])
      · cases h
    · cases h
  -- buildSlice
  · split at h
    · split at h
      · rename_i ht
        split at h
        · split at h
          · split at h
            · exact Pre.of_eq (by rw [put_sto h, takeL_sto ht])
            · cases h
          · cases h
        · cases h
      · cases h
    · cases h
  -- load
  · split at h
    · exact loadD_pre h
    · cases h
  -- store
  · split at h
    · rename_i ht
      split at h
      · split at h
        · rename_i hst
          have := storeD_pre hst
          rw [voidS_sto h, ← takeO_sto ht]
          exact this
        · cases h
      · cases h
    · cases h
  -- nilCheck
  · split at h <;> first | cases h; done | exact Pre.of_eq (put_sto h)
  -- binOp
  · split at h
    · split at h
      · exact Pre.of_eq (put_sto h)
      · cases h
    · cases h
  -- unOp
  · split at h
    · split at h
      · exact Pre.of_eq (put_sto h)
      · cases h
    · cases h
  · exact Pre.of_eq (convertD_sto h)
  -- makeFunc
  · split at h
    · split at h
      · split at h
        · exact Pre.of_eq (put_sto h)
        · cases h
      · cases h
    · cases h
  -- makeMap
  · split at h
    · rw [put_sto h]; exact Pre.snoc _ hl
    · cases h
  -- makeSlice
  · split at h
    · split at h
      · split at h
        · exact Pre.of_eq (put_sto h)
        · cases h
      · cases h
    · cases h
  -- slice
  · split at h
    · exact Pre.of_eq (sliceLsD_sto h)
    · exact Pre.of_eq (sliceStrD_sto h)
    · cases h
  -- fieldAddr
  · split at h
    · split at h
      · split at h
        · exact Pre.of_eq (put_sto h)
        · cases h
      · cases h
    · cases h
  · exact Pre.of_eq (fieldD_sto h)
  -- indexAddr
  · split at h
    · split at h
      · exact Pre.of_eq (put_sto h)
      · cases h
    · cases h
  -- index
  · split at h
    · split at h
      · exact Pre.of_eq (put_sto h)
      · cases h
    · cases h
  -- lookup
  · split at h
    · exact Pre.of_eq (lookupD_sto h)
    · cases h
  -- mapUpdate
  · split at h
    · split at h
      · rename_i hu
        rw [voidS_sto h]
        exact mapUpdateD_pre hu
      · cases h
    · cases h
  -- mapEntry
  · split at h
    · exact mapEntryD_pre h
    · cases h
  -- entryStore
  · split at h
    · split at h
      · rename_i hu
        rw [voidS_sto h]
        exact entryStoreD_pre hu
      · cases h
    · cases h
  · exact Pre.of_eq (extractD_sto h)
  · exact builtinD_pre h
  · cases h

theorem resOne_sto {x : ResultVar} (h : resOne L ro s x = some (d, s')) : s'.sto = s.sto := by
  unfold resOne at h
  split at h
  · split at h
    · rename_i ht
      split at h
      · cases h
      · cases h; exact takeO_sto ht
    · cases h
  · split at h
    · split at h
      · split at h
        · split at h
          · split at h
            · split at h
              · cases h
              · cases h; rfl
            · cases h
          · cases h
        · split at h
          · split at h
            · cases h
            · cases h; rfl
          · cases h
      · cases h
    · cases h
theorem resL_sto : ∀ {xs : List ResultVar} {ds : List D} {s s' : DS}, resL L ro s xs = some (ds, s') → s'.sto = s.sto
  | [], ds, s, s', h => by simp [resL] at h; rw [h.2]
  | x :: xs, ds, s, s', h => by
    simp only [resL] at h
    split at h
    · rename_i d s1 h1
      split at h
      · rename_i ds' s2 h2
        cases h
        rw [resL_sto h2, resOne_sto h1]
      · cases h
    · cases h
theorem resD_sto {rs : List ResultVar} (h : resD L ro s rs = some (d, s')) : s'.sto = s.sto := by
  unfold resD at h
  split at h
  · rename_i hl; cases h; exact resL_sto hl
  · rename_i hl; cases h; exact resL_sto hl
  · cases h
end

/-! ### Data held equal -/
mutual
noncomputable def dEq : D → D → Bool
  | .int k n, .int k' n' => decide (k = k') && decide (n = n')
  | .bool b, .bool b' => b == b'
  | .str x, .str y => decide (x = y)
  | .list q xs, .list q' ys => decide (q = q') && dEqLL xs ys
  | .nil, .nil => true
  | .lptr t v o, .lptr t' v' o' => t == t' && v == v' && o == o'
  | .gptr k o, .gptr k' o' => k == k' && o == o'
  | .eptr e p i row o, .eptr e' p' i' row' o' => decide (e = e') && decide (p = p') && i == i' && dEqL row row' && o == o'
  | .nilmap, .nilmap => true
  | .map k, .map k' => k == k'
  | .fn f cs, .fn f' cs' => f == f' && dEqL cs cs'
  | .nilfn, .nilfn => true
  | .agg cs, .agg cs' => dEqL cs cs'
  | .tup cs, .tup cs' => dEqL cs cs'
  | .stamp e k i, .stamp e' k' i' => e == e' && k == k' && i == i'
  | .dead, .dead => true
  | _, _ => false
noncomputable def dEqL : List D → List D → Bool
  | [], [] => true
  | x :: xs, y :: ys => dEq x y && dEqL xs ys
  | _, _ => false
noncomputable def dEqLL : List (List D) → List (List D) → Bool
  | [], [] => true
  | x :: xs, y :: ys => dEqL x y && dEqLL xs ys
  | _, _ => false
end
mutual
theorem dEq_eq : ∀ {x y : D}, dEq x y = true → x = y
  | .int k n, y, h => by cases y <;> simp_all [dEq]
  | .bool b, y, h => by cases y <;> simp_all [dEq]
  | .str b, y, h => by cases y <;> simp_all [dEq]
  | .list q xs, y, h => by
    cases y <;> simp [dEq] at h
    rw [h.1, dEqLL_eq h.2]
  | .nil, y, h => by cases y <;> simp_all [dEq]
  | .lptr t v o, y, h => by cases y <;> simp_all [dEq]
  | .gptr k o, y, h => by cases y <;> simp_all [dEq]
  | .eptr e p i row o, y, h => by
    cases y <;> simp [dEq] at h
    rw [h.1.1.1.1, h.1.1.1.2, h.1.1.2, dEqL_eq h.1.2, h.2]
  | .nilmap, y, h => by cases y <;> simp_all [dEq]
  | .map k, y, h => by cases y <;> simp_all [dEq]
  | .fn f cs, y, h => by
    cases y <;> simp [dEq] at h
    rw [h.1, dEqL_eq h.2]
  | .nilfn, y, h => by cases y <;> simp_all [dEq]
  | .agg cs, y, h => by
    cases y <;> simp [dEq] at h
    rw [dEqL_eq h]
  | .tup cs, y, h => by
    cases y <;> simp [dEq] at h
    rw [dEqL_eq h]
  | .stamp e k i, y, h => by cases y <;> simp_all [dEq]
  | .dead, y, h => by cases y <;> simp_all [dEq]
theorem dEqL_eq : ∀ {x y : List D}, dEqL x y = true → x = y
  | [], y, h => by cases y <;> simp_all [dEqL]
  | x :: xs, y, h => by
    cases y <;> simp [dEqL] at h
    rw [dEq_eq h.1, dEqL_eq h.2]
theorem dEqLL_eq : ∀ {x y : List (List D)}, dEqLL x y = true → x = y
  | [], y, h => by cases y <;> simp_all [dEqLL]
  | x :: xs, y, h => by
    cases y <;> simp [dEqLL] at h
    rw [dEqL_eq h.1, dEqLL_eq h.2]
end

end Go.Lv
