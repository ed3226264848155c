/-
  A21: copy; every operation that calls no function.
-/
import Derived.Test.YtpfoccpolaggiaaA20
set_option linter.all false
namespace Go.Lv

section
variable {P : Program} {L : Ly} {X : Ctx} {G G' : Gh} {s s' s1 : DS} {a a' : Act} {w w' : World} {c : FC} {b : Nat} {m m' : Mt}

noncomputable def StA (P : Program) (w w' : World) (l : List Value) : Option Addr → Prop
  | some ad => (storeCells ad l).run P w = .ok () w'
  | none => w' = w

theorem op_copy (H : LyOK P L) (h : Rel X G s a w) (hn : c.n = X.n) {o : Oper} {args : Array Operand} {tys : Array TypeId} (ho : o.op = .call { callee := .builtin .copy, args, argTypes := tys }) (hs : copyOp L X.ro c s o.dst args.toList tys.toList = some s') : Yd P X o a w s' := by
  unfold copyOp at hs
  split at hs
  · rename_i x y t trest ea et
    have ea' : args = #[x, y] := by rw [← Array.toArray_toList (xs := args), ea]
    have et' : tys[0]? = some t := by rw [← Array.getElem?_toList, et]; rfl
    split at hs
    · rename_i e hk
      unfold copyD at hs
      split at hs
      · rename_i ee p v xs ys hx hy
        rw [Option.ite_none_right_eq_some] at hs
        obtain ⟨⟨⟨hv, hok⟩, hsz, hal⟩, hs⟩ := hs
        split at hs
        · rename_i sz zs hpl
          rw [Option.ite_none_right_eq_some] at hs
          obtain ⟨⟨hlen, rfl⟩, hs⟩ := hs
          obtain ⟨news, hsrc⟩ := src_look (P := P) h hy hsz hal
          obtain ⟨A, cap, hxv, _, _, hq⟩ := (lookO_vt h hx (.air 0) rfl : CpL w G s.m ee (some (p, v)) xs (a.eval x))
          obtain ⟨hair, _, hq⟩ := hq p v rfl
          have hq := hq hv
          have hso := H.sizeOf hsz w
          have hu := H.slice hk
          have hrl : ∀ r, r ∈ ys → r.length = L.size e := fun r hr => by simpa using List.all_eq_true.1 hal r hr
          obtain ⟨u, hown⟩ := getPl_own h hpl hok
          have hcs := hsrc.cells (min ys.length zs.length) w (Nat.min_le_left _ _) (fun _ => rfl)
          have hrun : ∀ w' : World, StA P w w' (news.extract 0 (min ys.length zs.length * L.size e)).toList A → (execOp a.eval o).run P w = .ok (.value (.int .i64 ((min ys.length zs.length : Nat) : Int))) w' := by
            intro w' hw
            subst ea'
            have e1 : Nat.min ys.length xs.length = min ys.length zs.length := by rw [hlen]
            cases A with
            | none =>
              simp only [StA] at hw
              subst hw
              simp [execOp, ho, resolve, invoke, builtin, hxv, Builtin.copy_, et', run_underlying hu, hsrc.len, hso, e1, hcs, goInt]
            | some ad =>
              simp only [StA] at hw
              simp [execOp, ho, resolve, invoke, builtin, hxv, Builtin.copy_, et', run_underlying hu, hsrc.len, hso, e1, hcs, goInt] at hw ⊢
              rw [hw]
              rfl
          split at hs
          · rename_i h0
            rw [h0, Nat.zero_mul] at hrun
            refine Yd.put h hn (hrun w ?_) hs 0 (.int _ _)
            cases A <;> simp [StA, storeCells]
          · rename_i h0
            have hzs : zs ≠ [] := by rintro rfl; simp at h0
            rcases hown with ⟨q, _⟩ | ⟨_, b, off, cap', rfl, hcap, ho1, hfin, hGpl, hcell, hrows⟩
            · exact absurd q hzs
            · rcases hq with rfl | ⟨rfl, _⟩
              · simp at hlen
                exact absurd hlen hzs
              · rw [hGpl] at hrun
                simp only [StA] at hrun
                have hn' : min ys.length zs.length ≤ ys.length := Nat.min_le_left _ _
                have hn2 : min ys.length zs.length ≤ zs.length := Nat.min_le_right _ _
                generalize min ys.length zs.length = n at *
                have hnl : (news.extract 0 (n * L.size e)).toList.length = n * L.size e := by
                  rw [Array.length_toList, Array.size_extract, hsrc.size]
                  have := Nat.mul_le_mul_right (L.size e) hn'
                  omega
                have hmul := Nat.mul_le_mul_right (L.size e) hn2
                have hmul2 := Nat.mul_le_mul_right (L.size e) hcap
                have hnews : ∀ k, k < n * L.size e → (news.extract 0 (n * L.size e)).toList[k]? = news[k]? := fun k hk => by
                  have := Nat.mul_le_mul_right (L.size e) hn'
                  rw [Array.getElem?_toList, Array.getElem?_extract]
                  simp
                  intro h'
                  rw [hsrc.size] at h'
                  omega
                have hcs' : ∀ j, j < (news.extract 0 (n * L.size e)).toList.length → (w.cell? ⟨b, off + j, none⟩).isSome = true := fun j hj => by
                  obtain ⟨⟨u, hu⟩, _⟩ := hcell j (by omega)
                  rw [hu]; rfl
                have hst := run_storeCells_cells (P := P) b off (news.extract 0 (n * L.size e)).toList 0 w (fun j hj => by simpa using hcs' j hj) (fun j hj => by simpa using (hcell j (by omega)).2) (fun u hu => by
                  obtain ⟨k, hk⟩ := List.mem_iff_getElem?.1 hu
                  have hk' : k < n * L.size e := by rw [← hnl]; exact (List.getElem?_eq_some_iff.1 hk).1
                  rw [hnews k hk'] at hk
                  exact hsrc.one u (Array.mem_toList_iff.2 (Array.mem_of_getElem? hk)))
                simp only [Nat.add_zero] at hst
                have W := Wr.of_setCells w b off (news.extract 0 (n * L.size e)).toList
                have K := W.ownKeeps ho1 h.stow s.m
                have hR := h.writeOwn (ys' := ys.take n ++ zs.drop n) hpl hok W ho1 (fun v' hv' => by
                  have hll : (ys.take n ++ zs.drop n).length = zs.length := by simp; omega
                  rcases hv' with ⟨q, _⟩ | ⟨hz0, b', o1', cap2, rfl, hcap', hown', hfin', hGpl', hcell', hrows'⟩
                  · exact absurd q hzs
                  · rw [hGpl] at hGpl'
                    cases hGpl'
                    refine .inr ⟨hz0, b, off, cap2, by rw [hll], by rw [hll]; exact hcap', ho1, by rw [hll]; exact hfin, hGpl, fun q hq => ?_, fun r hr => ?_, fun j c' r d hr hd => ?_⟩
                    · obtain ⟨⟨u, hu⟩, hf⟩ := hcell' q hq
                      refine ⟨?_, by rw [W.frozen]; exact hf⟩
                      by_cases hin : q < n * L.size e
                      · obtain ⟨z, hz⟩ : ∃ z, (news.extract 0 (n * L.size e)).toList[q]? = some z := ⟨_, List.getElem?_eq_getElem (by omega)⟩
                        exact ⟨z, setCells_at hcs' hz⟩
                      · exact ⟨u, by rw [World.cell?_setCells_out b _ _ _ _ (fun _ _ => by show off + q < _ ∨ _ ≤ off + q; omega)]; exact hu⟩
                    · rcases List.mem_append.1 hr with h1 | h1
                      · exact hrl r (List.mem_of_mem_take h1)
                      · exact hrows.1 r (List.mem_of_mem_drop h1)
                    · have hc' : c' < L.size e := by
                        have h8 := (List.getElem?_eq_some_iff.1 hd).1
                        rcases List.mem_append.1 (List.mem_of_getElem? hr) with h1 | h1
                        · rwa [hrl r (List.mem_of_mem_take h1)] at h8
                        · rwa [hrows.1 r (List.mem_of_mem_drop h1)] at h8
                      rcases rows_app (m := 0) (n := 0) (sz := 0) (c' := 0) hr with ⟨hj, hr'⟩ | ⟨hj, hr'⟩
                      · rw [List.length_take] at hj
                        rw [List.getElem?_take] at hr'
                        rw [if_pos (by omega)] at hr'
                        have hlt := mul_lt (sz := L.size e) (show j < n by omega)
                        obtain ⟨z, hz⟩ : ∃ z, (news.extract 0 (n * L.size e)).toList[j * L.size e + c']? = some z := ⟨_, List.getElem?_eq_getElem (by omega)⟩
                        have h7 := setCells_at hcs' hz
                        rw [hnews _ (by omega)] at hz
                        exact ⟨z, h7, K.imm (hsrc.imm j c' r d z hr' hd hz)⟩
                      · rw [List.length_take, Nat.min_eq_left hn'] at hj hr'
                        rw [List.getElem?_drop, show n + (j - n) = j by omega] at hr'
                        obtain ⟨u, hu, hi'⟩ := hrows.2 j c' r d hr' hd
                        have : n * L.size e ≤ j * L.size e := Nat.mul_le_mul_right _ hj
                        exact ⟨u, by rw [World.cell?_setCells_out b _ _ _ _ (fun _ _ => by show off + (j * L.size e + c') < _ ∨ _ ≤ off + (j * L.size e + c'); omega)]; exact hu, K.imm hi'⟩)
                obtain ⟨G4, r4⟩ := hR.putO hn hs 0 (.int _ _)
                exact ⟨_, _, G4, .inl (hrun _ hst), r4⟩
        · cases hs
      · cases hs
    · cases hs
  · cases hs

theorem op_sound (H : LyOK P L) (h : Rel X G s a w) (hn : c.n = X.n) (hkp : c.kp = X.kp) {o : Oper} (hs : opD L c X.ro s o = some s') : Yd P X o a w s' := by
  cases ho : o.op with
  | move x => exact (op_move h hn ho hs).yd h hn
  | assign x => exact (op_assign h hn ho hs).yd
  | pick x y z => exact (op_pick h hn ho hs).yd h hn
  | alloc t => exact op_alloc H h hn hkp ho hs
  | box t x => exact op_box h hn hkp ho hs
  | build t ps => exact (op_build H h hn ho hs).yd h hn
  | buildSlice t n ps => exact op_buildSlice H h hn ho hs
  | load t x => exact (op_loadAll H h hn ho hs).yd h hn
  | store t x y => exact op_store H h hn ho hs
  | nilCheck x => exact (op_nilCheck h hn ho hs).yd h hn
  | binOp op t x y t' => exact (op_bin H h hn ho hs).yd h hn
  | unOp op t x => exact (op_un h hn ho hs).yd h hn
  | convert t u x => exact op_convert H h hn ho hs
  | makeFunc f first caps => exact (op_makeFunc h hn ho hs).yd h hn
  | makeMap t r => exact op_makeMap H h hn ho hs
  | makeSlice t x y => exact op_makeSlice H h hn ho hs
  | slice t x lo hi mx => exact (op_slice H h hn ho hs).yd h hn
  | fieldAddr t x f => exact (op_fieldAddr H h hn ho hs).yd h hn
  | field t x f => exact (op_field H h hn ho hs).yd h hn
  | indexAddr t x y => exact (op_indexAddr H h hn ho hs).yd h hn
  | index t x y => exact (op_index H h hn ho hs).yd h hn
  | lookup t x y ok => exact (op_lookup H h hn ho hs).yd h hn
  | mapUpdate t x y z => exact op_mapUpdate H h hn ho hs
  | mapEntry t x y => exact op_mapEntry H h hn ho hs
  | entryStore t x y z => exact op_entryStore h hn ho hs
  | extract x i => exact (op_extract h hn ho hs).yd h hn
  | call c' =>
    obtain ⟨callee, args, argTypes⟩ := c'
    cases callee with
    | builtin bi =>
      simp only [opD, ho] at hs
      cases bi with
      | len => exact (op_len H h hn ho (by simp only [opD, ho]; exact hs)).yd h hn
      | append => exact op_append H h hn ho hs
      | copy => exact op_copy H h hn ho hs
      | min => exact (op_minmax h hn (.inl ⟨rfl, rfl⟩) ho hs).yd h hn
      | max => exact (op_minmax h hn (.inr ⟨rfl, rfl⟩) ho hs).yd h hn
      | _ => cases hs
    | _ => simp [opD, ho] at hs
  | _ => simp [opD, ho] at hs
end

end Go.Lv
