/-
  Part 1 of the texts under the proof: an abstract run of loaded code on data, and what the functions do. No condition.
-/
import Derived.Test.YtbddalnnhelinaaM17
import Derived.Calls
import Derived.Sort.Grow
import Derived.Lib.SlicesCompact
set_option linter.all false
set_option maxRecDepth 100000
namespace Go.Lv

noncomputable def intOf : D → Option Int
  | .int _ n => some n
  | _ => none
end Go.Lv

namespace Go.Lv
open Go Go.Sort

noncomputable def intsOf : List (List D) → Option (List Int)
  | [] => some []
  | [.int .i64 z] :: r => (intsOf r).map (z :: ·)
  | _ :: _ => none
theorem intsOf_eq : ∀ {ys : List (List D)} {zs : List Int}, intsOf ys = some zs → ys = zs.map rowI
  | [], zs, h => by simp [intsOf] at h; subst h; rfl
  | y :: r, zs, h => by
    unfold intsOf at h
    split at h
    · rename_i e; cases e
    · rename_i e
      cases e
      obtain ⟨zs', h1, rfl⟩ := Option.map_eq_some_iff.1 h
      rw [intsOf_eq h1]
      rfl
    · cases h

section
variable {P : Program} {T : St} {X : Ctx} {G : Gh} {s s' s1 : DS} {a : Act} {w w' : World} {o : Oper} {b : Nat}

structure TurnC (P : Program) (f : Nat) (φ : List Int → List Int) : Prop where
  fn : ∃ fn, P.funcs[f]? = some fn ∧ fn.body.isNone = false ∧ (fn.name == "runtime.NumGoroutine") = false
  len : ∀ zs, (φ zs).length = zs.length
  nil : ∀ (p : Option Addr) (cap : Nat) (w : World), Calls P f #[.slice p 0 cap] w fun e w' => e = .returned (.tuple #[]) ∧ w' = w
  some : ∀ (blk off cap : Nat) (zs : List Int) (w : World), Holds (Value.int .i64) w blk off zs.toArray → blk < w.heap.size → zs.length < 4611686018427387904 →
    Calls P f #[.slice (some ⟨blk, off, none⟩) zs.length cap] w fun e w' => e = .returned (.tuple #[]) ∧ ∃ n os, w' = grow (putRow (Value.int .i64) (Sort.ahead w n) blk off (φ zs).toArray) os

noncomputable def turnGo (T : St) (φ : List Int → List Int) (s : DS) (dst : Option Nat) (p : Place) (v : Nat) (xs : List (List D)) : Rz DS :=
  if s.m.rv p.r = v ∧ okR T.ro p.r = true then
    match getPl s p with
    | some (.list (.own sz) ys) => match intsOf ys with
      | some zs => if ys.length = xs.length ∧ zs.length < 4611686018427387904 ∧ sz = 1 then
          let s1 := setPl s p (.list (.own sz) ((φ zs).map rowI))
          match put T.c dst (.tup []) { s1 with m := s1.m.bE } with
          | some s2 => .ok s2
          | none => .no [30]
        else .no [31]
      | none => .no [32]
    | _ => .no [33]
  else .no [34]
noncomputable def turnHk (φ : List Int → List Int) (T : St) (s : DS) (o : Oper) : Rz DS :=
  match o.op with
  | .call { callee := .value x, args, argTypes } => match lookO s x with
    | some (.fn _ []) => match args.toList with
      | [y] => match lookO s y with
        | some (.list (.cp _ (some (p, v))) xs) => match xs with
          | [] => match put T.c o.dst (.tup []) s with
            | some s2 => .ok s2
            | none => .no [35]
          | _ => turnGo T φ s o.dst p v xs
        | _ => .no [36]
      | _ => .no [37]
    | _ => .no [39]
  | _ => .no [38]

theorem turnHk_ok {φ : List Int → List Int} {f : Nat} (hC : TurnC P f φ) {x : Operand} {args : Array Operand} {tys : Array TypeId} (ho : o.op = .call { callee := .value x, args, argTypes := tys }) {caps : List D} (hx : lookO s x = some (.fn f caps))
    (h : turnHk φ T s o = .ok s') : OpOk P T o s (fun s1 => s1 = s') ∧ Pre T.ro s.sto s'.sto := by
  unfold turnHk at h
  rw [ho] at h
  simp only at h
  have hcaps : caps = [] := by
    rw [hx] at h
    cases caps with
    | nil => rfl
    | cons c cs => simp at h
  subst hcaps
  rw [hx] at h
  simp only at h
  split at h
  · rename_i y hargs
    have hargs' : args = #[y] := by rw [← Array.toArray_toList (xs := args), hargs]
    split at h
    · rename_i e p v xs hy
      obtain ⟨fn, hf, hb, hnm⟩ := hC.fn
      have start : ∀ (X : Ctx) (G : Gh) (a : Act) (w : World), Fits T X → Rel X G s a w → ∀ (next : Act → World → Prop) (Q : Exit → Act → World → Prop), (Calls P f #[a.eval y] w fun e w' => match e with | .returned v => next (a.put o.dst v) w' | _ => False) → o.wp P a w next Q := by
        intro X G a w hX hR next Q hcall
        obtain ⟨cvs, hxv, hcl, _⟩ := inv_fn (lookO_vt hR hx (.air 0) rfl)
        have hcv : cvs = [] := List.eq_nil_of_length_eq_zero hcl.symm
        subst hcv
        unfold Oper.wp
        rw [run_call ho hxv hf hb hnm, Oper.upon_enter]
        have : args.map a.eval ++ [].toArray = #[a.eval y] := by subst hargs'; simp
        rw [this]
        refine hcall.mono fun e w' he => ?_
        cases e with
        | returned v => exact he
        | panicked c => exact he.elim
        | outgrown => exact he.elim
      split at h
      · split at h
        · rename_i s2 hp
          cases h
          refine ⟨fun X G a w hX hR next Q hn => start X G a w hX hR next Q ?_, Pre.of_eq (put_sto hp)⟩
          obtain ⟨A, cap, hyv, _⟩ := (lookO_vt hR hy (.air 0) rfl : CpL w G s.m e (some (p, v)) [] (a.eval y))
          rw [hyv]
          refine (hC.nil A cap w).mono fun e w' he => ?_
          obtain ⟨rfl, rfl⟩ := he
          obtain ⟨G3, r3⟩ := hR.putO hX.n hp 0 vt_tup0
          exact hn _ _ _ _ rfl r3
        · cases h
      · rename_i hne
        unfold turnGo at h
        split at h
        · rename_i hv
          obtain ⟨hv, hok⟩ := hv
          split at h
          · rename_i sz ys hpl
            split at h
            · rename_i zs hzs
              split at h
              · rename_i hlen
                obtain ⟨hlen, hbig, rfl⟩ := hlen
                simp only at h
                split at h
                · rename_i s2 hput
                  cases h
                  refine ⟨fun X G a w hX hR next Q hn => start X G a w hX hR next Q ?_, ?_⟩
                  · have hys := intsOf_eq hzs
                    have hzl : zs.length = ys.length := by rw [hys]; simp
                    have hok' : okR X.ro p.r = true := by rw [hX.ro]; exact hok
                    obtain ⟨A, cap, hyv, _, _, hq⟩ := (lookO_vt hR hy (.air 0) rfl : CpL w G s.m e (some (p, v)) xs (a.eval y))
                    obtain ⟨hair, _, hq⟩ := hq p v rfl
                    have hq := hq hv
                    have hxne : xs ≠ [] := by
                      rintro rfl
                      exact hne rfl
                    have hyne : ys ≠ [] := by
                      rintro rfl
                      simp at hlen
                      exact hxne (List.eq_nil_of_length_eq_zero hlen.symm)
                    rcases hq with rfl | ⟨rfl, hcap⟩
                    · exact absurd rfl hxne
                    · obtain ⟨v0, hown⟩ := getPl_own hR hpl hok'
                      rcases hown with ⟨q, _⟩ | ⟨_, b, off, cap', rfl, hcap', ho1, hfin, hGpl, hcell, hrows⟩
                      · exact absurd q hyne
                      · rw [hGpl] at hyv
                        simp only at hyv
                        rw [hyv, show xs.length = zs.length by omega]
                        have hH : Holds (Value.int .i64) w b off zs.toArray := fun j hj => by
                          have hj' : j < zs.length := by simpa using hj
                          have hr : ys[j]? = some (rowI (zs[j]'hj')) := by rw [hys]; simp [hj']
                          obtain ⟨u, hu, hi⟩ := hrows.2 j 0 _ (.int .i64 (zs[j]'hj')) hr rfl
                          have hi' : u = .int .i64 (zs[j]'hj') := by cases hi; rfl
                          subst hi'
                          obtain ⟨_, hfz⟩ := hcell j (by omega)
                          rw [Nat.mul_one, Nat.add_zero] at hu
                          refine ⟨?_, hfz⟩
                          rw [hu]
                          simp [hj']
                        refine (hC.some b off cap zs w hH (hR.ownLt ho1) hbig).mono fun e w' he => ?_
                        obtain ⟨rfl, n, os, rfl⟩ := he
                        rw [putRow_ahead]
                        have W := wr_putRow (Value.int .i64) w b off (φ zs).toArray
                        have K := W.ownKeeps ho1 hR.stow s.m
                        have hll : ((φ zs).map rowI).length = ys.length := by rw [List.length_map, hC.len, hzl]
                        have hR2 := hR.writeOwn (ys' := (φ zs).map rowI) hpl hok' W ho1 (fun v' hv' => by
                          rcases hv' with ⟨q, _⟩ | ⟨hz0, b', o1', cap2, rfl, hcap2, hown', hfin', hGpl', hcell', hrows'⟩
                          · exact absurd q hyne
                          · rw [hGpl] at hGpl'
                            cases hGpl'
                            refine .inr ⟨hz0, b, off, cap2, by rw [hll], by rw [hll]; exact hcap2, ho1, by rw [hll]; exact hfin, hGpl, fun q hq => ?_, fun r hr => ?_, fun j c' r d hr hd => ?_⟩
                            · obtain ⟨⟨u, hu⟩, hf⟩ := hcell' q hq
                              refine ⟨?_, by rw [W.frozen]; exact hf⟩
                              by_cases hin : q < (φ zs).toArray.size
                              · exact ⟨_, cell?_putRow (Value.int .i64) w b off zs.toArray (φ zs).toArray hH (by simp [hC.len]) q hin⟩
                              · exact ⟨u, by rw [cell?_putRow_other _ _ _ _ _ _ (.inr (.inr (by simp only [List.size_toArray] at hin ⊢; omega)))]; exact hu⟩
                            · obtain ⟨z, _, rfl⟩ := List.mem_map.1 hr
                              rfl
                            · rw [List.getElem?_map] at hr
                              obtain ⟨z, hz, rfl⟩ := Option.map_eq_some_iff.1 hr
                              have hj : j < (φ zs).length := (List.getElem?_eq_some_iff.1 hz).1
                              have hc0 : c' = 0 := by
                                have := (List.getElem?_eq_some_iff.1 hd).1
                                simp [rowI] at this
                                exact this
                              subst hc0
                              simp [rowI] at hd
                              subst hd
                              refine ⟨.int .i64 z, ?_, .int _ _⟩
                              rw [Nat.mul_one, Nat.add_zero, cell?_putRow (Value.int .i64) w b off zs.toArray (φ zs).toArray hH (by simp [hC.len]) j (by simpa using hj)]
                              have := (List.getElem?_eq_some_iff.1 hz).2
                              simp [hj, this])
                        obtain ⟨G4, r4⟩ := (hR2.grown n os).putO hX.n hput 0 vt_tup0
                        exact hn _ _ _ _ rfl r4
                  · rw [put_sto hput]
                    exact setPl_pre hok
                · cases h
              · cases h
            · cases h
          · cases h
        · cases h
    · cases h
  · cases h

structure CompC (P : Program) (f : Nat) : Prop where
  fn : ∃ fn, P.funcs[f]? = some fn ∧ fn.body.isNone = false ∧ (fn.name == "runtime.NumGoroutine") = false ∧ 1 ≤ fn.ntmps
  nil : ∀ (p : Option Addr) (cap : Nat) (w : World), Calls P f #[.slice p 0 cap] w fun e w' => e = .returned (.slice p 0 cap) ∧ w' = w
  some : ∀ (blk off cap : Nat) (zs : List Int) (w : World), Holds (Value.int .i64) w blk off zs.toArray → zs.length ≤ 9223372036854775807 → zs.length ≤ cap →
    Calls P f #[.slice (some ⟨blk, off, none⟩) zs.length cap] w fun e w' => e = .returned (.slice (some ⟨blk, off, none⟩) (Lib.compact zs).length cap) ∧ ∃ q, w' = putRow (Value.int .i64) (Sort.ahead w q) blk off (Lib.compact zs ++ List.replicate (zs.length - (Lib.compact zs).length) 0).toArray

noncomputable def Gh.setFin (G : Gh) (b n : Nat) : Gh := { G with fin := fun x => if x = b then n else G.fin x }
theorem Wr.finKeeps (W : Wr w w' b) {p : Place} (hb : G.own b = some (.lst p)) (hstow : ∀ b e, G.st b e → G.own b = none) (m : Mt) (n : Nat) : Keeps w G m w' (G.setFin b n) m.bE (fun q => q ≠ p) where
  be := fun _ _ h => h
  st := fun _ _ h => h
  cell := fun b' n o hs _ => W.cell (by rintro rfl; rw [hstow _ _ hs] at hb; cases hb) o
  ep := by simp [Mt.bE]
  rv := fun r => by cases r <;> exact Nat.le_refl _
  al := fun _ => Nat.le_refl _
  era := Nat.le_refl _
  rd := fun he => by simp [Mt.bE] at he
  pl := fun _ _ _ => rfl
  la := fun _ _ => rfl
  own := fun b' q hq ho => by
    have : b' ≠ b := by
      rintro rfl
      rw [ho] at hb
      cases hb
      exact hq rfl
    refine ⟨ho, ?_, fun o => ⟨W.cell this o, W.frozen _⟩⟩
    show (if b' = b then n else G.fin b') = _
    rw [if_neg this]
  opl := fun _ _ => rfl
  mp := fun _ k b' es clock _ hh => ⟨es, clock, W.map _ _ _ hh, fun i x hx => ⟨x, hx, rfl⟩⟩

theorem compact_len (zs : List Int) : (Lib.compact zs).length ≤ zs.length := by
  unfold Lib.compact Lib.compactUpTo
  rw [List.length_map]
  refine Nat.le_trans (List.length_filter_le _ _) ?_
  simp

theorem compC_tri {f r sz : Nat} {sto : List Ob} {ys : List (List D)} {zs : List Int} (hC : CompC P f) (hzs : intsOf ys = some zs) (hbig : zs.length ≤ 9223372036854775807) (hr : r ≤ sto.length) :
    Tri P f r [.list (.own sz) ys] sto (fun d l => d = .list (.own sz) ((Lib.compact zs).map rowI) ∧ l = sto) := by
  obtain ⟨fn, hf, hb, hnm, hnt⟩ := hC.fn
  refine ⟨fn, hf, ⟨hb, hnm⟩, hnt, hr, fun G0 w vs hl hR => ?_⟩
  obtain ⟨v, rfl⟩ : ∃ v, vs = [v] := List.length_eq_one_iff.1 hl
  have hys := intsOf_eq hzs
  have htk : takeO (s0 r [.list (.own sz) ys] sto) (.tmp 0) = some (.list (.own sz) ys, { (s0 r [.list (.own sz) ys] sto) with env := ins 0 (leftTop 0 (.list (.own sz) ys)) (s0 r [.list (.own sz) ys] sto).env, m := (m0 r).bS 0 }) := rfl
  obtain ⟨G1, r1, v1, K1, e1, e2, _⟩ := takeO_rel hR htk 0
  have hv0 : (Frm fn.ntmps [v]).eval (.tmp 0) = v := by
    show (Frm fn.ntmps [v]).tmps.getD 0 undef = v
    simp only [Frm, Array.getD_eq_getD_getElem?]
    rw [Array.getElem?_append_left (by simp)]
    rfl
  rw [hv0] at v1
  have v1' : OwnL w G1 ⟨.air 0, 0, 0⟩ sz ys v := v1
  have easy : ys = [] → ∀ p cap, v = .slice p 0 cap → Calls P f #[v] w fun e w' => match e with
      | .returned v => ∃ d s' G' a', (d = .list (.own sz) ((Lib.compact zs).map rowI) ∧ s'.sto = sto) ∧ Rel ⟨fn.ntmps, r, sto.length, w, G0, []⟩ G' s' a' w' ∧ VT w' G' s'.m (.air 0) d v
      | _ => False := by
    intro h0 p cap hv
    subst h0
    have hz0 : zs = [] := by simp [intsOf] at hzs; exact hzs
    subst hz0
    rw [hv]
    refine (hC.nil p cap w).mono fun e w' he => ?_
    obtain ⟨rfl, rfl⟩ := he
    rw [← hv]
    exact ⟨_, _, G1, _, ⟨rfl, rfl⟩, r1, v1'⟩
  rcases v1' with ⟨h0, hv⟩ | ⟨hz, b, off, cap, hv, hcap, ho1, hfin, hGpl, hcell, hrows⟩
  · exact easy h0 none 0 hv
  · by_cases hne : ys = []
    · subst hne
      exact easy rfl _ _ hv
    · have hsz : sz = 1 := by
        cases hyy : ys with
        | nil => exact absurd hyy hne
        | cons y r =>
          have h1 := hrows.1 y (by rw [hyy]; simp)
          cases hzz : zs with
          | nil => rw [hyy, hzz] at hys; simp at hys
          | cons z r' =>
            rw [hyy, hzz] at hys
            simp at hys
            rw [hys.1] at h1
            exact h1.symm
      subst hsz
      have hzl : zs.length = ys.length := by rw [hys]; simp
      have hH : Holds (Value.int .i64) w b off zs.toArray := fun j hj => by
        have hj' : j < zs.length := by simpa using hj
        have hr : ys[j]? = some (rowI (zs[j]'hj')) := by rw [hys]; simp [hj']
        obtain ⟨u, hu, hi⟩ := hrows.2 j 0 _ (.int .i64 (zs[j]'hj')) hr rfl
        have hi' : u = .int .i64 (zs[j]'hj') := by cases hi; rfl
        subst hi'
        obtain ⟨_, hfz⟩ := hcell j (by omega)
        rw [Nat.mul_one, Nat.add_zero] at hu
        refine ⟨?_, hfz⟩
        rw [hu]
        simp [hj']
      subst hv
      rw [show ys.length = zs.length by omega]
      refine (hC.some b off cap zs w hH hbig (by omega)).mono fun e w' he => ?_
      obtain ⟨rfl, q, rfl⟩ := he
      have hcl := compact_len zs
      have hlen2 : (Lib.compact zs ++ List.replicate (zs.length - (Lib.compact zs).length) 0).toArray.size = zs.toArray.size := by simp; omega
      generalize hfull : Lib.compact zs ++ List.replicate (zs.length - (Lib.compact zs).length) 0 = full at *
      have W := wr_putRow (Value.int .i64) w b off full.toArray
      have K := W.finKeeps ho1 r1.stow (((m0 r).bS 0)) (off + (Lib.compact zs).length)
      have hne' : ∀ (k b' : Nat) (o : Ob), sto[k]? = some o → G1.be k = some b' → b' ≠ b := by
        rintro k b' o hk hb' rfl
        obtain ⟨b2, q1, q2, _⟩ := r1.sto k o hk
        rw [hb'] at q1
        cases q1
        rw [ho1] at q2
        split at q2 <;> cases q2
      have r2 : Rel ⟨fn.ntmps, r, sto.length, w, G0, []⟩ (G1.setFin b (off + (Lib.compact zs).length)) ⟨[], [], sto, ((m0 r).bS 0).bE⟩ (Frm fn.ntmps [.slice (some ⟨b, off, none⟩) ys.length cap]) (putRow (Value.int .i64) w b off full.toArray) := by
        refine r1.reW W (by rw [ho1]; simp) (fun b' _ => rfl) rfl rfl (fun b' e he => .inl he) r1.stow r1.std r1.size r1.defers (fun t d ht => by simp [lk_nil] at ht) (fun t cs ht => by simp [lk_nil] at ht) rfl rfl (fun k o b' hk hb' => ?_)
        exact r1.stoW W K (fun j => by simp) (show _ = some o from hk) hb' (hne' k b' o hk hb')
      have r3 := r2.grown q #[]
      rw [grow_empty] at r3
      refine ⟨_, ⟨[], [], sto, ((m0 r).bS 0).bE⟩, _, _, ⟨rfl, rfl⟩, r3, ?_⟩
      have hOwn : OwnL (putRow (Value.int .i64) (Sort.ahead w q) b off full.toArray) (G1.setFin b (off + (Lib.compact zs).length)) ⟨.air 0, 0, 0⟩ 1 ((Lib.compact zs).map rowI) (.slice (some ⟨b, off, none⟩) (Lib.compact zs).length cap) := by
        refine .inr ⟨by omega, b, off, cap, by simp, by simp; omega, ho1, ?_, hGpl, fun i hi => ?_, fun r hr => ?_, fun j c' r d hr hd => ?_⟩
        · show (if b = b then _ else _) = _
          rw [if_pos rfl]
          simp
        · obtain ⟨⟨u, hu⟩, hf⟩ := hcell i hi
          show (∃ u, (putRow (Value.int .i64) w b off full.toArray).cell? ⟨b, off + i, none⟩ = some u) ∧ (putRow (Value.int .i64) w b off full.toArray).frozen? ⟨b, off + i, none⟩ = false
          refine ⟨?_, by rw [W.frozen]; exact hf⟩
          by_cases hin : i < full.toArray.size
          · exact ⟨_, cell?_putRow (Value.int .i64) w b off zs.toArray full.toArray hH hlen2 i hin⟩
          · exact ⟨u, by rw [cell?_putRow_other _ _ _ _ _ _ (.inr (.inr (by simp only [List.size_toArray] at hin ⊢; omega)))]; exact hu⟩
        · obtain ⟨z, _, rfl⟩ := List.mem_map.1 hr
          rfl
        · rw [List.getElem?_map] at hr
          obtain ⟨z, hz, rfl⟩ := Option.map_eq_some_iff.1 hr
          have hj : j < (Lib.compact zs).length := (List.getElem?_eq_some_iff.1 hz).1
          have hc0 : c' = 0 := by
            have := (List.getElem?_eq_some_iff.1 hd).1
            simp [rowI] at this
            exact this
          subst hc0
          simp [rowI] at hd
          subst hd
          have hjf : full[j]? = some z := by rw [← hfull, List.getElem?_append_left hj]; exact hz
          have hjl : j < full.length := (List.getElem?_eq_some_iff.1 hjf).1
          refine ⟨.int .i64 z, ?_, .int _ _⟩
          show (putRow (Value.int .i64) w b off full.toArray).cell? _ = _
          rw [Nat.mul_one, Nat.add_zero, cell?_putRow (Value.int .i64) w b off zs.toArray full.toArray hH hlen2 j (by simpa using hjl)]
          have := (List.getElem?_eq_some_iff.1 hjf).2
          simp [hjl, this]
      exact hOwn
end

noncomputable def insI (z : Int) : List Int → List Int
  | [] => [z]
  | x :: r => if z ≤ x then z :: x :: r else x :: insI z r
noncomputable def sortI : List Int → List Int
  | [] => []
  | z :: r => insI z (sortI r)
theorem insI_perm (z : Int) : ∀ l : List Int, (insI z l).Perm (z :: l)
  | [] => .refl _
  | x :: r => by
    unfold insI
    split
    · exact .refl _
    · exact ((insI_perm z r).cons x).trans (List.Perm.swap z x r)
theorem insI_sorted (z : Int) : ∀ {l : List Int}, l.Pairwise (· ≤ ·) → (insI z l).Pairwise (· ≤ ·)
  | [], _ => by simp [insI]
  | x :: r, h => by
    rw [List.pairwise_cons] at h
    unfold insI
    split
    · rename_i hz
      rw [List.pairwise_cons, List.pairwise_cons]
      refine ⟨fun y hy => ?_, h⟩
      rcases List.mem_cons.1 hy with rfl | hy
      · exact hz
      · exact Int.le_trans hz (h.1 y hy)
    · rename_i hz
      rw [List.pairwise_cons]
      refine ⟨fun y hy => ?_, insI_sorted z h.2⟩
      rcases List.mem_cons.1 ((insI_perm z r).mem_iff.1 hy) with rfl | hy
      · omega
      · exact h.1 y hy
theorem sortI_perm : ∀ l : List Int, (sortI l).Perm l
  | [] => .refl _
  | z :: r => (insI_perm z _).trans ((sortI_perm r).cons z)
theorem sortI_sorted : ∀ l : List Int, (sortI l).Pairwise (· ≤ ·)
  | [] => .nil
  | z :: r => insI_sorted z (sortI_sorted r)
theorem sorted_unique : ∀ {l l' : List Int}, l.Perm l' → l.Pairwise (· ≤ ·) → l'.Pairwise (· ≤ ·) → l = l'
  | [], l', h, _, _ => (List.nil_perm.1 h).symm
  | x :: r, [], h, _, _ => by simp at h
  | x :: r, y :: r', h, h1, h2 => by
    rw [List.pairwise_cons] at h1 h2
    have e : x = y := by
      have hx : x ∈ y :: r' := h.mem_iff.1 (by simp)
      have hy : y ∈ x :: r := h.mem_iff.2 (by simp)
      rcases List.mem_cons.1 hx with e | hx
      · exact e
      · rcases List.mem_cons.1 hy with e | hy
        · exact e.symm
        · have := h1.1 y hy
          have := h2.1 x hx
          omega
    subst e
    rw [sorted_unique (List.perm_cons x |>.1 h) h1.2 h2.2]
theorem mergeSort_sortI (l : List Int) : l.mergeSort (fun x y => decide (x ≤ y)) = sortI l := by
  refine sorted_unique ((List.mergeSort_perm _ _).trans (sortI_perm l).symm) ?_ (sortI_sorted l)
  have := List.pairwise_mergeSort (le := fun x y : Int => decide (x ≤ y)) (fun a b c h1 h2 => by simp at *; omega) (fun a b => by simp; omega) l
  exact this.imp fun h => by simpa using h

end Go.Lv

namespace Go.Lv

end Go.Lv

namespace Go.Lv
open Go

theorem intsOf_map (zs : List Int) : intsOf (zs.map rowI) = some zs := by
  induction zs with
  | nil => rfl
  | cons z r ih =>
    show (intsOf (r.map rowI)).map (z :: ·) = _
    rw [ih]
    rfl
theorem OpOk.turn {P : Program} {T : St} {s : DS} {o : Oper} {K : DS → Prop} {φ : List Int → List Int} {f : Nat} (hC : TurnC P f φ) {x y : Operand} {args : Array Operand} {tys : Array TypeId} {e v : Nat} {p : Place} {zs : List Int}
    (ho : o.op = .call { callee := .value x, args := args, argTypes := tys }) (hargs : args.toList = [y]) (hx : lookO s x = some (.fn f [])) (hy : lookO s y = some (.list (.cp e (some (p, v))) (zs.map rowI)))
    (h0 : zs = [] → Lv.sm (put T.c o.dst (.tup []) s) K)
    (h1 : zs ≠ [] → (s.m.rv p.r = v ∧ okR T.ro p.r = true) ∧ getPl s p = some (.list (.own 1) (zs.map rowI)) ∧ zs.length < 4611686018427387904 ∧
      Lv.sm (put T.c o.dst (.tup []) { setPl s p (.list (.own 1) ((φ zs).map rowI)) with m := (setPl s p (.list (.own 1) ((φ zs).map rowI))).m.bE }) K) : OpOk P T o s K := by
  cases zs with
  | nil =>
    obtain ⟨s2, h2, hk⟩ := sm_inv (h0 rfl)
    refine OpOk.mono (turnHk_ok (s' := s2) hC ho hx ?_).1 fun s1 e => by subst e; exact hk
    unfold turnHk
    rw [ho]
    simp only [hx, hargs, hy, List.map_nil, h2]
  | cons z r =>
    obtain ⟨hv, hpl, hlen, h1⟩ := h1 (by simp)
    obtain ⟨s2, h2, hk⟩ := sm_inv h1
    refine OpOk.mono (turnHk_ok (s' := s2) hC ho hx ?_).1 fun s1 e => by subst e; exact hk
    unfold turnHk
    rw [ho]
    simp only [hx, hargs, hy, List.map_cons, turnGo]
    rw [if_pos hv, hpl]
    simp only
    rw [intsOf_map]
    simp only
    rw [if_pos (by refine ⟨by simp, hlen, ?_⟩; trivial), h2]
end Go.Lv

namespace Go.Lv
open Go

section
variable {P : Program} {T : St} {X : Ctx} {G : Gh} {s : DS} {a : Act} {w : World} {M : Ms} {Q : Ex → DS → Prop}
end
end Go.Lv

namespace Go.Lv
open Go.Proofs

theorem c_draybook_Same_int_0 (al bl : List Int) (ha : al.length ≤ 1000000000000000) (hb : bl.length ≤ 1000000000000000) :
    Tri Try.prog 21 0 [.list .imm (al.map rowI), .list .imm (bl.map rowI)] [] (fun d l => d = .bool (decide (al = bl)) ∧ l = []) := by
  refine Tri.walk2 (L := LT) (c := {la := false, n := 26, ko := [4]}) [] [0, 1, 4, 5, 10, 14, 25] hLT hmix Try.func21 rfl rfl ⟨rfl, rfl⟩ (by show 2 ≤ 26; decide) (Nat.le_refl _) ?_
  refine And.intro (fun hn => ?_) (fun hn => ?_)
  · refine And.intro ?_ rfl
    have : ¬ al = bl := by
      rintro rfl
      simp at hn
    rw [decide_eq_false this]
  · have hlen : al.length = bl.length := by
      simp at hn
      omega
    show Ok _ _ _ _ _
    refine Ok.loopN hLT hmix [] [0, 1, 4, 5, 10, 14, 25] [0, 1, 5, 4] [] (fun n s => ∃ i : Nat, n = al.length - i ∧ i ≤ al.length ∧ (∀ j, j < i → al[j]? = bl[j]?) ∧ s = ⟨[(0, .list .imm (al.map rowI)), (1, .list .imm (bl.map rowI)), (5, .int .i64 (i : Int)), (4, .bool false)], [], [], mR 0⟩) (n := al.length) ⟨0, rfl, Nat.zero_le _, fun j hj => absurd hj (Nat.not_lt_zero j), rfl⟩ ?_
    rintro n s ⟨i, rfl, hi, heq, rfl⟩
    refine And.intro (fun h => ?_) (fun h => ?_)
    · have h : ((i : Nat) : Int) < ((al.map rowI).length : Int) := of_decide_eq_true h
      rw [List.length_map] at h
      have hi1 : i < al.length := by omega
      have hi2 : i < bl.length := by omega
      refine ⟨⟨511, [0, 0, 3, 4, 0, 0, 48, 64, 136], [1, 2, 7, 15, 16, 32, 112, 240, 511]⟩, by kernel_rfl, ?_⟩
      refine ⟨al.map rowI, [.int .i64 al[i]], rfl, by omega, by rw [Int.toNat_natCast, List.getElem?_map, List.getElem?_eq_getElem hi1]; rfl, rfl, by decide, ?_⟩
      refine And.intro rfl ?_
      refine ⟨bl.map rowI, [.int .i64 bl[i]], rfl, by omega, by rw [Int.toNat_natCast, List.getElem?_map, List.getElem?_eq_getElem hi2]; rfl, rfl, by decide, ?_⟩
      refine And.intro rfl ?_
      refine And.intro (fun hne => ?_) (fun hne => ?_)
      · refine And.intro ?_ rfl
        have : ¬ al = bl := by
          rintro rfl
          simp at hne
        rw [decide_eq_false this]
      · have hq : al[i] = bl[i] := by simpa using hne
        have hw : IntKind.i64.wrap ((i : Int) + 1) = ((i + 1 : Nat) : Int) := by
          rw [wrap64 (by omega) (by omega)]
          omega
        refine ⟨al.length - (i + 1), by omega, i + 1, rfl, by omega, fun j hj => ?_, ?_⟩
        · rcases Nat.lt_or_ge j i with h' | h'
          · exact heq j h'
          · have : j = i := by omega
            subst this
            rw [List.getElem?_eq_getElem hi1, List.getElem?_eq_getElem hi2, hq]
        · rw [← hw]
          rfl
    · have h : ¬ ((i : Nat) : Int) < ((al.map rowI).length : Int) := of_decide_eq_false h
      rw [List.length_map] at h
      refine And.intro ?_ rfl
      have : al = bl := by
        apply List.ext_getElem?
        intro j
        rcases Nat.lt_or_ge j al.length with h' | h'
        · exact heq j (by omega)
        · rw [List.getElem?_eq_none h', List.getElem?_eq_none (by omega)]
      rw [decide_eq_true this]
theorem c_draybook_Same_int (al bl : List Int) (ha : al.length ≤ 1000000000000000) (hb : bl.length ≤ 1000000000000000) {r : Nat} {sto : List Ob} (hr : r ≤ sto.length) :
    Tri Try.prog 21 r [.list .imm (al.map rowI), .list .imm (bl.map rowI)] sto (fun d l => d = .bool (decide (al = bl)) ∧ l = sto) :=
  (c_draybook_Same_int_0 al bl ha hb).pure rfl (by
    show (nrBLL 0 (al.map rowI) && (nrBLL 0 (bl.map rowI) && true)) = true
    rw [nrBLL_I, nrBLL_I]
    rfl) rfl rfl hr
end Go.Lv

namespace Go.Lv
open Go.Proofs

theorem okStop {n : Nat} {x : List D} (h : OkD LT (n + 2) 37 x) : ∃ s : Stp, x = rowS s := by
  obtain ⟨x1, y1, rfl, _, h1, x2, y2, rfl, _, h2, rfl⟩ := h
  obtain ⟨i1, rfl, _⟩ := h1
  obtain ⟨b, rfl⟩ := h2
  exact ⟨⟨i1, b⟩, rfl⟩
theorem okStops {n m : Nat} {x : List D} (h : OkD LT (n + 3) 38 x) (z : SzD LT (m + 1) 38 x) : ∃ l : List Stp, x = [.list .imm (l.map rowS)] ∧ l.length * 16 ≤ 140737488351232 := by
  obtain ⟨xs, rfl, _, h⟩ := h
  obtain ⟨xs', e, z, _⟩ := z
  cases e
  have key : ∀ xs : List (List D), (∀ r, r ∈ xs → r.length = LT.size 37 ∧ OkD LT (n + 2) 37 r) → ∃ l : List Stp, xs = l.map rowS := by
    intro xs
    induction xs with
    | nil => intro _; exact ⟨[], rfl⟩
    | cons x r ih =>
      intro h
      obtain ⟨s, rfl⟩ := okStop (h x (by simp)).2
      obtain ⟨l, rfl⟩ := ih fun y hy => h y (by simp [hy])
      exact ⟨s :: l, rfl⟩
  obtain ⟨l, rfl⟩ := key xs h
  have z : (l.map rowS).length * 16 ≤ 140737488351232 := z
  rw [List.length_map] at z
  exact ⟨l, rfl, z⟩
theorem okRoute {n m : Nat} {x : List D} (h : OkD LT (n + 4) 40 x) (z : SzD LT (m + 2) 40 x) : ∃ r : Rte, x = rowR r ∧ r.st.length * 16 ≤ 140737488351232 := by
  obtain ⟨x1, y1, rfl, l1, h1, x2, y2, rfl, l2, h2, x3, y3, rfl, l3, h3, rfl⟩ := h
  obtain ⟨i1, rfl, _⟩ := h1
  obtain ⟨i2, rfl, _⟩ := h2
  obtain ⟨a1, b1, e1, k1, _, a2, b2, e2, k2, _, a3, b3, e3, k3, z3, e4⟩ := z
  have l3' : x3.length = 1 := l3
  obtain ⟨c, rfl⟩ : ∃ c, x3 = [c] := List.length_eq_one_iff.1 l3'
  have k1' : a1.length = 1 := k1
  have k2' : a2.length = 1 := k2
  have k3' : a3.length = 1 := k3
  obtain ⟨d1, rfl⟩ : ∃ c, a1 = [c] := List.length_eq_one_iff.1 k1'
  obtain ⟨d2, rfl⟩ : ∃ c, a2 = [c] := List.length_eq_one_iff.1 k2'
  obtain ⟨d3, rfl⟩ : ∃ c, a3 = [c] := List.length_eq_one_iff.1 k3'
  subst e4; subst e3; subst e2
  simp only [List.cons_append, List.nil_append, List.cons.injEq] at e1
  obtain ⟨_, _, e, _⟩ := e1
  subst e
  obtain ⟨l, e, hl⟩ := okStops h3 z3
  cases e
  exact ⟨⟨i1, i2, l⟩, rfl, hl⟩
theorem okPlan {n m : Nat} {x : List D} (h : OkD LT (n + 5) 42 x) (z : SzD LT (m + 3) 42 x) : ∃ p : Pln, x = [encP p] ∧ szQ p := by
  obtain ⟨xs, rfl, _, h⟩ := h
  obtain ⟨xs', e, z, z2⟩ := z
  cases e
  have key : ∀ xs : List (List D), (∀ r, r ∈ xs → r.length = LT.size 40 ∧ OkD LT (n + 4) 40 r) → (∀ r, r ∈ xs → SzD LT (m + 2) 40 r) → ∃ p : Pln, xs = p.map rowR ∧ ∀ r, r ∈ p → r.st.length * 16 ≤ 140737488351232 := by
    intro xs
    induction xs with
    | nil => intro _ _; exact ⟨[], rfl, fun r hr => by cases hr⟩
    | cons x r ih =>
      intro h z
      obtain ⟨s, rfl, hs⟩ := okRoute (h x (by simp)).2 (z x (by simp))
      obtain ⟨l, rfl, hl⟩ := ih (fun y hy => h y (by simp [hy])) (fun y hy => z y (by simp [hy]))
      exact ⟨s :: l, rfl, fun r hr => by
        rcases List.mem_cons.1 hr with e | hr
        · rw [e]; exact hs
        · exact hl r hr⟩
  obtain ⟨p, rfl, hp⟩ := key xs h z2
  have z : (p.map rowR).length * 40 ≤ 140737488351232 := z
  rw [List.length_map] at z
  exact ⟨p, rfl, z, hp⟩
end Go.Lv

namespace Go.Lv
open Go.Proofs

end Go.Lv

namespace Go.Lv
open Go.Proofs

end Go.Lv

namespace Go.Lv
open Go.Proofs

end Go.Lv

namespace Go.Lv
open Go.Proofs

end Go.Lv

namespace Go.Lv
open Go.Proofs

end Go.Lv

namespace Go.Lv
open Go.Proofs

set_option maxHeartbeats 4000000 in
theorem c_cert_Together_nil_0 (ds : List Drv) (os : List Ord) (p : Pln) : Tri Try.prog 31 0 [.nil, encDs ds, encOs os, encP p] [] (fun x k => x = .bool false ∧ k = []) := by
  refine Tri.walk2 (L := LT) (c := {n := 55, ko := [8]}) [] [0, 1, 2, 3, 8, 9, 10, 12, 30, 31, 32, 33, 34, 53] hLT hmix Try.func31 rfl rfl ⟨rfl, rfl⟩ (by show 4 ≤ 55; decide) (by first | exact Nat.zero_le _ | exact Nat.le_refl _ | exact Nat.le_succ 1 | decide) ?_
  repeat (first | refine And.intro (fun _ => ?_) (fun h => Bool.noConfusion h) | refine And.intro (fun h => Bool.noConfusion h) (fun _ => ?_))
  exact And.intro rfl rfl
set_option maxHeartbeats 4000000 in
theorem c_cert_Make_nil_0 (ds : List Drv) (os : List Ord) (p : Pln) : Tri Try.prog 17 0 [.nil, encDs ds, encOs os, encP p] [] (fun x k => x = .tup [.list (.own 0) [], fltD 0 1] ∧ k = []) := by
  refine Tri.walk2 (L := LT) (c := {n := 65, ko := [8, 10], kb := [9], xf := [42, 58, 63]}) [] [0, 1, 2, 3, 8, 9, 10, 11, 12, 13, 14, 15, 16, 22, 24, 25, 26, 27, 39, 53] hLT hmix Try.func17 rfl rfl ⟨rfl, rfl⟩ (by show 4 ≤ 65; decide) (by first | exact Nat.zero_le _ | exact Nat.le_refl _ | exact Nat.le_succ 1 | decide) ?_
  refine ⟨rfl, (by first | exact Nat.zero_le _ | exact Nat.le_refl _ | exact Nat.le_succ 1 | decide), (c_cert_Together_nil_0 ds os p).mono ?_⟩
  rintro d l ⟨rfl, rfl⟩
  refine ⟨rfl, fun _ _ => rfl, rfl, ?_⟩
  repeat (first | refine And.intro (fun _ => ?_) (fun h => Bool.noConfusion h) | refine And.intro (fun h => Bool.noConfusion h) (fun _ => ?_))
  exact And.intro rfl rfl
set_option maxHeartbeats 4000000 in
theorem c_repair_Total_nil_0 (ds : List Drv) (os : List Ord) (p : Pln) : Tri Try.prog 9 0 [.nil, encDs ds, encOs os, encP p] [] (fun x k => x = .tup [.int .i64 0, .bool false] ∧ k = []) := by
  refine Tri.walk2 (L := LT) (c := {n := 28, ko := [8, 9]}) [] [0, 1, 2, 3, 8, 9, 11, 22] hLT hmix Try.func9 rfl rfl ⟨rfl, rfl⟩ (by show 4 ≤ 28; decide) (by first | exact Nat.zero_le _ | exact Nat.le_refl _ | exact Nat.le_succ 1 | decide) ?_
  refine ⟨rfl, (by first | exact Nat.zero_le _ | exact Nat.le_refl _ | exact Nat.le_succ 1 | decide), (c_cert_Make_nil_0 ds os p).mono ?_⟩
  rintro d l ⟨rfl, rfl⟩
  refine ⟨rfl, fun _ _ => rfl, rfl, ?_⟩
  refine ⟨rfl, (by first | exact Nat.zero_le _ | exact Nat.le_refl _ | exact Nat.le_succ 1 | decide), (c_api_Good 0 1 (r := 0) (sto := []) (Nat.le_refl 0)).mono ?_⟩
  rintro d l ⟨rfl, rfl⟩
  refine ⟨rfl, fun _ _ => rfl, rfl, ?_⟩
  repeat (first | refine And.intro (fun _ => ?_) (fun h => Bool.noConfusion h) | refine And.intro (fun h => Bool.noConfusion h) (fun _ => ?_))
  exact And.intro rfl rfl
theorem c_repair_Total_nil (ds : List Drv) (os : List Ord) (p : Pln) {r : Nat} {sto : List Ob} (hr : r ≤ sto.length) : Tri Try.prog 9 r [.nil, encDs ds, encOs os, encP p] sto (fun x k => x = .tup [.int .i64 0, .bool false] ∧ k = sto) :=
  (c_repair_Total_nil_0 ds os p).pure rfl (nrBL_Dr (nrBL_O (nrBL_P rfl))) rfl rfl hr
end Go.Lv

namespace Go.Lv
open Go.Proofs

noncomputable def sdrayref4_New1 (n : Int) (l : List Int) (i : Nat) : DS := ⟨[(0, .int .i64 n), (1, .list .imm (l.map rowI)), (4, .nil), (5, .int .i64 0), (6, .int .i64 (i : Int))], [], [], mR 0⟩
noncomputable def sdrayref4_New2 (n : Int) (l : List Int) (i : Nat) : DS := ⟨[(0, .int .i64 n), (1, .list .imm (l.map rowI)), (4, .nil), (5, .int .i64 0), (7, .int .i64 (i : Int))], [], [], mR 0⟩
set_option maxHeartbeats 8000000 in
theorem c_drayref4_New_0 (n : Int) (l : List Int) (hl : l.length ≤ 1000000000000000) : Tri Try.prog 27 0 [.int .i64 n, .list .imm (l.map rowI)] [] (fun d k => isNew n l 0 [] d k) := by
  refine Tri.walk2 (L := LT) (c := {n := 58, gl := [57], ko := [4, 5]}) [] [0, 1, 4, 5, 6, 7, 13, 19, 23, 37, 40, 51] hLT hmix Try.func27 rfl rfl ⟨rfl, rfl⟩ (by show 2 ≤ 58; decide) (by first | exact Nat.zero_le _ | exact Nat.le_refl _ | exact Nat.le_succ 1 | decide) ?_
  refine And.intro (fun h0 => ?_) (fun h0 => ?_)
  · have h0 : n < 1 := of_decide_eq_true h0
    repeat (first | refine And.intro (fun _ => ?_) (fun h => Bool.noConfusion h) | refine And.intro (fun h => Bool.noConfusion h) (fun _ => ?_))
    exact isNew_no (show newE n l = 1 by unfold newE; rw [if_pos (.inl h0)]) (by decide)
  have h0 : ¬ n < 1 := of_decide_eq_false h0
  repeat (first | refine And.intro (fun _ => ?_) (fun h => Bool.noConfusion h) | refine And.intro (fun h => Bool.noConfusion h) (fun _ => ?_))
  refine And.intro (fun h1 => ?_) (fun h1 => ?_)
  · have h1 : n > 12 := of_decide_eq_true h1
    repeat (first | refine And.intro (fun _ => ?_) (fun h => Bool.noConfusion h) | refine And.intro (fun h => Bool.noConfusion h) (fun _ => ?_))
    exact isNew_no (show newE n l = 1 by unfold newE; rw [if_pos (.inr h1)]) (by decide)
  have h1 : ¬ n > 12 := of_decide_eq_false h1
  repeat (first | refine And.intro (fun _ => ?_) (fun h => Bool.noConfusion h) | refine And.intro (fun h => Bool.noConfusion h) (fun _ => ?_))
  have hnn : n * n ≤ 12 * 12 := Int.mul_le_mul (by omega) (by omega) (by omega) (by decide)
  have hn0 : 0 ≤ n * n := Int.mul_nonneg (by omega) (by omega)
  have hwm : IntKind.i64.wrap (n * n) = n * n := wrap64 (by omega) (by omega)
  have hi0 : ¬ (n < 1 ∨ n > 12) := by omega
  refine And.intro (fun h2 => ?_) (fun h2 => ?_)
  · have h2 : ¬ ((l.map rowI).length : Int) = IntKind.i64.wrap (n * n) := nd_true h2
    rw [List.length_map, hwm] at h2
    exact isNew_no (show newE n l = 2 by unfold newE; rw [if_neg hi0, if_pos h2]) (by decide)
  have h2 : ((l.map rowI).length : Int) = IntKind.i64.wrap (n * n) := nd_false h2
  rw [List.length_map, hwm] at h2
  show Ok _ _ _ _ _
  refine Ok.loopN hLT hmix [] [0, 1, 4, 5, 6, 7, 13, 19, 23, 37, 40, 51] [0,1,4,5,6] [] (fun k s => ∃ i : Nat, k = l.length - i ∧ i ≤ l.length ∧ timesO (l.take i) ∧ s = sdrayref4_New1 n l i) (n := l.length) ⟨0, rfl, Nat.zero_le _, (fun t ht => by simp at ht), by unfold sdrayref4_New1; rfl⟩ ?_
  rintro k s ⟨i, rfl, hi, hti, rfl⟩
  refine And.intro (fun h3 => ?_) (fun h3 => ?_)
  · have h3 : ((i : Nat) : Int) < ((l.map rowI).length : Int) := of_decide_eq_true h3
    rw [List.length_map] at h3
    have hil : i < l.length := by omega
    have hw := wrap_succ (i := i) (n := l.length) hil hl
    refine ⟨(l).map rowI, rowI ((l)[i]'(by omega)), rfl, by omega, row_at' rowI (l) (by omega) (by omega), rfl, of_decide_eq_true rfl, ?_⟩
    refine And.intro (fun h4 => ?_) (fun h4 => ?_)
    · have h4 : l[i] < 0 := of_decide_eq_true h4
      repeat (first | refine And.intro (fun _ => ?_) (fun h => Bool.noConfusion h) | refine And.intro (fun h => Bool.noConfusion h) (fun _ => ?_))
      exact isNew_no (show newE n l = 7 by unfold newE; rw [if_neg hi0, if_neg (fun h => h h2), if_pos (fun h => by have := h l[i] (List.getElem_mem _); omega)]) (by decide)
    have h4 : ¬ l[i] < 0 := of_decide_eq_false h4
    repeat (first | refine And.intro (fun _ => ?_) (fun h => Bool.noConfusion h) | refine And.intro (fun h => Bool.noConfusion h) (fun _ => ?_))
    refine ⟨(l).map rowI, rowI ((l)[i]'(by omega)), rfl, by omega, row_at' rowI (l) (by omega) (by omega), rfl, of_decide_eq_true rfl, ?_⟩
    refine And.intro (fun h5 => ?_) (fun h5 => ?_)
    · have h5 : l[i] > 1000000 := of_decide_eq_true h5
      repeat (first | refine And.intro (fun _ => ?_) (fun h => Bool.noConfusion h) | refine And.intro (fun h => Bool.noConfusion h) (fun _ => ?_))
      exact isNew_no (show newE n l = 7 by unfold newE; rw [if_neg hi0, if_neg (fun h => h h2), if_pos (fun h => by have := h l[i] (List.getElem_mem _); omega)]) (by decide)
    have h5 : ¬ l[i] > 1000000 := of_decide_eq_false h5
    repeat (first | refine And.intro (fun _ => ?_) (fun h => Bool.noConfusion h) | refine And.intro (fun h => Bool.noConfusion h) (fun _ => ?_))
    refine ⟨l.length - (i + 1), by omega, i + 1, rfl, by omega, fun t ht => ?_, ?_⟩
    · rw [List.take_succ_eq_append_getElem hil] at ht
      rcases List.mem_append.1 ht with ht | ht
      · exact hti t ht
      · rw [List.mem_singleton.1 ht]
        omega
    · unfold sdrayref4_New1
      rw [← hw]
      rfl
  have h3 : ¬ ((i : Nat) : Int) < ((l.map rowI).length : Int) := of_decide_eq_false h3
  rw [List.length_map] at h3
  rw [List.take_of_length_le (by omega)] at hti
  show Ok _ _ _ _ _
  refine Ok.loopN hLT hmix [] [0, 1, 4, 5, 6, 7, 13, 19, 23, 37, 40, 51] [0,1,4,5,7] [] (fun k s => ∃ i : Nat, k = n.toNat - i ∧ i ≤ n.toNat ∧ diagO n l i ∧ s = sdrayref4_New2 n l i) (n := n.toNat) ⟨0, rfl, Nat.zero_le _, (fun a ha => absurd ha (Nat.not_lt_zero _)), rfl⟩ ?_
  rintro k s ⟨i, rfl, hi, hdi, rfl⟩
  refine And.intro (fun h3 => ?_) (fun h3 => ?_)
  · have h3 : ((i : Nat) : Int) < n := of_decide_eq_true h3
    have hw := wrap_succ (i := i) (n := n.toNat) (by omega) (by omega)
    obtain ⟨q1, q2⟩ := diag_idx (a := i) (by omega) (by omega) h3 h2
    refine ⟨(l).map rowI, rowI ((l)[i * n.toNat + i]'q2), rfl, by rw [q1]; exact Int.natCast_nonneg _, row_at' rowI l q1 q2, rfl, of_decide_eq_true rfl, ?_⟩
    have hgd : l.getD (i * n.toNat + i) 0 = l[i * n.toNat + i] := by rw [List.getD_eq_getElem?_getD, List.getElem?_eq_getElem q2]; rfl
    refine And.intro (fun h4 => ?_) (fun h4 => ?_)
    · have h4 := nd_true h4
      exact isNew_no (show newE n l = 4 by unfold newE; rw [if_neg hi0, if_neg (fun h => h h2), if_neg (fun h => h hti), if_pos (fun h => h4 (by rw [← hgd]; exact h i (by omega)))]) (by decide)
    have h4 := nd_false h4
    refine ⟨n.toNat - (i + 1), by omega, i + 1, rfl, by omega, fun a ha => ?_, ?_⟩
    · rcases Nat.lt_or_ge a i with h | h
      · exact hdi a h
      · rw [show a = i by omega, hgd]
        exact h4
    · unfold sdrayref4_New2
      rw [← hw]
      rfl
  have h3 : ¬ ((i : Nat) : Int) < n := of_decide_eq_false h3
  have hdn : diagO n l n.toNat := by rw [show n.toNat = i by omega]; exact hdi
  have hnew : newE n l = 0 := by unfold newE; rw [if_neg hi0, if_neg (fun h => h h2), if_neg (fun h => h hti), if_neg (fun h => h hdn)]
  have hok : okMp ⟨n, l⟩ := ⟨by show 1 ≤ n; omega, by show n ≤ 12; omega, h2, hti⟩
  have hrm : (0 + (l.map rowI).length) * 8 ≤ 140737488355328 := by rw [List.length_map]; omega
  have hal : allLen 1 (l.map rowI) = true := by simp [allLen, rowI]
  refine And.intro trivial (And.intro rfl (And.intro hrm (And.intro hal ?_)))
  exact .inl ⟨hnew, hok, rfl, rfl⟩
theorem c_drayref4_New (n : Int) (l : List Int) (hl : l.length ≤ 1000000000000000) {r : Nat} {sto : List Ob} (hr : r ≤ sto.length) : Tri Try.prog 27 r [.int .i64 n, .list .imm (l.map rowI)] sto (fun d k => isNew n l sto.length sto d k) :=
  (c_drayref4_New_0 n l hl).newAny rfl (by show (true && (nrBLL 0 (l.map rowI) && true)) = true; rw [nrBLL_I]; rfl) hr

end Go.Lv

namespace Go.Lv
open Go.Proofs

noncomputable def encW (n : Int) (l : List Int) (ds : List Drv) (os : List Ord) (p : Pln) : List D := [.int .i64 n, .list .imm (l.map rowI), encDs ds, encOs os, encP p]
noncomputable def isMaps (n : Int) (l : List Int) (d : D) (k : List Ob) : Prop := (d = .tup [.nil, .nil, .bool true] ∧ k = []) ∨ (okMp ⟨n, l⟩ ∧ d = .tup [.gptr 0 0, .gptr 1 0, .bool true] ∧ k = [mbox ⟨n, l⟩, mbox ⟨n, l⟩])
set_option maxHeartbeats 4000000 in
theorem c_draykeep_Maps_0 (n : Int) (l : List Int) (hl : l.length ≤ 1000000000000000) (ds : List Drv) (os : List Ord) (p : Pln) : Tri Try.prog 14 0 [.agg (encW n l ds os p)] [] (fun d k => isMaps n l d k) := by
  refine Tri.walk2 (L := LT) (c := {n := 37, ko := [2, 3, 4]}) [] [0, 1, 2, 3, 4, 5, 6, 7, 8] hLT hmix Try.func14 rfl rfl ⟨rfl, rfl⟩ (by show 1 ≤ 37; decide) (by first | exact Nat.zero_le _ | exact Nat.le_refl _ | exact Nat.le_succ 1 | decide) ?_
  have h1 := c_geo_New n l hl (r := 0) (sto := []) (Nat.le_refl 0)
  refine ⟨rfl, Nat.le_refl _, h1.mono ?_⟩
  rintro d k (⟨he, hm, rfl, rfl⟩ | ⟨he, rfl, rfl⟩)
  · refine ⟨rfl, fun k hk => absurd hk (Nat.not_lt_zero k), rfl, ?_⟩
    have h2 := c_drayref4_New n l hl (r := 1) (sto := [mbox ⟨n, l⟩]) (Nat.le_refl 1)
    refine ⟨rfl, Nat.zero_le _, h2.mono ?_⟩
    rintro d k (⟨_, _, rfl, rfl⟩ | ⟨he2, rfl, rfl⟩)
    · refine ⟨rfl, fun k hk => List.getElem?_append_left hk, rfl, ?_⟩
      repeat (first | refine And.intro (fun _ => ?_) (fun h => Bool.noConfusion h) | refine And.intro (fun h => Bool.noConfusion h) (fun _ => ?_))
      exact .inr ⟨hm, rfl, rfl⟩
    · exact absurd he he2
  · refine ⟨rfl, fun k hk => absurd hk (Nat.not_lt_zero k), rfl, ?_⟩
    have h2 := c_drayref4_New n l hl (r := 0) (sto := []) (Nat.zero_le _)
    refine ⟨rfl, Nat.le_refl _, h2.mono ?_⟩
    rintro d k (⟨he2, _, rfl, rfl⟩ | ⟨_, rfl, rfl⟩)
    · exact absurd he2 he
    · refine ⟨rfl, fun k hk => absurd hk (Nat.not_lt_zero k), rfl, ?_⟩
      refine And.intro (fun h3 => ?_) (fun h3 => ?_)
      · repeat (first | refine And.intro (fun _ => ?_) (fun h => Bool.noConfusion h) | refine And.intro (fun h => Bool.noConfusion h) (fun _ => ?_))
        exact .inl ⟨rfl, rfl⟩
      · exact absurd rfl (of_decide_eq_false h3)
end Go.Lv

namespace Go.Lv
open Go.Proofs

theorem okInts {n : Nat} {x : List D} (h : OkD LT (n + 2) 52 x) : ∃ l : List Int, x = [.list .imm (l.map rowI)] := by
  obtain ⟨xs, rfl, _, h⟩ := h
  have key : ∀ xs : List (List D), (∀ r, r ∈ xs → r.length = LT.size 3 ∧ OkD LT (n + 1) 3 r) → ∃ l : List Int, xs = l.map rowI := by
    intro xs
    induction xs with
    | nil => intro _; exact ⟨[], rfl⟩
    | cons x r ih =>
      intro h
      obtain ⟨s, rfl, _⟩ := (h x (by simp)).2
      obtain ⟨l, rfl⟩ := ih fun y hy => h y (by simp [hy])
      exact ⟨s :: l, rfl⟩
  obtain ⟨l, rfl⟩ := key xs h
  exact ⟨l, rfl⟩
theorem okWin {n : Nat} {x : List D} (h : OkD LT (n + 2) 27 x) : ∃ w : Win, x = rowW w := by
  obtain ⟨x1, y1, rfl, _, h1, x2, y2, rfl, _, h2, rfl⟩ := h
  obtain ⟨i1, rfl, _⟩ := h1
  obtain ⟨i2, rfl, _⟩ := h2
  exact ⟨⟨i1, i2⟩, rfl⟩
theorem okSit {n : Nat} {x : List D} (h : OkD LT (n + 3) 29 x) : ∃ s : Sit, x = rowSi s := by
  obtain ⟨x1, y1, rfl, _, h1, x2, y2, rfl, _, h2, x3, y3, rfl, _, h3, rfl⟩ := h
  obtain ⟨i1, rfl, _⟩ := h1
  obtain ⟨w, rfl⟩ := okWin h2
  obtain ⟨i3, rfl, _⟩ := h3
  exact ⟨⟨i1, w, i3⟩, rfl⟩
theorem okOrd {n : Nat} {x : List D} (h : OkD LT (n + 4) 31 x) : ∃ o : Ord, x = rowO o := by
  obtain ⟨x1, y1, rfl, _, h1, x2, y2, rfl, _, h2, x3, y3, rfl, _, h3, x4, y4, rfl, _, h4, rfl⟩ := h
  obtain ⟨i1, rfl, _⟩ := h1
  obtain ⟨i2, rfl, _⟩ := h2
  obtain ⟨a, rfl⟩ := okSit h3
  obtain ⟨b, rfl⟩ := okSit h4
  exact ⟨⟨i1, i2, a, b⟩, rfl⟩
theorem okDrv {n : Nat} {x : List D} (h : OkD LT (n + 3) 33 x) : ∃ d : Drv, x = rowDr d := by
  obtain ⟨x1, y1, rfl, _, h1, x2, y2, rfl, _, h2, x3, y3, rfl, _, h3, x4, y4, rfl, _, h4, x5, y5, rfl, _, h5, rfl⟩ := h
  obtain ⟨i1, rfl, _⟩ := h1
  obtain ⟨i2, rfl, _⟩ := h2
  obtain ⟨i3, rfl, _⟩ := h3
  obtain ⟨w, rfl⟩ := okWin h4
  obtain ⟨b, rfl⟩ := h5
  exact ⟨⟨i1, i2, i3, w, b⟩, rfl⟩
theorem okOrds {n : Nat} {x : List D} (h : OkD LT (n + 5) 35 x) : ∃ l : List Ord, x = [encOs l] := by
  obtain ⟨xs, rfl, _, h⟩ := h
  have key : ∀ xs : List (List D), (∀ r, r ∈ xs → r.length = LT.size 31 ∧ OkD LT (n + 4) 31 r) → ∃ l : List Ord, xs = l.map rowO := by
    intro xs
    induction xs with
    | nil => intro _; exact ⟨[], rfl⟩
    | cons x r ih =>
      intro h
      obtain ⟨s, rfl⟩ := okOrd (h x (by simp)).2
      obtain ⟨l, rfl⟩ := ih fun y hy => h y (by simp [hy])
      exact ⟨s :: l, rfl⟩
  obtain ⟨l, rfl⟩ := key xs h
  exact ⟨l, rfl⟩
theorem okDrvs {n : Nat} {x : List D} (h : OkD LT (n + 4) 34 x) : ∃ l : List Drv, x = [encDs l] := by
  obtain ⟨xs, rfl, _, h⟩ := h
  have key : ∀ xs : List (List D), (∀ r, r ∈ xs → r.length = LT.size 33 ∧ OkD LT (n + 3) 33 r) → ∃ l : List Drv, xs = l.map rowDr := by
    intro xs
    induction xs with
    | nil => intro _; exact ⟨[], rfl⟩
    | cons x r ih =>
      intro h
      obtain ⟨s, rfl⟩ := okDrv (h x (by simp)).2
      obtain ⟨l, rfl⟩ := ih fun y hy => h y (by simp [hy])
      exact ⟨s :: l, rfl⟩
  obtain ⟨l, rfl⟩ := key xs h
  exact ⟨l, rfl⟩
theorem okStopN {n : Nat} {x : List D} (h : OkD LT (n + 2) 37 x) : ∃ s : Stp, x = rowS s := by
  obtain ⟨x1, y1, rfl, _, h1, x2, y2, rfl, _, h2, rfl⟩ := h
  obtain ⟨i1, rfl, _⟩ := h1
  obtain ⟨b, rfl⟩ := h2
  exact ⟨⟨i1, b⟩, rfl⟩
theorem okStopsN {n : Nat} {x : List D} (h : OkD LT (n + 3) 38 x) : ∃ l : List Stp, x = [.list .imm (l.map rowS)] := by
  obtain ⟨xs, rfl, _, h⟩ := h
  have key : ∀ xs : List (List D), (∀ r, r ∈ xs → r.length = LT.size 37 ∧ OkD LT (n + 2) 37 r) → ∃ l : List Stp, xs = l.map rowS := by
    intro xs
    induction xs with
    | nil => intro _; exact ⟨[], rfl⟩
    | cons x r ih =>
      intro h
      obtain ⟨s, rfl⟩ := okStopN (h x (by simp)).2
      obtain ⟨l, rfl⟩ := ih fun y hy => h y (by simp [hy])
      exact ⟨s :: l, rfl⟩
  obtain ⟨l, rfl⟩ := key xs h
  exact ⟨l, rfl⟩
theorem okRouteN {n : Nat} {x : List D} (h : OkD LT (n + 4) 40 x) : ∃ r : Rte, x = rowR r := by
  obtain ⟨x1, y1, rfl, _, h1, x2, y2, rfl, _, h2, x3, y3, rfl, _, h3, rfl⟩ := h
  obtain ⟨i1, rfl, _⟩ := h1
  obtain ⟨i2, rfl, _⟩ := h2
  obtain ⟨l, rfl⟩ := okStopsN h3
  exact ⟨⟨i1, i2, l⟩, rfl⟩
theorem okPlanN {n : Nat} {x : List D} (h : OkD LT (n + 5) 42 x) : ∃ p : Pln, x = [encP p] := by
  obtain ⟨xs, rfl, _, h⟩ := h
  have key : ∀ xs : List (List D), (∀ r, r ∈ xs → r.length = LT.size 40 ∧ OkD LT (n + 4) 40 r) → ∃ p : Pln, xs = p.map rowR := by
    intro xs
    induction xs with
    | nil => intro _; exact ⟨[], rfl⟩
    | cons x r ih =>
      intro h
      obtain ⟨s, rfl⟩ := okRouteN (h x (by simp)).2
      obtain ⟨l, rfl⟩ := ih fun y hy => h y (by simp [hy])
      exact ⟨s :: l, rfl⟩
  obtain ⟨p, rfl⟩ := key xs h
  exact ⟨p, rfl⟩
theorem okWorld {n m : Nat} {x : List D} (h : OkD LT (n + 6) 54 x) (z : SzD LT (m + 2) 54 x) : ∃ (k : Int) (l : List Int) (ds : List Drv) (os : List Ord) (p : Pln), x = encW k l ds os p ∧ l.length ≤ 1000000000000000 := by
  obtain ⟨x1, y1, rfl, _, h1, x2, y2, rfl, _, h2, x3, y3, rfl, _, h3, x4, y4, rfl, _, h4, x5, y5, rfl, _, h5, rfl⟩ := h
  obtain ⟨k, rfl, _⟩ := h1
  obtain ⟨l, rfl⟩ := okInts h2
  obtain ⟨ds, rfl⟩ := okDrvs h3
  obtain ⟨os, rfl⟩ := okOrds h4
  obtain ⟨p, rfl⟩ := okPlanN h5
  obtain ⟨a1, b1, e1, k1, _, a2, b2, e2, k2, z2, _⟩ := z
  have k1' : a1.length = 1 := k1
  have k2' : a2.length = 1 := k2
  obtain ⟨d1, rfl⟩ : ∃ c, a1 = [c] := List.length_eq_one_iff.1 k1'
  obtain ⟨d2, rfl⟩ : ∃ c, a2 = [c] := List.length_eq_one_iff.1 k2'
  subst e2
  simp only [List.cons_append, List.nil_append, List.cons.injEq] at e1
  obtain ⟨_, e, _⟩ := e1
  subst e
  obtain ⟨xs', e, z2, _⟩ := z2
  cases e
  have z2 : (l.map rowI).length * 8 ≤ 140737488351232 := z2
  rw [List.length_map] at z2
  exact ⟨k, l, ds, os, p, rfl, by omega⟩
end Go.Lv

namespace Go.Lv
open Go.Proofs

theorem okWorldQ {n m : Nat} {x : List D} (h : OkD LT (n + 6) 54 x) (z : SzD LT (m + 4) 54 x) : ∃ (k : Int) (l : List Int) (ds : List Drv) (os : List Ord) (p : Pln), x = encW k l ds os p ∧ l.length ≤ 1000000000000000 ∧ szQ p := by
  have h0 := h
  obtain ⟨k, l, ds, os, p, rfl, hl⟩ := okWorld (m := m + 2) h z
  refine ⟨k, l, ds, os, p, rfl, hl, ?_⟩
  obtain ⟨a1, b1, e1, k1, _, a2, b2, e2, k2, _, a3, b3, e3, k3, _, a4, b4, e4, k4, _, a5, b5, e5, k5, z5, e6⟩ := z
  obtain ⟨x1, y1, f1, l1, _, x2, y2, f2, l2, _, x3, y3, f3, l3, _, x4, y4, f4, l4, _, x5, y5, f5, l5, h5, f6⟩ := h0
  subst e6; subst e5; subst e4; subst e3; subst e2
  subst f6; subst f5; subst f4; subst f3; subst f2
  have one : ∀ {c : List D}, c.length = 1 → ∃ d, c = [d] := fun h => List.length_eq_one_iff.1 h
  obtain ⟨d1, rfl⟩ := one k1
  obtain ⟨d2, rfl⟩ := one k2
  obtain ⟨d3, rfl⟩ := one k3
  obtain ⟨d4, rfl⟩ := one k4
  obtain ⟨d5, rfl⟩ := one k5
  obtain ⟨c1, rfl⟩ := one l1
  obtain ⟨c2, rfl⟩ := one l2
  obtain ⟨c3, rfl⟩ := one l3
  obtain ⟨c4, rfl⟩ := one l4
  obtain ⟨c5, rfl⟩ := one l5
  unfold encW at e1 f1
  simp only [List.cons_append, List.nil_append, List.cons.injEq, and_true] at e1 f1
  obtain ⟨_, _, _, _, e⟩ := e1
  obtain ⟨_, _, _, _, f⟩ := f1
  subst e
  rw [← f] at h5
  obtain ⟨q, hq, hs⟩ := okPlan h5 z5
  have : p.map rowR = q.map rowR := by
    have := (List.cons.inj hq).1
    exact (D.list.inj this).2
  have inj : ∀ {a b : Pln}, a.map rowR = b.map rowR → a = b := by
    intro a
    induction a with
    | nil => intro b h; cases b with | nil => rfl | cons => cases h
    | cons r a ih =>
      intro b h
      cases b with
      | nil => cases h
      | cons r2 b =>
        simp only [List.map_cons, List.cons.injEq] at h
        rw [ih h.2]
        congr 1
        obtain ⟨d, s, st⟩ := r
        obtain ⟨d2, s2, st2⟩ := r2
        have h := h.1
        unfold rowR at h
        simp only [List.cons.injEq, D.int.injEq, D.list.injEq, true_and, and_true] at h
        obtain ⟨h1, h2, h3⟩ := h
        have h4 : st = st2 := by
          have inj2 : ∀ {a b : List Stp}, a.map rowS = b.map rowS → a = b := by
            intro a
            induction a with
            | nil => intro b h; cases b with | nil => rfl | cons => cases h
            | cons s a ih =>
              intro b h
              cases b with
              | nil => cases h
              | cons s2 b =>
                simp only [List.map_cons, List.cons.injEq] at h
                rw [ih h.2]
                congr 1
                obtain ⟨x, y⟩ := s
                obtain ⟨x2, y2⟩ := s2
                have h := h.1
                unfold rowS at h
                simp only [List.cons.injEq, D.int.injEq, D.bool.injEq, true_and, and_true] at h
                rw [h.1, h.2]
          exact inj2 h3
        rw [h1, h2, h4]
  rw [inj this]
  exact hs
end Go.Lv

namespace Go.Lv
open Go.Proofs

theorem movedR_step {m : Mp} {ds : List Drv} {os : List Ord} {p : Pln} {o : Ord} {B : Int} : (movedR m ds os p o B).2.1 = (cheapR m ds (othersO o.id os) (woP p [o.id]) o B).2.1 := by
  unfold movedR
  split
  · rfl
  · split <;> rfl
theorem movedR_same {m : Mp} {ds : List Drv} {os : List Ord} {p : Pln} {o : Ord} {B : Int} (h : (movedR m ds os p o B).2.2 = false) : (movedR m ds os p o B).1 = p := by
  unfold movedR at h ⊢
  by_cases hc : (cheapR m ds (othersO o.id os) (woP p [o.id]) o B).2.2 ≠ 0 ∨ totP m ds (othersO o.id os) (woP p [o.id]) + (cheapR m ds (othersO o.id os) (woP p [o.id]) o B).1.cost ≥ totP m ds os p
  · rw [if_pos hc]
  · rw [if_neg hc] at h ⊢
    cases hw : withP (woP p [o.id]) o.id (cheapR m ds (othersO o.id os) (woP p [o.id]) o B).1 with
    | none => rfl
    | some q =>
      rw [hw] at h
      cases h
end Go.Lv

namespace Go.Lv
open Go.Proofs

theorem idxA_ge {s : Stp} : ∀ {l : List Stp} {i : Nat}, s ∈ l → idxA s i l ≥ 0
  | [], _, h => by cases h
  | x :: l, i, h => by
    unfold idxA
    split
    · omega
    · rename_i hne
      exact idxA_ge ((List.mem_cons.1 h).resolve_left (fun e => hne e.symm))
theorem idxA_no {s : Stp} : ∀ {l : List Stp} {i : Nat}, s ∉ l → idxA s i l = -1
  | [], _, _ => rfl
  | x :: l, i, h => by
    unfold idxA
    rw [if_neg (fun e => h (by simp [e]))]
    exact idxA_no (fun q => h (by simp [q]))
noncomputable def noO (o : Int) (l : List Stp) : Prop := ∀ s, s ∈ l → s.ord ≠ o
theorem noO_of {o : Int} {l : List Stp} (h1 : ¬ idxS l ⟨o, false⟩ ≥ 0) (h2 : ¬ idxS l ⟨o, true⟩ ≥ 0) : noO o l := by
  rintro ⟨x, d⟩ hs rfl
  cases d
  · exact h1 (idxA_ge hs)
  · exact h2 (idxA_ge hs)
theorem noO_idx {o : Int} {l : List Stp} (h : noO o l) (b : Bool) : idxS l ⟨o, b⟩ = -1 := idxA_no (fun q => h _ q rfl)
theorem findP_none {o : Int} : ∀ {p : Pln}, findP o p = none → ∀ r, r ∈ p → noO o r.st
  | [], _, r, hr => by cases hr
  | x :: p, h, r, hr => by
    unfold findP at h
    split at h
    · cases h
    · rename_i hn
      rcases List.mem_cons.1 hr with e | hr
      · subst e
        exact noO_of (fun q => hn (.inl q)) (fun q => hn (.inr q))
      · exact findP_none h r hr
theorem findP_skip {o : Int} : ∀ {a : Pln} {p : Pln}, (∀ r, r ∈ a → noO o r.st) → findP o (a ++ p) = findP o p
  | [], p, _ => rfl
  | x :: a, p, h => by
    have hx := h x (by simp)
    show (if idxS x.st ⟨o, false⟩ ≥ 0 ∨ idxS x.st ⟨o, true⟩ ≥ 0 then _ else findP o (a ++ p)) = _
    rw [noO_idx hx false, noO_idx hx true, if_neg (by omega)]
    exact findP_skip (fun r hr => h r (by simp [hr]))
structure Put1 (p q : Pln) (o : Int) (s : Spt) (a : Pln) (r : Rte) (b : Pln) : Prop where
  p : p = a ++ r :: b
  q : q = a ++ inR r o s :: b
  drv : r.drv = s.drv
  ok : okIn r s
theorem goW_some {p0 q : Pln} {o : Int} {s : Spt} : ∀ (p a : Pln), p0 = a ++ p → goW p0 o s a.length p = some q → ∃ a r b, Put1 p0 q o s a r b
  | [], a, _, h => by cases h
  | r :: p, a, hp, h => by
    unfold goW at h
    split at h
    · rename_i hd
      split at h
      · rename_i hok
        cases h
        refine ⟨a, r, p, hp, ?_, hd, hok⟩
        rw [hp, List.set_append_right _ _ (Nat.le_refl _), Nat.sub_self]
        rfl
      · cases h
    · exact goW_some p (a ++ [r]) (by rw [hp]; simp) (by simpa using h)
theorem withP_some {p q : Pln} {o : Int} {s : Spt} (h : withP p o s = some q) : (rightP p = true ∧ 1 ≤ o ∧ o ≤ 1000000 ∧ findP o p = none) ∧ ∃ a r b, Put1 p q o s a r b := by
  unfold withP at h
  split at h
  · rename_i hc
    exact ⟨hc, goW_some p [] rfl h⟩
  · cases h
noncomputable def stops (p : Pln) : List Stp := (p.map Rte.st).flatten
noncomputable def hdG (last : Int) : Pln → Prop
  | [] => True
  | r :: p => hdOK last r ∧ hdG r.drv p
theorem stOK_iff : ∀ {l seen : List Stp}, stOK seen l = true ↔ (∀ s, s ∈ l → 1 ≤ s.ord ∧ s.ord ≤ 1000000 ∧ s ∉ seen) ∧ l.Nodup
  | [], seen => by simp [stOK]
  | x :: l, seen => by
    unfold stOK
    rw [Bool.and_eq_true, decide_eq_true_eq, stOK_iff, List.nodup_cons]
    constructor
    · rintro ⟨⟨h1, h2, h3⟩, h4, h5⟩
      refine ⟨fun s hs => ?_, fun hx => (h4 x hx).2.2 (by simp), h5⟩
      rcases List.mem_cons.1 hs with e | hs
      · subst e; exact ⟨h1, h2, h3⟩
      · obtain ⟨q1, q2, q3⟩ := h4 s hs
        exact ⟨q1, q2, fun q => q3 (by simp [q])⟩
    · rintro ⟨h1, h2, h3⟩
      refine ⟨h1 x (by simp), fun s hs => ?_, h3⟩
      obtain ⟨q1, q2, q3⟩ := h1 s (by simp [hs])
      refine ⟨q1, q2, fun q => ?_⟩
      rcases List.mem_append.1 q with q | q
      · exact q3 q
      · rw [List.mem_singleton.1 q] at hs
        exact h2 hs
theorem rightG_iff : ∀ {p : Pln} {last : Int} {seen : List Stp}, rightG last seen p = true ↔ hdG last p ∧ (∀ s, s ∈ stops p → 1 ≤ s.ord ∧ s.ord ≤ 1000000 ∧ s ∉ seen) ∧ (stops p).Nodup
  | [], last, seen => by simp [rightG, hdG, stops]
  | r :: p, last, seen => by
    have ih := rightG_iff (p := p) (last := r.drv) (seen := seen ++ r.st)
    unfold rightG hdG
    rw [Bool.and_eq_true, Bool.and_eq_true, decide_eq_true_eq, stOK_iff, ih]
    have hs : stops (r :: p) = r.st ++ stops p := by simp [stops]
    rw [hs, List.nodup_append]
    constructor
    · rintro ⟨h1, ⟨h2, h3⟩, h4, h5, h6⟩
      refine ⟨⟨h1, h4⟩, fun s hm => ?_, h3, h6, fun a ha b hb e => ?_⟩
      · rcases List.mem_append.1 hm with hm | hm
        · exact h2 s hm
        · obtain ⟨q1, q2, q3⟩ := h5 s hm
          exact ⟨q1, q2, fun q => q3 (by simp [q])⟩
      · subst e
        exact (h5 a hb).2.2 (by simp [ha])
    · rintro ⟨⟨h1, h4⟩, h5, h3, h6, h7⟩
      refine ⟨h1, ⟨fun s hm => h5 s (by simp [hm]), h3⟩, h4, fun s hm => ?_, h6⟩
      obtain ⟨q1, q2, q3⟩ := h5 s (by simp [hm])
      refine ⟨q1, q2, fun q => ?_⟩
      rcases List.mem_append.1 q with q | q
      · exact q3 q
      · exact h7 s q s hm rfl
theorem rightP_iff {p : Pln} : rightP p = true ↔ p.length ≤ 8 ∧ hdG 0 p ∧ (∀ s, s ∈ stops p → 1 ≤ s.ord ∧ s.ord ≤ 1000000) ∧ (stops p).Nodup := by
  unfold rightP
  rw [Bool.and_eq_true, decide_eq_true_eq, rightG_iff]
  simp
theorem insS_perm (l : List Stp) (o : Int) {i j : Nat} (hij : i ≤ j) : (insS l o i j).Perm (⟨o, false⟩ :: ⟨o, true⟩ :: l) := by
  have hl : l = l.take i ++ ((l.drop i).take (j - i) ++ l.drop j) := by
    have : (l.drop i).take (j - i) ++ l.drop j = l.drop i := by
      conv => rhs; rw [← List.take_append_drop (j - i) (l.drop i)]
      rw [List.drop_drop, show i + (j - i) = j by omega]
    rw [this, List.take_append_drop]
  unfold insS
  refine List.Perm.trans List.perm_middle (List.Perm.cons _ ?_)
  rw [← List.append_assoc]
  refine List.Perm.trans List.perm_middle (List.Perm.cons _ ?_)
  rw [List.append_assoc, ← hl]
theorem hdG_put : ∀ {a : Pln} {r r' : Rte} {b : Pln} {last : Int}, hdG last (a ++ r :: b) → r'.drv = r.drv → (∀ last, hdOK last r → hdOK last r') → hdG last (a ++ r' :: b)
  | [], r, r', b, last, h, hd, hh => by
    obtain ⟨h1, h2⟩ := h
    exact ⟨hh _ h1, by rw [hd]; exact h2⟩
  | x :: a, r, r', b, last, h, hd, hh => ⟨h.1, hdG_put h.2 hd hh⟩
theorem insS_lenP (l : List Stp) (o : Int) {i j : Nat} (hij : i ≤ j) : (insS l o i j).length = l.length + 2 := by
  rw [(insS_perm l o hij).length_eq]
  rfl
section
variable {p q a b : Pln} {r : Rte} {o : Int} {s : Spt}
theorem Put1.stops (h : Put1 p q o s a r b) : (Lv.stops q).Perm (⟨o, false⟩ :: ⟨o, true⟩ :: Lv.stops p) := by
  have hok := h.ok
  rw [h.q, h.p]
  unfold Lv.stops
  simp only [List.map_append, List.map_cons, List.flatten_append, List.flatten_cons]
  have h1 := insS_perm r.st o (i := s.pick.toNat) (j := s.drop.toNat) (by have := hok.2.2.1; omega)
  have h2 : (inR r o s).st = insS r.st o s.pick.toNat s.drop.toNat := rfl
  rw [h2]
  refine List.Perm.trans (List.Perm.append_left _ (List.Perm.append_right _ h1)) ?_
  simp only [List.cons_append]
  refine List.Perm.trans List.perm_middle (List.Perm.cons _ ?_)
  exact List.perm_middle
theorem Put1.right (h : Put1 p q o s a r b) (hr : rightP p = true) (h1 : 1 ≤ o) (h2 : o ≤ 1000000) (hn : findP o p = none) : rightP q = true := by
  rw [rightP_iff] at hr ⊢
  obtain ⟨r1, r2, r3, r4⟩ := hr
  have hst := h.stops
  have hno : ∀ x, x ∈ Lv.stops p → x.ord ≠ o := fun x hx => by
    obtain ⟨l, hl, hx⟩ := List.mem_flatten.1 hx
    obtain ⟨r', hr', rfl⟩ := List.mem_map.1 hl
    exact findP_none hn r' hr' x hx
  have hok := h.ok
  refine ⟨by rw [h.q]; rw [h.p] at r1; simpa using r1, ?_, fun x hx => ?_, ?_⟩
  · rw [h.p] at r2
    rw [h.q]
    refine hdG_put r2 rfl (fun last hh => ?_)
    have hl := insS_lenP r.st o (i := s.pick.toNat) (j := s.drop.toNat) (by have := hok.2.2.1; omega)
    refine ⟨hh.1, hh.2.1, ?_, hh.2.2.2.1, ?_⟩
    · show (insS r.st o s.pick.toNat s.drop.toNat).length ≤ 80
      have := hok.1
      omega
    · show r.srv ≤ ((insS r.st o s.pick.toNat s.drop.toNat).length : Int)
      have := hh.2.2.2.2
      omega
  · rcases List.mem_cons.1 (hst.mem_iff.1 hx) with e | hx
    · subst e; exact ⟨h1, h2⟩
    · rcases List.mem_cons.1 hx with e | hx
      · subst e; exact ⟨h1, h2⟩
      · exact r3 x hx
  · rw [hst.nodup_iff, List.nodup_cons, List.nodup_cons]
    refine ⟨fun q => ?_, fun q => hno _ q rfl, r4⟩
    rcases List.mem_cons.1 q with e | q
    · cases e
    · exact hno _ q rfl
end
end Go.Lv

namespace Go.Lv
open Go.Proofs

noncomputable def strS (os : List Ord) : List Stp → List Stp → Prop
  | _, [] => True
  | ahead, s :: r => wrongE os ahead s = 0 ∧ strS os (ahead ++ [s]) r
theorem ldO_more (o : Ord) (load : Int) (b : Bool) : ldO o load b = load + (legO o b).more := by
  cases b
  · rfl
  · show load - o.size = load + -o.size
    omega
theorem legO_site (o : Ord) (b : Bool) : (legO o b).site = siteO o b := by cases b <;> rfl
theorem goT_ok {m : Mp} {d : Drv} {os : List Ord} : ∀ {st ahead : List Stp} {s : Sta} {out : List Vis}, (goT m d os ahead s.now s.at_ s.load out st).2.2 = 0 ↔ strS os ahead st ∧ (walkS m d (legsOf os st) (s, true)).2 = true ∧ (walkS m d (legsOf os st) (s, true)).1.load ≤ 0
  | [], ahead, s, out => by
    unfold goT
    show (if s.load > 0 then (([], (ahead.length : Int), 18) : List Vis × Int × Int) else (out, 0, 0)).2.2 = 0 ↔ True ∧ (true = true) ∧ s.load ≤ 0
    by_cases h : s.load > 0
    · rw [if_pos h]
      exact ⟨fun q => absurd q (by show ¬ (18 : Int) = 0; decide), fun q => by omega⟩
    · rw [if_neg h]
      exact ⟨fun _ => ⟨trivial, rfl, by omega⟩, fun _ => rfl⟩
  | x :: r, ahead, s, out => by
    have hwk : walkS m d (legsOf os (x :: r)) (s, true) = walkS m d (legsOf os r) (stepS m s (legO (ordOf os x) x.drop), stepB m d s (legO (ordOf os x) x.drop)) := rfl
    rw [hwk]
    have hoff : stepB m d s (legO (ordOf os x) x.drop) = false → ¬ (walkS m d (legsOf os r) (stepS m s (legO (ordOf os x) x.drop), stepB m d s (legO (ordOf os x) x.drop))).2 = true := fun h q => by
      rw [walkS_off h] at q
      rw [show stepB m d s (legO (ordOf os x) x.drop) = true from q] at h
      cases h
    have hsi : (legO (ordOf os x) x.drop).site = sitOf os x := legO_site _ _
    have hld : ldOf os x s.load = s.load + (legO (ordOf os x) x.drop).more := ldO_more _ _ _
    have hsb : stepB m d s (legO (ordOf os x) x.drop) = (bgB (sitOf os x).w (s.now + timeM m s.at_ (sitOf os x).place) && (decide (bgO (sitOf os x).w (s.now + timeM m s.at_ (sitOf os x).place) + (sitOf os x).serv ≤ d.w.hi) && decide (ldOf os x s.load ≤ d.room))) := by
      unfold stepB
      rw [hld]
      unfold stepS
      rw [hsi]
    have hss : stepS m s (legO (ordOf os x) x.drop) = ⟨bgO (sitOf os x).w (s.now + timeM m s.at_ (sitOf os x).place) + (sitOf os x).serv, (sitOf os x).place, ldOf os x s.load, s.way + timeM m s.at_ (sitOf os x).place⟩ := by
      unfold stepS
      rw [hsi, hld]
    unfold goT
    by_cases h1 : wrongE os ahead x = 0
    · rw [if_neg (fun h => h h1)]
      by_cases h2 : ldOf os x s.load > d.room
      · rw [if_pos h2]
        have : stepB m d s (legO (ordOf os x) x.drop) = false := by rw [hsb, decide_eq_false (show ¬ ldOf os x s.load ≤ d.room by omega)]; simp
        exact ⟨fun q => absurd q (by show ¬ (14 : Int) = 0; decide), fun q => absurd q.2.1 (hoff this)⟩
      rw [if_neg h2]
      cases hb : beginW (sitOf os x).w (s.now + timeM m s.at_ (sitOf os x).place) with
      | none =>
        have : stepB m d s (legO (ordOf os x) x.drop) = false := by rw [hsb]; unfold bgB; rw [hb]; rfl
        exact ⟨fun q => absurd q (by show ¬ (15 : Int) = 0; decide), fun q => absurd q.2.1 (hoff this)⟩
      | some b =>
        have hbo : bgO (sitOf os x).w (s.now + timeM m s.at_ (sitOf os x).place) = b := by unfold bgO; rw [hb]
        have hbb : bgB (sitOf os x).w (s.now + timeM m s.at_ (sitOf os x).place) = true := by unfold bgB; rw [hb]
        show (if b + (sitOf os x).serv > d.w.hi then (([], (ahead.length : Int), 15) : List Vis × Int × Int) else _).2.2 = 0 ↔ _
        by_cases h3 : b + (sitOf os x).serv > d.w.hi
        · rw [if_pos h3]
          have : stepB m d s (legO (ordOf os x) x.drop) = false := by rw [hsb, hbo, decide_eq_false (show ¬ b + (sitOf os x).serv ≤ d.w.hi by omega)]; simp
          exact ⟨fun q => absurd q (by show ¬ (15 : Int) = 0; decide), fun q => absurd q.2.1 (hoff this)⟩
        rw [if_neg h3]
        have hst : stepB m d s (legO (ordOf os x) x.drop) = true := by rw [hsb, hbb, hbo, decide_eq_true (show b + (sitOf os x).serv ≤ d.w.hi by omega), decide_eq_true (show ldOf os x s.load ≤ d.room by omega)]; rfl
        rw [hst, hss, hbo]
        have := goT_ok (m := m) (d := d) (os := os) (st := r) (ahead := ahead ++ [x]) (s := ⟨b + (sitOf os x).serv, (sitOf os x).place, ldOf os x s.load, s.way + timeM m s.at_ (sitOf os x).place⟩) (out := out ++ [⟨x, s.now + timeM m s.at_ (sitOf os x).place, b, b + (sitOf os x).serv, ldOf os x s.load⟩])
        refine this.trans ?_
        exact ⟨fun ⟨a, b⟩ => ⟨⟨h1, a⟩, b⟩, fun ⟨⟨_, a⟩, b⟩ => ⟨a, b⟩⟩
    · rw [if_pos h1]
      exact ⟨fun q => absurd q h1, fun q => absurd q.1.1 h1⟩
theorem timed_ok {m : Mp} {d : Drv} {os : List Ord} {st : List Stp} : (timed m d os st).2.2 = 0 ↔ strS os [] st ∧ (walkS m d (legsOf os st) (sta0 d, true)).2 = true ∧ (walkS m d (legsOf os st) (sta0 d, true)).1.load ≤ 0 := goT_ok (s := sta0 d)
theorem walkS_app {m : Mp} {d : Drv} : ∀ {a b : List Leg} {r : Sta × Bool}, walkS m d (a ++ b) r = walkS m d b (walkS m d a r)
  | [], _, _ => rfl
  | l :: a, b, r => by
    obtain ⟨s, f⟩ := r
    cases f with
    | false => rw [walkS_off rfl, walkS_off (ls := l :: a) rfl, walkS_off rfl]
    | true => exact walkS_app (a := a) (b := b) (r := (stepS m s l, stepB m d s l))
theorem walkS_run {m : Mp} {d : Drv} : ∀ {ls : List Leg} {s : Sta}, (walkS m d ls (s, true)).2 = true → walkS m d ls (s, true) = (runS m s ls, true)
  | [], _, _ => rfl
  | l :: ls, s, h => by
    have e : walkS m d (l :: ls) (s, true) = walkS m d ls (stepS m s l, stepB m d s l) := rfl
    rw [e] at h ⊢
    cases hb : stepB m d s l with
    | false =>
      rw [hb, walkS_off rfl] at h
      cases h
    | true =>
      rw [hb] at h
      exact walkS_run h
theorem walkS_pre {m : Mp} {d : Drv} {a b : List Leg} {r : Sta × Bool} (h : (walkS m d (a ++ b) r).2 = true) : (walkS m d a r).2 = true := by
  rw [walkS_app] at h
  cases hc : (walkS m d a r).2 with
  | true => rfl
  | false =>
    rw [walkS_off hc, hc] at h
    exact h
theorem walkS_one {m : Mp} {d : Drv} {l : Leg} {ls : List Leg} {r : Sta × Bool} : walkS m d (l :: ls) r = walkS m d ls (stepX m d l r) := by
  obtain ⟨s, f⟩ := r
  cases f with
  | false => rw [walkS_off rfl, show stepX m d l (s, false) = (s, false) from rfl, walkS_off rfl]
  | true => rfl
theorem runS_load {m : Mp} : ∀ {ls : List Leg} {s : Sta}, (runS m s ls).load = s.load + (ls.map Leg.more).sum
  | [], s => by show s.load = s.load + 0; omega
  | l :: ls, s => by
    show (runS m (stepS m s l) ls).load = _
    rw [runS_load, List.map_cons, List.sum_cons]
    show s.load + l.more + _ = _
    omega
theorem legs_ins {os : List Ord} {st : List Stp} {o : Ord} {i j : Nat} (hf : findO o.id os = some o) : legsOf os (insS st o.id i j) = (legsOf os st).take i ++ (legO o false :: (((legsOf os st).drop i).take (j - i) ++ (legO o true :: (legsOf os st).drop j))) := by
  have h1 : ordOf os ⟨o.id, false⟩ = o := by unfold ordOf; rw [show findO (⟨o.id, false⟩ : Stp).ord os = some o from hf]; rfl
  have h2 : ordOf os ⟨o.id, true⟩ = o := by unfold ordOf; rw [show findO (⟨o.id, true⟩ : Stp).ord os = some o from hf]; rfl
  unfold insS legsOf
  simp only [List.map_append, List.map_cons, List.map_take, List.map_drop, h1, h2]
theorem cut3 {α : Type} (l : List α) {i j : Nat} (h : i ≤ j) : l = l.take i ++ ((l.drop i).take (j - i) ++ l.drop j) := by
  have : l.drop j = (l.drop i).drop (j - i) := by rw [List.drop_drop]; congr 1; omega
  rw [this, List.take_append_drop, List.take_append_drop]
theorem endS_walk {m : Mp} {d : Drv} {rest os : List Ord} {st : List Stp} {o : Ord} {i j : Nat} (hij : i ≤ j) (hj : j ≤ st.length) (hl : legsOf rest st = legsOf os st) (hw : (walkS m d (legsOf os st) (sta0 d, true)).2 = true) :
    endS m (madeX m d rest st o) i j = walkS m d ((legsOf os st).take i ++ (legO o false :: (((legsOf os st).drop i).take (j - i) ++ (legO o true :: (legsOf os st).drop j)))) (sta0 d, true) := by
  have hlen : (legsOf os st).length = st.length := by unfold legsOf; rw [List.length_map]
  have hp : (walkS m d ((legsOf os st).take i) (sta0 d, true)).2 = true := walkS_pre (b := (legsOf os st).drop i) (by rw [List.take_append_drop]; exact hw)
  have hpre : (preOf m d (legsOf os st) st.length).getD i ⟨0, 0, 0, 0⟩ = runS m (sta0 d) ((legsOf os st).take i) := by
    unfold preOf
    rw [List.getD_eq_getElem?_getD, List.getElem?_map, List.getElem?_range (by omega)]
    rfl
  rw [walkS_app, walkS_run hp]
  unfold endS madeX
  rw [hl]
  show walkS m d ((legsOf os st).drop j) (stepX m d (legO o true) (walkS m d (((legsOf os st).drop i).take (j - i)) (stepS m ((preOf m d (legsOf os st) st.length).getD i ⟨0, 0, 0, 0⟩) (legO o false), stepB m d ((preOf m d (legsOf os st) st.length).getD i ⟨0, 0, 0, 0⟩) (legO o false)))) = _
  rw [hpre, walkS_one, walkS_app, walkS_one]
  rfl
theorem strS_app {os : List Ord} : ∀ {a b ahead : List Stp}, strS os ahead (a ++ b) ↔ strS os ahead a ∧ strS os (ahead ++ a) b
  | [], b, ahead => by rw [List.append_nil]; exact ⟨fun h => ⟨trivial, h⟩, fun h => h.2⟩
  | s :: a, b, ahead => by
    show wrongE os ahead s = 0 ∧ strS os (ahead ++ [s]) (a ++ b) ↔ (wrongE os ahead s = 0 ∧ strS os (ahead ++ [s]) a) ∧ _
    rw [strS_app (a := a) (b := b) (ahead := ahead ++ [s]), List.append_assoc, List.singleton_append]
    exact ⟨fun ⟨h1, h2, h3⟩ => ⟨⟨h1, h2⟩, h3⟩, fun ⟨⟨h1, h2⟩, h3⟩ => ⟨h1, h2, h3⟩⟩
theorem wrongE_of {os : List Ord} {ahead : List Stp} {s : Stp} {o : Ord} (h : findO s.ord os = some o) (h1 : s ∉ ahead) (h2 : s.drop = true → (⟨s.ord, false⟩ : Stp) ∈ ahead) : wrongE os ahead s = 0 := by
  unfold wrongE
  rw [h]
  show (if s ∈ ahead then (16 : Int) else if s.drop = true ∧ (⟨s.ord, false⟩ : Stp) ∉ ahead then 17 else 0) = 0
  rw [if_neg h1, if_neg (fun q => q.2 (h2 q.1))]
theorem strS_ins {os : List Ord} {x : Int} : ∀ {st ahead ahead2 : List Stp}, noO x st → (∀ s, s ∈ ahead → s ∈ ahead2) → (∀ s, s ∈ ahead2 → s ∈ ahead ∨ s.ord = x) → strS os ahead st → strS os ahead2 st
  | [], _, _, _, _, _, _ => trivial
  | s :: r, ahead, ahead2, hn, h1, h2, h => by
    obtain ⟨o, ho, hna, hd⟩ := wrongE_0 h.1
    refine ⟨wrongE_of ho (fun q => ?_) (fun q => ?_), strS_ins (st := r) (ahead := ahead ++ [s]) (fun y hy => hn y (by simp [hy])) (fun y hy => ?_) (fun y hy => ?_) h.2⟩
    · rcases h2 s q with q | q
      · exact hna q
      · exact hn s (by simp) q
    · exact h1 _ (Classical.byContradiction fun w => hd ⟨q, w⟩)
    · rcases List.mem_append.1 hy with hy | hy
      · exact List.mem_append.2 (.inl (h1 y hy))
      · exact List.mem_append.2 (.inr hy)
    · rcases List.mem_append.1 hy with hy | hy
      · rcases h2 y hy with q | q
        · exact .inl (List.mem_append.2 (.inl q))
        · exact .inr q
      · exact .inl (List.mem_append.2 (.inr hy))
theorem strS_put {os : List Ord} {st : List Stp} {o : Ord} {i j : Nat} (hij : i ≤ j) (hf : findO o.id os = some o) (hn : noO o.id st) (h : strS os [] st) : strS os [] (insS st o.id i j) := by
  rw [cut3 st hij, strS_app, strS_app] at h
  obtain ⟨ha, hb, hc⟩ := h
  have na : ∀ s, s ∈ st.take i → s.ord ≠ o.id := fun s hs => hn s (List.mem_of_mem_take hs)
  have nb : noO o.id ((st.drop i).take (j - i)) := fun s hs => hn s (List.mem_of_mem_drop (List.mem_of_mem_take hs))
  have nc : noO o.id (st.drop j) := fun s hs => hn s (List.mem_of_mem_drop hs)
  unfold insS
  rw [strS_app]
  refine ⟨ha, ?_⟩
  rw [List.nil_append] at hb hc ⊢
  refine ⟨wrongE_of hf (fun q => na _ q rfl) (fun q => by cases q), ?_⟩
  rw [strS_app]
  refine ⟨strS_ins (ahead := st.take i) nb (fun s hs => List.mem_append.2 (.inl hs)) (fun s hs => ?_) hb, wrongE_of hf (fun q => ?_) (fun _ => by simp), ?_⟩
  · rcases List.mem_append.1 hs with q | q
    · exact .inl q
    · rw [List.mem_singleton.1 q]
      exact .inr rfl
  · rcases List.mem_append.1 q with q | q
    · rcases List.mem_append.1 q with q | q
      · exact na _ q rfl
      · have := List.mem_singleton.1 q
        cases this
    · exact nb _ q rfl
  · refine strS_ins (ahead := st.take i ++ (st.drop i).take (j - i)) nc (fun s hs => ?_) (fun s hs => ?_) hc
    · rcases List.mem_append.1 hs with q | q
      · simp [q]
      · simp [q]
    · simp only [List.mem_append, List.mem_singleton] at hs
      rcases hs with ((q | q) | q) | q
      · exact .inl (List.mem_append.2 (.inl q))
      · rw [q]; exact .inr rfl
      · exact .inl (List.mem_append.2 (.inr q))
      · rw [q]; exact .inr rfl
theorem price_ok {m : Mp} {d : Drv} {rest os : List Ord} {st : List Stp} {o : Ord} {i j : Nat} (hij : i ≤ j) (hj : j ≤ st.length) (hl : legsOf rest st = legsOf os st) (hs : strS os [] st) (hf : findO o.id os = some o) (hn : noO o.id st)
    (hw : (walkS m d (legsOf os st) (sta0 d, true)).2 = true) (hld : (walkS m d (legsOf os st) (sta0 d, true)).1.load ≤ 0) (hp : priceB m (madeX m d rest st o) i j = true) : (timed m d os (insS st o.id i j)).2.2 = 0 := by
  have he := endS_walk (o := o) hij hj hl hw
  unfold priceB at hp
  rw [Bool.and_eq_true] at hp
  have hp := hp.1
  rw [he, ← legs_ins hf] at hp
  refine timed_ok.2 ⟨strS_put hij hf hn hs, hp, ?_⟩
  rw [walkS_run hp]
  rw [walkS_run hw] at hld
  show (runS m (sta0 d) _).load ≤ 0
  have hld : (runS m (sta0 d) (legsOf os st)).load ≤ 0 := hld
  rw [runS_load] at hld ⊢
  have hc := cut3 (legsOf os st) hij
  have e1 : ((legsOf os st).map Leg.more).sum = (((legsOf os st).take i).map Leg.more).sum + (((((legsOf os st).drop i).take (j - i)).map Leg.more).sum + (((legsOf os st).drop j).map Leg.more).sum) := by
    conv => lhs; rw [hc]
    simp only [List.map_append, List.sum_append]
  rw [legs_ins hf]
  simp only [List.map_append, List.map_cons, List.sum_append, List.sum_cons]
  have e2 : (legO o false).more = o.size := rfl
  have e3 : (legO o true).more = -o.size := rfl
  rw [e2, e3]
  omega
end Go.Lv

namespace Go.Lv
open Go.Proofs

theorem goMk_of {m : Mp} {ds : List Drv} {os : List Ord} : ∀ {p : Pln} {i : Nat} {c : List (List Vis)}, (∀ r, r ∈ p → ∃ d, findDr r.drv ds = some d ∧ (timed m d os r.st).2.2 = 0) → (goMk m ds os i c p).2.2 = 0
  | [], _, _, _ => rfl
  | x :: p, i, c, h => by
    obtain ⟨d, h1, h2⟩ := h x (by simp)
    unfold goMk
    rw [h1]
    show (if (timed m d os x.st).2.2 ≠ 0 then (([], (i : Int), (timed m d os x.st).2.2) : List (List Vis) × Int × Int) else goMk m ds os (i + 1) (c ++ [(timed m d os x.st).1]) p).2.2 = 0
    rw [if_neg (fun q => q h2)]
    exact goMk_of (fun r hr => h r (by simp [hr]))
theorem makeR_of {m : Mp} {ds : List Drv} {os : List Ord} {p : Pln} (ht : togO m ds os p) (h : ∀ r, r ∈ p → ∃ d, findDr r.drv ds = some d ∧ (timed m d os r.st).2.2 = 0) : (makeR m ds os p).2.2 = 0 := by
  unfold makeR
  rw [if_pos ht]
  exact goMk_of h
theorem findO_others {x id : Int} (h : id ≠ x) : ∀ {os : List Ord}, findO id (othersO x os) = findO id os
  | [] => rfl
  | o :: os => by
    unfold othersO
    rw [List.filter_cons]
    by_cases hx : o.id = x
    · rw [if_neg (by simp [hx])]
      show findO id (othersO x os) = if o.id = id then some o else findO id os
      rw [if_neg (by omega)]
      exact findO_others h
    · rw [if_pos (by simp [hx])]
      show (if o.id = id then some o else findO id (othersO x os)) = if o.id = id then some o else findO id os
      rw [findO_others h]
theorem findO_self {o : Ord} : ∀ {os : List Ord}, o ∈ os → os.Pairwise (fun a b => a.id ≠ b.id) → findO o.id os = some o
  | [], h, _ => by cases h
  | x :: os, h, hp => by
    have hp := List.pairwise_cons.1 hp
    show (if x.id = o.id then some x else findO o.id os) = some o
    rcases List.mem_cons.1 h with e | h
    · rw [e, if_pos rfl]
    · rw [if_neg (hp.1 o h)]
      exact findO_self h hp.2
theorem wrongE_others {x : Int} {os : List Ord} {ahead : List Stp} {s : Stp} (h : s.ord ≠ x) : wrongE (othersO x os) ahead s = wrongE os ahead s := by
  unfold wrongE
  rw [findO_others h]
theorem ordOf_others {x : Int} {os : List Ord} {s : Stp} (h : s.ord ≠ x) : ordOf (othersO x os) s = ordOf os s := by
  unfold ordOf
  rw [findO_others h]
theorem strS_others {x : Int} {os : List Ord} : ∀ {st ahead : List Stp}, noO x st → (strS (othersO x os) ahead st ↔ strS os ahead st)
  | [], _, _ => Iff.rfl
  | s :: r, ahead, h => by
    show (wrongE (othersO x os) ahead s = 0 ∧ strS (othersO x os) (ahead ++ [s]) r) ↔ (wrongE os ahead s = 0 ∧ strS os (ahead ++ [s]) r)
    rw [wrongE_others (h s (by simp)), strS_others (fun y hy => h y (by simp [hy]))]
theorem legs_others {x : Int} {os : List Ord} {st : List Stp} (h : noO x st) : legsOf (othersO x os) st = legsOf os st := by
  unfold legsOf
  exact List.map_congr_left fun s hs => by rw [ordOf_others (h s hs)]
theorem timed_others {m : Mp} {d : Drv} {x : Int} {os : List Ord} {st : List Stp} (h : noO x st) : (timed m d (othersO x os) st).2.2 = 0 ↔ (timed m d os st).2.2 = 0 := by
  rw [timed_ok, timed_ok, strS_others h, legs_others h]
theorem bestG_spot {m : Mp} {x : Srch} {B : Int} : ∀ {ps : List (Nat × Nat)} {o : Spt} {t : Int} {f : Bool}, (bestG m x B ps o t f).2.2 = true → (f = true ∧ (bestG m x B ps o t f).1 = o) ∨ ∃ q, q ∈ ps ∧ priceB m x q.1 q.2 = true ∧ (bestG m x B ps o t f).1 = ⟨x.d.id, q.1, q.2, priceW m x q.1 q.2⟩
  | [], _, _, _, h => .inl ⟨h, rfl⟩
  | (i, j) :: ps, o, t, f, h => by
    unfold bestG at h ⊢
    by_cases ht : t ≥ B
    · rw [if_pos ht] at h ⊢
      exact .inl ⟨h, rfl⟩
    rw [if_neg ht] at h ⊢
    by_cases hc : priceB m x i j = true ∧ (f = false ∨ priceW m x i j < o.cost)
    · rw [if_pos hc] at h ⊢
      rcases bestG_spot h with ⟨_, q⟩ | ⟨q, h1, h2⟩
      · exact .inr ⟨(i, j), by simp, hc.1, q⟩
      · exact .inr ⟨q, by simp [h1], h2⟩
    · rw [if_neg hc] at h ⊢
      rcases bestG_spot h with q | ⟨q, h1, h2⟩
      · exact .inl q
      · exact .inr ⟨q, by simp [h1], h2⟩
theorem bestX_spot {m : Mp} {x : Srch} {s : Nat} {B : Int} (h : (bestX m x s B).2.2 = true) : ∃ i j, i ≤ j ∧ j ≤ x.legs.length ∧ priceB m x i j = true ∧ (bestX m x s B).1 = ⟨x.d.id, (i : Nat), (j : Nat), priceW m x i j⟩ := by
  rcases bestG_spot h with ⟨q, _⟩ | ⟨q, h1, h2, h3⟩
  · cases q
  · have hok : okPs x.legs.length (rowsI x.legs.length s (x.legs.length + 1 - s)) := by
      by_cases hs : s ≤ x.legs.length + 1
      · exact rowsI_ok (by omega)
      · rw [show x.legs.length + 1 - s = 0 by omega]
        exact fun q hq => by cases hq
    exact ⟨q.1, q.2, (hok q h1).1, (hok q h1).2, h2, h3⟩
theorem lookG_spot {m : Mp} {ds : List Drv} {os : List Ord} {o : Ord} {B : Int} : ∀ {p : Pln} {out : Spt} {t : Int} {f : Bool}, (lookG m ds os o B p out t f).2.2 = true → (f = true ∧ (lookG m ds os o B p out t f).1 = out) ∨ ∃ r, r ∈ p ∧ ∃ i j, i ≤ j ∧ j ≤ r.st.length ∧ priceB m (madeX m (drOf r.drv ds) os r.st o) i j = true ∧ (lookG m ds os o B p out t f).1 = ⟨(drOf r.drv ds).id, (i : Nat), (j : Nat), priceW m (madeX m (drOf r.drv ds) os r.st o) i j⟩
  | [], _, _, _, h => .inl ⟨h, rfl⟩
  | r :: p, out, t, f, h => by
    have hb := bestX_spot (m := m) (x := madeX m (drOf r.drv ds) os r.st o) (s := r.srv.toNat) (B := B - t)
    have hlen : (madeX m (drOf r.drv ds) os r.st o).legs.length = r.st.length := by show (legsOf os r.st).length = _; unfold legsOf; rw [List.length_map]
    unfold lookG at h ⊢
    generalize bestX m (madeX m (drOf r.drv ds) os r.st o) r.srv.toNat (B - t) = b at h hb ⊢
    by_cases hc : (drOf r.drv ds).ret = true ∨ r.st.length > 78
    · rw [if_pos hc] at h ⊢
      rcases lookG_spot h with q | ⟨r', h1, h2⟩
      · exact .inl q
      · exact .inr ⟨r', by simp [h1], h2⟩
    rw [if_neg hc] at h ⊢
    by_cases hd : b.2.2 = true ∧ (f = false ∨ b.1.cost < out.cost)
    · rw [if_pos hd] at h ⊢
      rcases lookG_spot h with ⟨_, q⟩ | ⟨r', h1, h2⟩
      · obtain ⟨i, j, a1, a2, a3, a4⟩ := hb hd.1
        exact .inr ⟨r, by simp, i, j, a1, by rw [← hlen]; exact a2, a3, by rw [q, a4]; rfl⟩
      · exact .inr ⟨r', by simp [h1], h2⟩
    · rw [if_neg hd] at h ⊢
      rcases lookG_spot h with q | ⟨r', h1, h2⟩
      · exact .inl q
      · exact .inr ⟨r', by simp [h1], h2⟩
theorem cheapR_spot {m : Mp} {ds : List Drv} {os : List Ord} {p : Pln} {o : Ord} {B : Int} (h : (cheapR m ds os p o B).2.2 = 0) : (makeR m ds os p).2.2 = 0 ∧ ∃ r, r ∈ p ∧ ∃ i j, i ≤ j ∧ j ≤ r.st.length ∧ priceB m (madeX m (drOf r.drv ds) os r.st o) i j = true ∧ (cheapR m ds os p o B).1 = ⟨(drOf r.drv ds).id, (i : Nat), (j : Nat), priceW m (madeX m (drOf r.drv ds) os r.st o) i j⟩ := by
  unfold cheapR at h ⊢
  by_cases hc : (makeR m ds os p).2.2 = 0 ∧ askO m os o B
  · rw [if_pos hc] at h ⊢
    refine ⟨hc.1, ?_⟩
    have hs := lookG_spot (m := m) (ds := ds) (os := os) (o := o) (B := B) (p := p) (out := ⟨0, 0, 0, 0⟩) (t := 0) (f := false)
    unfold lookR at h ⊢
    generalize lookG m ds os o B p ⟨0, 0, 0, 0⟩ 0 false = x at h hs ⊢
    obtain ⟨a, b, c⟩ := x
    cases c
    · exact absurd h (by show ¬ (20 : Int) = 0; decide)
    · rcases hs rfl with ⟨q, _⟩ | q
      · cases q
      · exact q
  · rw [if_neg hc] at h
    exact absurd h (by show ¬ (1 : Int) = 0; decide)
theorem hdG_lt : ∀ {p : Pln} {last : Int}, hdG last p → ∀ r, r ∈ p → last < r.drv
  | [], _, _, r, hr => by cases hr
  | x :: p, last, h, r, hr => by
    rcases List.mem_cons.1 hr with e | hr
    · rw [e]; exact h.1.1
    · have := hdG_lt h.2 r hr
      have := h.1.1
      omega
theorem hdG_one : ∀ {p : Pln} {last : Int}, hdG last p → ∀ {r r2 : Rte}, r ∈ p → r2 ∈ p → r.drv = r2.drv → r = r2
  | [], _, _, r, _, hr, _, _ => by cases hr
  | x :: p, last, h, r, r2, hr, hr2, e => by
    rcases List.mem_cons.1 hr with e1 | hr <;> rcases List.mem_cons.1 hr2 with e2 | hr2
    · rw [e1, e2]
    · have := hdG_lt h.2 r2 hr2
      rw [e1] at e
      omega
    · have := hdG_lt h.2 r hr
      rw [e2] at e
      omega
    · exact hdG_one h.2 hr hr2 e
structure Mvd (m : Mp) (ds : List Drv) (os : List Ord) (p q : Pln) (o : Ord) (a : Pln) (r : Rte) (b : Pln) (i j : Nat) (d : Drv) : Prop where
  put : Put1 (woP p [o.id]) q o.id ⟨d.id, i, j, priceW m (madeX m d (othersO o.id os) r.st o) i j⟩ a r b
  none : findP o.id (woP p [o.id]) = none
  right : rightP q = true
  ij : i ≤ j
  jn : j ≤ r.st.length
  dr : findDr r.drv ds = some d
  price : priceB m (madeX m d (othersO o.id os) r.st o) i j = true
  make : (makeR m ds (othersO o.id os) (woP p [o.id])).2.2 = 0
  less : totP m ds (othersO o.id os) (woP p [o.id]) + priceW m (madeX m d (othersO o.id os) r.st o) i j < totP m ds os p
theorem movedR_mvd {m : Mp} {ds : List Drv} {os : List Ord} {p : Pln} {o : Ord} {B : Int} (h : (movedR m ds os p o B).2.2 = true) : ∃ a r b i j d, Mvd m ds os p (movedR m ds os p o B).1 o a r b i j d := by
  unfold movedR at h ⊢
  by_cases hc : (cheapR m ds (othersO o.id os) (woP p [o.id]) o B).2.2 ≠ 0 ∨ totP m ds (othersO o.id os) (woP p [o.id]) + (cheapR m ds (othersO o.id os) (woP p [o.id]) o B).1.cost ≥ totP m ds os p
  · rw [if_pos hc] at h
    cases h
  rw [if_neg hc] at h ⊢
  have hce : (cheapR m ds (othersO o.id os) (woP p [o.id]) o B).2.2 = 0 := Classical.byContradiction fun q => hc (.inl q)
  have hlt : ¬ totP m ds (othersO o.id os) (woP p [o.id]) + (cheapR m ds (othersO o.id os) (woP p [o.id]) o B).1.cost ≥ totP m ds os p := fun q => hc (.inr q)
  obtain ⟨hmk, r, hr, i, j, hij, hj, hpr, hsp⟩ := cheapR_spot hce
  rw [hsp] at h hlt ⊢
  cases hw : withP (woP p [o.id]) o.id ⟨(drOf r.drv ds).id, (i : Nat), (j : Nat), priceW m (madeX m (drOf r.drv ds) (othersO o.id os) r.st o) i j⟩ with
  | none =>
    rw [hw] at h
    cases h
  | some q =>
    obtain ⟨⟨hrt, h1, h2, hn⟩, a, r2, b, hput⟩ := withP_some hw
    obtain ⟨d, hd, hdm, hdo, hde, htd⟩ := makeR_dr hmk r hr
    have hid := (findDr_mem hd).2
    rw [hdo] at hput hpr hlt
    have hr2 : r2 ∈ woP p [o.id] := by rw [hput.p]; simp
    have : r2 = r := hdG_one (rightP_iff.1 hrt).2.1 hr2 hr (by rw [hput.drv]; exact hid)
    subst this
    exact ⟨a, r2, b, i, j, d, hput, hn, hput.right hrt h1 h2 hn, hij, hj, hd, hpr, hmk, by show _ < _; have : ¬ totP m ds (othersO o.id os) (woP p [o.id]) + priceW m (madeX m d (othersO o.id os) r2.st o) i j ≥ totP m ds os p := hlt; omega⟩
theorem Mvd.vd {m : Mp} {ds : List Drv} {os : List Ord} {p q : Pln} {o : Ord} {a : Pln} {r : Rte} {b : Pln} {i j : Nat} {d : Drv} (h : Mvd m ds os p q o a r b i j d) (hv : (makeR m ds os p).2.2 = 0) (ho : o ∈ os) : (makeR m ds os q).2.2 = 0 := by
  have htg := makeR_tog hv
  have hf := findO_self ho htg.2.1.2.2
  have hno := findP_none h.none
  have hdr := makeR_dr h.make
  refine makeR_of ⟨htg.1, htg.2.1, h.right, htg.2.2.2.1, htg.2.2.2.2⟩ (fun x hx => ?_)
  rw [h.put.q] at hx
  have keep : ∀ y, y ∈ woP p [o.id] → ∃ d, findDr y.drv ds = some d ∧ (timed m d os y.st).2.2 = 0 := fun y hy => by
    obtain ⟨e, h1, _, _, _, h2⟩ := hdr y hy
    exact ⟨e, h1, (timed_others (hno y hy)).1 h2⟩
  rcases List.mem_append.1 hx with hx | hx
  · exact keep x (by rw [h.put.p]; simp [hx])
  rcases List.mem_cons.1 hx with e | hx
  · subst e
    have hrm : r ∈ woP p [o.id] := by rw [h.put.p]; simp
    obtain ⟨e, h1, h2⟩ := keep r hrm
    have : e = d := by rw [h.dr] at h1; exact (Option.some.inj h1).symm
    subst this
    have ht := timed_ok.1 h2
    exact ⟨e, h1, price_ok h.ij h.jn (legs_others (hno r hrm)) ht.1 hf (hno r hrm) ht.2.1 ht.2.2 h.price⟩
  · exact keep x (by rw [h.put.p]; simp [hx])
theorem movedR_vd {m : Mp} {ds : List Drv} {os : List Ord} {p : Pln} {o : Ord} {B : Int} (hv : (makeR m ds os p).2.2 = 0) (ho : o ∈ os) : (makeR m ds os (movedR m ds os p o B).1).2.2 = 0 := by
  cases hc : (movedR m ds os p o B).2.2 with
  | false => rw [movedR_same hc]; exact hv
  | true =>
    obtain ⟨a, r, b, i, j, d, h⟩ := movedR_mvd hc
    exact h.vd hv ho
theorem passG_vd {m : Mp} {ds : List Drv} {os : List Ord} {B : Int} : ∀ {l : List Ord} {out : Pln} {t : Int} {ch : Bool}, (∀ o, o ∈ l → o ∈ os) → (makeR m ds os out).2.2 = 0 → (makeR m ds os (passG m ds os B l out t ch).1).2.2 = 0
  | [], _, _, _, _, h => h
  | o :: l, out, t, ch, hl, h => by
    unfold passG
    split
    · exact h
    · split
      · exact passG_vd (fun x hx => hl x (by simp [hx])) h
      · exact passG_vd (fun x hx => hl x (by simp [hx])) (movedR_vd h (hl o (by simp)))
theorem passR_vd {m : Mp} {ds : List Drv} {os : List Ord} {p : Pln} {B : Int} (h : (makeR m ds os p).2.2 = 0) : (makeR m ds os (passR m ds os p B).1).2.2 = 0 := passG_vd (fun o ho => (sortB_perm os).mem_iff.1 ho) h
end Go.Lv

namespace Go.Lv
open Go.Proofs

theorem isPs_ok {x : Pln × Int × Int} {d : D} (h : isPs x d) : partsOK d = true ∧ nrB 0 d = true := by
  obtain ⟨q, hq, rfl⟩ := h
  refine ⟨by rcases hq with rfl | ⟨sz, rfl⟩ <;> rfl, ?_⟩
  show (nrBLL 0 (x.1.map rowR) && true) = true
  rw [nrBLL_P]
  rfl
theorem isRp_ok {x : Pln × Int × Int} {e : Int} {d : D} (h : isRp x e d) : partsOK d = true ∧ nrB 0 d = true := by
  obtain ⟨q, hq, rfl⟩ := h
  refine ⟨by rcases hq with rfl | ⟨sz, rfl⟩ <;> rfl, ?_⟩
  show (nrBLL 0 (x.1.map rowR) && true) = true
  rw [nrBLL_P]
  rfl
theorem c_repair_Pass (m : Mp) (hm : okMp m) (ds : List Drv) (os : List Ord) (p : Pln) (B : Int) {r b : Nat} {sto : List Ob} (hr : r ≤ sto.length) (hb : sto[b]? = some (mbox m)) (hbr : b < r) : Tri Try.prog 10 r [.gptr b 0, encDs ds, encOs os, encP p, .int .i64 B] sto (fun x k => isPs (PassR m ds os p B) x ∧ k = sto) :=
  (c_repair_Pass_0 m hm ds os p B).boxRO (nr_mcs m) rfl (nrBL_Dr (nrBL_O (nrBL_P rfl))) (fun d h => isPs_ok h) hr hb hbr
theorem c_repair_Repair (m : Mp) (hm : okMp m) (ds : List Drv) (os : List Ord) (p : Pln) (B : Int) {r b : Nat} {sto : List Ob} (hr : r ≤ sto.length) (hb : sto[b]? = some (mbox m)) (hbr : b < r) : Tri Try.prog 11 r [.gptr b 0, encDs ds, encOs os, encP p, .int .i64 B] sto (fun x k => ((askR m ds os p B ∧ isRp (repR m ds os p B) 0 x) ∨ (¬ askR m ds os p B ∧ isRp ([], 0, 0) 1 x)) ∧ k = sto) :=
  (c_repair_Repair_0 m hm ds os p B).boxRO (nr_mcs m) rfl (nrBL_Dr (nrBL_O (nrBL_P rfl))) (fun d h => by
    rcases h with h | h
    · exact isRp_ok h.2
    · exact isRp_ok h.2) hr hb hbr
set_option maxHeartbeats 4000000 in
theorem c_repair_asked_nil_0 (ds : List Drv) (os : List Ord) (p : Pln) (B : Int) : Tri Try.prog 24 0 [.nil, encDs ds, encOs os, encP p, .int .i64 B] [] (fun x k => x = .bool false ∧ k = []) := by
  refine Tri.walk2 (L := LT) (c := {n := 30, ko := [10], xf := [13]}) [] [0, 1, 2, 3, 4, 10, 12] hLT hmix Try.func24 rfl rfl ⟨rfl, rfl⟩ (by show 5 ≤ 30; decide) (by first | exact Nat.zero_le _ | exact Nat.le_refl _ | exact Nat.le_succ 1 | decide) ?_
  refine ⟨rfl, (by first | exact Nat.zero_le _ | exact Nat.le_refl _ | exact Nat.le_succ 1 | decide), (c_repair_Total_nil_0 ds os p).mono ?_⟩
  rintro d l ⟨rfl, rfl⟩
  refine ⟨rfl, fun _ _ => rfl, rfl, ?_⟩
  repeat (first | refine And.intro (fun _ => ?_) (fun h => Bool.noConfusion h) | refine And.intro (fun h => Bool.noConfusion h) (fun _ => ?_))
  exact And.intro rfl rfl
set_option maxHeartbeats 4000000 in
theorem c_repair_Repair_nil_0 (ds : List Drv) (os : List Ord) (p : Pln) (B : Int) : Tri Try.prog 11 0 [.nil, encDs ds, encOs os, encP p, .int .i64 B] [] (fun x k => isRp ([], 0, 0) 1 x ∧ k = []) := by
  refine Tri.walk2 (L := LT) (c := {n := 56, ko := [10, 11, 12, 13], xf := [34]}) [] [0, 1, 2, 3, 4, 10, 11, 12, 13, 14, 15, 16, 17, 18, 19, 20, 27, 30, 33] hLT hmix Try.func11 rfl rfl ⟨rfl, rfl⟩ (by show 5 ≤ 56; decide) (by first | exact Nat.zero_le _ | exact Nat.le_refl _ | exact Nat.le_succ 1 | decide) ?_
  refine ⟨rfl, (by first | exact Nat.zero_le _ | exact Nat.le_refl _ | exact Nat.le_succ 1 | decide), (c_repair_asked_nil_0 ds os p B).mono ?_⟩
  rintro d l ⟨rfl, rfl⟩
  refine ⟨rfl, fun _ _ => rfl, rfl, ?_⟩
  repeat (first | refine And.intro (fun _ => ?_) (fun h => Bool.noConfusion h) | refine And.intro (fun h => Bool.noConfusion h) (fun _ => ?_))
  exact And.intro ⟨_, .inr ⟨_, rfl⟩, rfl⟩ rfl
set_option maxHeartbeats 4000000 in
theorem c_repair_Pass_nil_0 (ds : List Drv) (os : List Ord) (p : Pln) (B : Int) : Tri Try.prog 10 0 [.nil, encDs ds, encOs os, encP p, .int .i64 B] [] (fun x k => isPs ([], 0, 1) x ∧ k = []) := by
  refine Tri.walk2 (L := LT) (c := {n := 35, ko := [10, 11, 12], xf := [23]}) [] [0, 1, 2, 3, 4, 10, 11, 12, 13, 14, 22] hLT hmix Try.func10 rfl rfl ⟨rfl, rfl⟩ (by show 5 ≤ 35; decide) (by first | exact Nat.zero_le _ | exact Nat.le_refl _ | exact Nat.le_succ 1 | decide) ?_
  refine ⟨rfl, (by first | exact Nat.zero_le _ | exact Nat.le_refl _ | exact Nat.le_succ 1 | decide), (c_repair_asked_nil_0 ds os p B).mono ?_⟩
  rintro d l ⟨rfl, rfl⟩
  refine ⟨rfl, fun _ _ => rfl, rfl, ?_⟩
  repeat (first | refine And.intro (fun _ => ?_) (fun h => Bool.noConfusion h) | refine And.intro (fun h => Bool.noConfusion h) (fun _ => ?_))
  exact And.intro ⟨_, .inr ⟨_, rfl⟩, rfl⟩ rfl
noncomputable def sSm (k : Int) (l : List Int) (ds : List Drv) (os : List Ord) (p : Pln) (n : Int) (i : Nat) : DS := ⟨[(1, .lptr 1 0 0), (2, .bool false), (3, .int .i64 n), (4, .int .i64 (i : Int))], [(1, encW k l ds os p)], [], mR 0⟩
set_option maxHeartbeats 4000000 in
theorem c_draykeep_Small_0 (k : Int) (l : List Int) (ds : List Drv) (os : List Ord) (p : Pln) (hp : p.length ≤ 1000000000000000) : Tri Try.prog 16 0 [.agg (encW k l ds os p)] [] (fun d k => (∃ b, d = .bool b) ∧ k = []) := by
  refine Tri.walk2 (L := LT) (c := {n := 33, ko := [2]}) [] [0, 1, 2, 3, 4, 9, 22] hLT hmix Try.func16 rfl rfl ⟨rfl, rfl⟩ (by show 1 ≤ 33; decide) (by first | exact Nat.zero_le _ | exact Nat.le_refl _ | exact Nat.le_succ 1 | decide) ?_
  show Ok _ _ _ _ _
  refine Ok.loopN hLT hmix [] [0, 1, 2, 3, 4, 9, 22] [1,2,3,4] [1] (fun f s => ∃ (i : Nat) (n : Int), f = p.length - i ∧ i ≤ p.length ∧ s = sSm k l ds os p n i) (n := p.length) ⟨0, 0, rfl, Nat.zero_le _, rfl⟩ ?_
  rintro f s ⟨i, n, rfl, hi, rfl⟩
  refine And.intro (fun h1 => ?_) (fun h1 => ?_)
  · have h1 : ((i : Nat) : Int) < ((p.map rowR).length : Int) := of_decide_eq_true h1
    rw [List.length_map] at h1
    have hil : i < p.length := by omega
    have hw := wrap_succ (i := i) (n := p.length) hil hp
    refine ⟨(p).map rowR, rowR ((p)[i]'(by omega)), rfl, by omega, row_at' rowR (p) (by omega) (by omega), rfl, of_decide_eq_true rfl, ?_⟩
    refine And.intro (fun h2 => ?_) (fun h2 => ?_)
    · exact And.intro ⟨_, rfl⟩ rfl
    · refine ⟨p.length - (i + 1), by omega, i + 1, IntKind.i64.wrap (n + ((p[i].st.map rowS).length : Int)), rfl, by omega, ?_⟩
      unfold sSm
      rw [← hw]
      rfl
  · refine And.intro (fun h2 => ?_) (fun h2 => ?_)
    · refine And.intro (fun h3 => ?_) (fun h3 => ?_)
      · repeat (first | refine And.intro (fun _ => ?_) (fun h => Bool.noConfusion h) | refine And.intro (fun h => Bool.noConfusion h) (fun _ => ?_))
        exact And.intro ⟨_, rfl⟩ rfl
      · repeat (first | refine And.intro (fun _ => ?_) (fun h => Bool.noConfusion h) | refine And.intro (fun h => Bool.noConfusion h) (fun _ => ?_))
        exact And.intro ⟨_, rfl⟩ rfl
    · repeat (first | refine And.intro (fun _ => ?_) (fun h => Bool.noConfusion h) | refine And.intro (fun h => Bool.noConfusion h) (fun _ => ?_))
      exact And.intro ⟨_, rfl⟩ rfl
theorem c_draykeep_Small (k : Int) (l : List Int) (ds : List Drv) (os : List Ord) (p : Pln) (hp : p.length ≤ 1000000000000000) {r : Nat} {sto : List Ob} (hr : r ≤ sto.length) : Tri Try.prog 16 r [.agg (encW k l ds os p)] sto (fun d k => (∃ b, d = .bool b) ∧ k = sto) :=
  (c_draykeep_Small_0 k l ds os p hp).pureR rfl (by show ((nrBLL 0 (l.map rowI) && (nrBL 0 [encDs ds, encOs os, encP p])) && true) = true; rw [nrBLL_I, nrBL_Dr (nrBL_O (nrBL_P rfl))]; rfl) (fun d h => by obtain ⟨b, rfl⟩ := h; exact ⟨rfl, rfl⟩) hr
end Go.Lv

namespace Go.Lv
open Go.Proofs
theorem tRunsR {r : Nat} {sto : List Ob} (hr : r ≤ sto.length) : Tri Try.prog 3 r [] sto (fun d l => d = .bool true ∧ l = sto) :=
  tRuns.pureR rfl rfl (fun d h => by subst h; exact ⟨rfl, rfl⟩) hr
end Go.Lv

namespace Go.Lv
open Go.Proofs

theorem c_repair_Repair_nil (ds : List Drv) (os : List Ord) (p : Pln) (B : Int) {r : Nat} {sto : List Ob} (hr : r ≤ sto.length) : Tri Try.prog 11 r [.nil, encDs ds, encOs os, encP p, .int .i64 B] sto (fun x k => isRp ([], 0, 0) 1 x ∧ k = sto) :=
  (c_repair_Repair_nil_0 ds os p B).pureR rfl (nrBL_Dr (nrBL_O (nrBL_P rfl))) (fun d h => isRp_ok h) hr
end Go.Lv

namespace Go.Lv
open Go.Proofs

noncomputable def findRt (id : Int) : Pln → Option Rte
  | [] => none
  | r :: p => if r.drv = id then some r else findRt id p
theorem findRt_at {id : Int} {p : Pln} {i : Nat} (h : i < p.length) : findRt id (p.drop i) = if p[i].drv = id then some p[i] else findRt id (p.drop (i + 1)) := by
  rw [List.drop_eq_getElem_cons h]
  rfl
theorem findRt_one : ∀ {p : Pln} {last : Int}, hdG last p → ∀ {r : Rte}, r ∈ p → findRt r.drv p = some r
  | [], _, _, r, hr => by cases hr
  | x :: p, last, h, r, hr => by
    show (if x.drv = r.drv then some x else findRt r.drv p) = some r
    by_cases e : x.drv = r.drv
    · rw [if_pos e]
      congr 1
      exact hdG_one h (by simp) hr e
    · rw [if_neg e]
      rcases List.mem_cons.1 hr with e1 | hr
      · exact absurd (by rw [e1]) e
      · exact findRt_one h.2 hr
noncomputable def sRd (p : Pln) (id : Int) (z : List D) (i : Nat) : DS := ⟨[(1, .int .i64 id), (4, .lptr 4 0 0), (5, .bool false), (8, encP p), (9, .int .i64 (p.length : Int)), (10, .int .i64 (i : Int))], [(4, z)], [], mR 0⟩
set_option maxHeartbeats 4000000 in
theorem c_audit_routed_0 (p : Pln) (hp : p.length ≤ 1000000000000000) (id : Int) (r : Rte) (h : findRt id p = some r) : Tri Try.prog 37 0 [encP p, .int .i64 id] [] (fun d k => d = .tup [.agg (rowR r), .bool true] ∧ k = []) := by
  refine Tri.walk2 (L := LT) (c := {n := 21, ko := [5], kb := [4]}) [] [0, 1, 4, 5, 7, 8, 9, 10, 11, 17] hLT hmix Try.func37 rfl rfl ⟨rfl, rfl⟩ (by show 2 ≤ 21; decide) (by first | exact Nat.zero_le _ | exact Nat.le_refl _ | exact Nat.le_succ 1 | decide) ?_
  show Ok _ _ _ _ _
  refine Ok.loopN hLT hmix [] [0, 1, 4, 5, 7, 8, 9, 10, 11, 17] [1,4,5,8,9,10] [4] (fun n s => ∃ i : Nat, n = p.length - i ∧ i ≤ p.length ∧ findRt id (p.drop i) = some r ∧ s = sRd p id [.int .i64 0, .int .i64 0, .list (.own 0) []] i) (n := p.length) ⟨0, rfl, Nat.zero_le _, h, by unfold sRd; rw [← List.length_map (f := rowR)]; rfl⟩ ?_
  rintro n s ⟨i, rfl, hi, hix, rfl⟩
  refine And.intro (fun h1 => ?_) (fun h1 => ?_)
  · have h1 : ((i : Nat) : Int) < (p.length : Int) := of_decide_eq_true h1
    have hil : i < p.length := by omega
    have hw := wrap_succ (i := i) (n := p.length) hil hp
    rw [findRt_at hil] at hix
    refine ⟨(p).map rowR, rowR ((p)[i]'(by omega)), rfl, by omega, row_at' rowR (p) (by omega) (by omega), rfl, of_decide_eq_true rfl, ?_⟩
    generalize p[i] = x at hix ⊢
    refine And.intro (fun h2 => ?_) (fun h2 => ?_)
    · have h2 : x.drv = id := of_decide_eq_true h2
      rw [if_pos h2] at hix
      have e : x = r := Option.some.inj hix
      subst e
      exact And.intro rfl rfl
    · have h2 : ¬ x.drv = id := of_decide_eq_false h2
      rw [if_neg h2] at hix
      refine ⟨p.length - (i + 1), by omega, i + 1, rfl, by omega, hix, ?_⟩
      unfold sRd
      rw [← hw]
      rfl
  · have h1 : ¬ ((i : Nat) : Int) < (p.length : Int) := of_decide_eq_false h1
    rw [List.drop_eq_nil_of_le (by omega)] at hix
    cases hix
theorem c_audit_routed (p : Pln) (hp : p.length ≤ 1000000000000000) (id : Int) (x : Rte) (h : findRt id p = some x) {r : Nat} {sto : List Ob} (hr : r ≤ sto.length) : Tri Try.prog 37 r [encP p, .int .i64 id] sto (fun d k => d = .tup [.agg (rowR x), .bool true] ∧ k = sto) :=
  (c_audit_routed_0 p hp id x h).pure rfl (nrBL_P rfl) rfl (by show ((nrBLL 0 (x.st.map rowS) && true) && true) = true; rw [nrBLL_S]; rfl) hr
structure relR (a b : Rte) : Prop where
  drv : a.drv = b.drv
  srv : a.srv = b.srv
  done : a.st.take a.srv.toNat = b.st.take a.srv.toNat
structure relP (p q : Pln) : Prop where
  len : p.length = q.length
  at_ : ∀ (i : Nat) (h1 : i < p.length) (h2 : i < q.length), relR p[i] q[i]
noncomputable def sKe1 (p q : Pln) (i : Nat) : DS := ⟨[(0, encP p), (1, encP q), (4, .bool false), (22, encP p), (23, .int .i64 (p.length : Int)), (24, .int .i64 (i : Int))], [], [], mR 0⟩
noncomputable def sKe2 (p q : Pln) (i : Nat) : DS := ⟨[(0, encP p), (1, encP q), (4, .bool false), (38, encP q), (39, .int .i64 (q.length : Int)), (40, .int .i64 (i : Int))], [], [], mR 0⟩
noncomputable def sKe3 (p q : Pln) (a b : Rte) (i j : Nat) : DS := ⟨[(0, encP p), (1, encP q), (4, .bool false), (10, .lptr 10 0 0), (11, .lptr 11 0 0), (38, encP q), (39, .int .i64 (q.length : Int)), (40, .int .i64 (i : Int)), (57, .int .i64 b.srv), (58, .int .i64 (j : Int))], [(10, rowR b), (11, rowR a)], [], mR 0⟩
set_option maxHeartbeats 8000000 in
theorem c_audit_Kept_0 (p q : Pln) (hp : rightP p = true) (hq : rightP q = true) (h : relP p q) : Tri Try.prog 20 0 [encP p, encP q] [] (fun d k => d = .bool true ∧ k = []) := by
  refine Tri.walk2 (L := LT) (c := {n := 74, ko := [4]}) [] [0, 1, 4, 6, 8, 10, 11, 13, 21, 22, 23, 24, 25, 36, 38, 39, 40, 41, 55, 57, 58, 59, 71] hLT hmix Try.func20 rfl rfl ⟨rfl, rfl⟩ (by show 2 ≤ 74; decide) (by first | exact Nat.zero_le _ | exact Nat.le_refl _ | exact Nat.le_succ 1 | decide) ?_
  have hr1 := c_plan_Right p (r := 0) (sto := []) (Nat.le_refl 0)
  have hr2 := c_plan_Right q (r := 0) (sto := []) (Nat.le_refl 0)
  rw [hp] at hr1
  rw [hq] at hr2
  have hps := rightP_st hp
  have hqs := rightP_st hq
  have hpg := (rightP_iff.1 hp).2.1
  have hqg := (rightP_iff.1 hq).2.1
  have hlen := h.len
  refine ⟨rfl, (by first | exact Nat.zero_le _ | exact Nat.le_refl _ | exact Nat.le_succ 1 | decide), (hr1).mono ?_⟩
  rintro d l ⟨rfl, rfl⟩
  refine ⟨rfl, fun _ _ => rfl, rfl, ?_⟩
  repeat (first | refine And.intro (fun _ => ?_) (fun h => Bool.noConfusion h) | refine And.intro (fun h => Bool.noConfusion h) (fun _ => ?_))
  refine ⟨rfl, (by first | exact Nat.zero_le _ | exact Nat.le_refl _ | exact Nat.le_succ 1 | decide), (hr2).mono ?_⟩
  rintro d l ⟨rfl, rfl⟩
  refine ⟨rfl, fun _ _ => rfl, rfl, ?_⟩
  repeat (first | refine And.intro (fun _ => ?_) (fun h => Bool.noConfusion h) | refine And.intro (fun h => Bool.noConfusion h) (fun _ => ?_))
  show Ok _ _ _ _ _
  refine Ok.loopN hLT hmix [] [0, 1, 4, 6, 8, 10, 11, 13, 21, 22, 23, 24, 25, 36, 38, 39, 40, 41, 55, 57, 58, 59, 71] [0,1,4,22,23,24] [] (fun n s => ∃ i : Nat, n = p.length - i ∧ i ≤ p.length ∧ s = sKe1 p q i) (n := p.length) ⟨0, rfl, Nat.zero_le _, by unfold sKe1; rw [show (p.length : Int) = ((p.map rowR).length : Int) by rw [List.length_map]]; rfl⟩ ?_
  rintro n s ⟨i, rfl, hi, rfl⟩
  refine And.intro (fun h1 => ?_) (fun h1 => ?_)
  · have h1 : ((i : Nat) : Int) < (p.length : Int) := of_decide_eq_true h1
    have hil : i < p.length := by omega
    have hiq : i < q.length := by omega
    have hw := wrap_succ (i := i) (n := p.length) hil (by omega)
    have hre := h.at_ i hil hiq
    have hfd := findRt_one hqg (List.getElem_mem hiq)
    rw [← hre.drv] at hfd
    refine ⟨(p).map rowR, rowR ((p)[i]'(by omega)), rfl, by omega, row_at' rowR (p) (by omega) (by omega), rfl, of_decide_eq_true rfl, ?_⟩
    generalize p[i] = a at hfd ⊢
    refine ⟨rfl, (by first | exact Nat.zero_le _ | exact Nat.le_refl _ | exact Nat.le_succ 1 | decide), (c_audit_routed q (by omega) a.drv q[i] hfd (r := 0) (sto := []) (Nat.le_refl 0)).mono ?_⟩
    rintro d l ⟨rfl, rfl⟩
    refine ⟨rfl, fun _ _ => rfl, rfl, ?_⟩
    repeat (first | refine And.intro (fun _ => ?_) (fun h => Bool.noConfusion h) | refine And.intro (fun h => Bool.noConfusion h) (fun _ => ?_))
    refine ⟨p.length - (i + 1), by omega, i + 1, rfl, by omega, ?_⟩
    unfold sKe1
    rw [← hw]
    rfl
  show Ok _ _ _ _ _
  refine Ok.loopN hLT hmix [] [0, 1, 4, 6, 8, 10, 11, 13, 21, 22, 23, 24, 25, 36, 38, 39, 40, 41, 55, 57, 58, 59, 71] [0,1,4,38,39,40] [] (fun n s => ∃ i : Nat, n = q.length - i ∧ i ≤ q.length ∧ s = sKe2 p q i) (n := q.length) ⟨0, rfl, Nat.zero_le _, by unfold sKe2; rw [show (q.length : Int) = ((q.map rowR).length : Int) by rw [List.length_map]]; rfl⟩ ?_
  rintro n s ⟨i, rfl, hi, rfl⟩
  refine And.intro (fun h2 => ?_) (fun h2 => ?_)
  rotate_left
  · exact And.intro rfl rfl
  have h2 : ((i : Nat) : Int) < (q.length : Int) := of_decide_eq_true h2
  have hil : i < p.length := by omega
  have hiq : i < q.length := by omega
  have hw := wrap_succ (i := i) (n := q.length) hiq (by omega)
  have hre := h.at_ i hil hiq
  have hfd := findRt_one hpg (List.getElem_mem hil)
  rw [hre.drv] at hfd
  have hb1 := hps.2 p[i] (List.getElem_mem hil)
  have hb2 := hqs.2 q[i] (List.getElem_mem hiq)
  refine ⟨(q).map rowR, rowR ((q)[i]'(by omega)), rfl, by omega, row_at' rowR (q) (by omega) (by omega), rfl, of_decide_eq_true rfl, ?_⟩
  generalize p[i] = a at hfd hre hb1
  generalize q[i] = b at hfd hre hb2 ⊢
  refine ⟨rfl, (by first | exact Nat.zero_le _ | exact Nat.le_refl _ | exact Nat.le_succ 1 | decide), (c_audit_routed p (by omega) b.drv a hfd (r := 0) (sto := []) (Nat.le_refl 0)).mono ?_⟩
  rintro d l ⟨rfl, rfl⟩
  refine ⟨rfl, fun _ _ => rfl, rfl, ?_⟩
  refine And.intro (fun h3 => ?_) (fun h3 => ?_)
  · exact absurd hre.srv.symm (nd_true h3)
  show Ok _ _ _ _ _
  refine Ok.loopN hLT hmix [] [0, 1, 4, 6, 8, 10, 11, 13, 21, 22, 23, 24, 25, 36, 38, 39, 40, 41, 55, 57, 58, 59, 71] [0,1,4,10,11,38,39,40,57,58] [10,11] (fun n s => ∃ j : Nat, n = b.srv.toNat - j ∧ j ≤ b.srv.toNat ∧ s = sKe3 p q a b i j) (n := b.srv.toNat) ⟨0, rfl, Nat.zero_le _, rfl⟩ ?_
  rintro n s ⟨j, rfl, hj, rfl⟩
  refine And.intro (fun h4 => ?_) (fun h4 => ?_)
  rotate_left
  · refine ⟨q.length - (i + 1), by omega, i + 1, rfl, by omega, ?_⟩
    unfold sKe2
    rw [← hw]
    rfl
  have h4 : ((j : Nat) : Int) < b.srv := of_decide_eq_true h4
  have hsr := hre.srv
  have hja : j < a.st.length := by omega
  have hjb : j < b.st.length := by omega
  have hwj := wrap_succ (i := j) (n := b.srv.toNat) (by omega) (by omega)
  have hel : a.st[j] = b.st[j] := by
    have e := congrArg (fun l => l[j]?) hre.done
    simp only [List.getElem?_take, show j < a.srv.toNat by omega, if_true, List.getElem?_eq_getElem hja, List.getElem?_eq_getElem hjb] at e
    exact Option.some.inj e
  have hrow1 : (a.st.map rowS)[((j : Nat) : Int).toNat]? = some (rowS a.st[j]) := row_at' rowS a.st rfl hja
  have hrow2 : (b.st.map rowS)[((j : Nat) : Int).toNat]? = some (rowS b.st[j]) := row_at' rowS b.st rfl hjb
  have hla : ((j : Nat) : Int) < ((a.st.map rowS).length : Int) := by rw [List.length_map]; omega
  have hlb : ((j : Nat) : Int) < ((b.st.map rowS).length : Int) := by rw [List.length_map]; omega
  rw [← hel] at hrow2
  generalize a.st[j] = s at hrow1 hrow2
  refine ⟨⟨2047, [0, 1, 0, 6, 8, 0, 32, 0, 192, 256, 528], [1, 3, 4, 15, 31, 32, 96, 128, 480, 992, 2047]⟩, by kernel_rfl, ?_⟩
  refine ⟨_, _, rfl, by omega, hrow2, rfl, of_decide_eq_true rfl, ?_⟩
  refine And.intro rfl ?_
  refine ⟨_, _, rfl, by omega, hrow1, rfl, of_decide_eq_true rfl, ?_⟩
  refine And.intro rfl ?_
  refine And.intro (fun h5 => ?_) (fun h5 => ?_)
  · simp at h5
  · refine ⟨b.srv.toNat - (j + 1), by omega, j + 1, rfl, by omega, ?_⟩
    unfold sKe3
    rw [← hwj]
    rfl
theorem c_audit_Kept (p q : Pln) (hp : rightP p = true) (hq : rightP q = true) (h : relP p q) {r : Nat} {sto : List Ob} (hr : r ≤ sto.length) : Tri Try.prog 20 r [encP p, encP q] sto (fun d k => d = .bool true ∧ k = sto) :=
  (c_audit_Kept_0 p q hp hq h).pure rfl (nrBL_P (nrBL_P rfl)) rfl rfl hr
end Go.Lv
