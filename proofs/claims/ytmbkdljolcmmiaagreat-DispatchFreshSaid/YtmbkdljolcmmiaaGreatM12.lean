/-
  Part 12 of the texts under the proof: an abstract run of loaded code on data, and what the functions do. No condition.
-/
import Derived.Test.YtmbkdljolcmmiaaGreatM11
import Derived.Sort.Grow
import Derived.Lib.SlicesCompact
set_option linter.all false
set_option maxRecDepth 100000
namespace Go.Lv
open Go Go.Sort

noncomputable def rowI (z : Int) : List D := [.int .i64 z]
noncomputable def intsOf : List (List D) → Option (List Int)
  | [] => some []
  | [.int .i64 z] :: r => (intsOf r).map (z :: ·)
  | _ :: _ => none
theorem intsOf_eq : ∀ {ys : List (List D)} {zs : List Int}, intsOf ys = some zs → ys = zs.map rowI
  | [], zs, h => by simp [intsOf] at h; subst h; rfl
  | y :: r, zs, h => by
    unfold intsOf at h
    split at h
    · rename_i e; cases e
    · rename_i e
      cases e
      obtain ⟨zs', h1, rfl⟩ := Option.map_eq_some_iff.1 h
      rw [intsOf_eq h1]
      rfl
    · cases h

section
variable {P : Program} {T : St} {X : Ctx} {G : Gh} {s s' s1 : DS} {a : Act} {w w' : World} {o : Oper} {b : Nat}

theorem wr_putRow {α : Type} [Inhabited α] (enc : α → Value) (w : World) (b off : Nat) (d : Array α) : Wr w (putRow enc w b off d) b where
  heap := fun b' hb => by simp only [putRow, mapBlock, Array.getElem?_modify]; rw [if_neg (fun e => hb e.symm)]
  size := size_putRow _ _ _ _ _
  os := rfl
  tape := rfl
  output := rfl
  map := fun b' es clock h => by
    simp only [putRow, mapBlock, Array.getElem?_modify]
    split
    · rename_i e
      subst e
      rw [h]
      rfl
    · exact h
  frozen := fun x => frozen?_putRow _ _ _ _ _ _

theorem Rel.grown (h : Rel X G s a w) (n : Nat) (os : Array Obj) : Rel X G s a (Sort.grow (Sort.ahead w n) os) := by
  have hc : ∀ (b o : Nat), b < w.heap.size → (Sort.grow (Sort.ahead w n) os).cell? ⟨b, o, none⟩ = w.cell? ⟨b, o, none⟩ ∧ (Sort.grow (Sort.ahead w n) os).frozen? ⟨b, o, none⟩ = w.frozen? ⟨b, o, none⟩ := fun b o hb =>
    ⟨cell?_grow (Sort.ahead w n) os ⟨b, o, none⟩ hb, frozen?_grow (Sort.ahead w n) os ⟨b, o, none⟩ hb⟩
  have hh : ∀ b, b < w.heap.size → (Sort.grow (Sort.ahead w n) os).heap[b]? = w.heap[b]? := fun b hb => heap_grow_old (Sort.ahead w n) os hb
  have K : Keeps w G s.m (Sort.grow (Sort.ahead w n) os) G s.m (fun _ => True) :=
    { be := fun _ _ h => h
      st := fun _ _ h => h
      cell := fun b n o hs _ => (hc b o (h.stLt hs)).1
      ep := Nat.le_refl _
      rv := fun _ => Nat.le_refl _
      al := fun _ => Nat.le_refl _
      era := Nat.le_refl _
      rd := fun _ b n hr => ⟨hr, fun o _ => (hc b o (by
        rcases hr with hr | ⟨⟨p, hp⟩, _⟩
        · exact h.stLt hr
        · exact h.ownLt hp)).1⟩
      pl := fun _ _ _ => rfl
      la := fun _ _ => rfl
      own := fun b p _ hp => ⟨hp, rfl, fun o => hc b o (h.ownLt hp)⟩
      opl := fun _ _ => rfl
      mp := fun _ k b es clock _ hh' => ⟨es, clock, by
        rw [hh b (by
          refine Classical.byContradiction fun hn => ?_
          have : w.heap[b]? = none := by simp; omega
          rw [this] at hh'
          cases hh')]
        exact hh', fun i x hx => ⟨x, hx, rfl⟩⟩ }
  exact
  { size := h.size
    defers := h.defers
    env := fun t d ht => K.vt (fun _ _ _ _ _ _ _ => trivial) (h.env t d ht)
    loc := fun t cs ht => by
      obtain ⟨h1, h2⟩ := h.loc t cs ht
      exact ⟨h1, K.box (fun _ _ _ _ => trivial) (fun o => hc _ o (h.ownLt h1)) h2⟩
    sto := fun k o hk => by
      obtain ⟨b, h1, h2, h3, h4⟩ := h.sto k o hk
      refine ⟨b, h1, h2, by rw [size_grow]; exact Nat.lt_of_lt_of_le h3 (Nat.le_add_right _ _), ?_⟩
      cases o with
      | map es =>
        obtain ⟨arr, clock, q1, q2⟩ := h4
        exact ⟨arr, clock, by rw [hh b h3]; exact q1, q2⟩
      | box cs =>
        simp only [ObV] at h4 ⊢
        split <;> rename_i hk0
        · rw [if_pos hk0] at h4
          intro j d hd
          obtain ⟨u, h5, h6⟩ := h4 j d hd
          exact ⟨u, by rw [(hc b j h3).1]; exact h5, K.imm h6⟩
        · rw [if_neg hk0] at h4
          exact K.box (fun _ _ _ _ => trivial) (fun o => hc b o h3) h4
    be := h.be
    new := fun b hb => h.new b (by rw [size_grow] at hb; exact Nat.le_trans (Nat.le_add_right _ _) hb)
    stow := h.stow
    std := h.std
    old := fun b hb h0 => by
      obtain ⟨q1, q2, q3⟩ := h.old b hb h0
      exact ⟨by rw [hh b (Nat.lt_of_lt_of_le hb h.grow)]; exact q1, q2, q3⟩
    os := h.os
    tape := h.tape
    output := h.output
    grow := by rw [size_grow]; exact Nat.le_trans h.grow (Nat.le_add_right _ _)
    ro := h.ro
    rom := h.rom
    be0 := h.be0
    n0 := h.n0, la0 := h.la0 }

structure TurnC (P : Program) (f : Nat) (φ : List Int → List Int) : Prop where
  fn : ∃ fn, P.funcs[f]? = some fn ∧ fn.body.isNone = false ∧ (fn.name == "runtime.NumGoroutine") = false
  len : ∀ zs, (φ zs).length = zs.length
  nil : ∀ (p : Option Addr) (cap : Nat) (w : World), Calls P f #[.slice p 0 cap] w fun e w' => e = .returned (.tuple #[]) ∧ w' = w
  some : ∀ (blk off cap : Nat) (zs : List Int) (w : World), Holds (Value.int .i64) w blk off zs.toArray → blk < w.heap.size → zs.length < 4611686018427387904 →
    Calls P f #[.slice (some ⟨blk, off, none⟩) zs.length cap] w fun e w' => e = .returned (.tuple #[]) ∧ ∃ n os, w' = grow (putRow (Value.int .i64) (Sort.ahead w n) blk off (φ zs).toArray) os

noncomputable def turnGo (T : St) (φ : List Int → List Int) (s : DS) (dst : Option Nat) (p : Place) (v : Nat) (xs : List (List D)) : Rz DS :=
  if s.m.rv p.r = v ∧ okR T.ro p.r = true then
    match getPl s p with
    | some (.list (.own sz) ys) => match intsOf ys with
      | some zs => if ys.length = xs.length ∧ zs.length < 4611686018427387904 ∧ sz = 1 then
          let s1 := setPl s p (.list (.own sz) ((φ zs).map rowI))
          match put T.c dst (.tup []) { s1 with m := s1.m.bE } with
          | some s2 => .ok s2
          | none => .no [30]
        else .no [31]
      | none => .no [32]
    | _ => .no [33]
  else .no [34]
noncomputable def turnHk (φ : List Int → List Int) (T : St) (s : DS) (o : Oper) : Rz DS :=
  match o.op with
  | .call { callee := .value x, args, argTypes } => match lookO s x with
    | some (.fn _ []) => match args.toList with
      | [y] => match lookO s y with
        | some (.list (.cp _ (some (p, v))) xs) => match xs with
          | [] => match put T.c o.dst (.tup []) s with
            | some s2 => .ok s2
            | none => .no [35]
          | _ => turnGo T φ s o.dst p v xs
        | _ => .no [36]
      | _ => .no [37]
    | _ => .no [39]
  | _ => .no [38]

theorem vt_tup0 {r : Root} {m : Mt} : VT w G m r (.tup []) (.tuple #[]) := ⟨[], rfl, rfl, fun i d u hd => by simp at hd⟩

theorem turnHk_ok {φ : List Int → List Int} {f : Nat} (hC : TurnC P f φ) {x : Operand} {args : Array Operand} {tys : Array TypeId} (ho : o.op = .call { callee := .value x, args, argTypes := tys }) {caps : List D} (hx : lookO s x = some (.fn f caps))
    (h : turnHk φ T s o = .ok s') : OpOk P T o s (fun s1 => s1 = s') ∧ Pre T.ro s.sto s'.sto := by
  unfold turnHk at h
  rw [ho] at h
  simp only at h
  have hcaps : caps = [] := by
    rw [hx] at h
    cases caps with
    | nil => rfl
    | cons c cs => simp at h
  subst hcaps
  rw [hx] at h
  simp only at h
  split at h
  · rename_i y hargs
    have hargs' : args = #[y] := by rw [← Array.toArray_toList (xs := args), hargs]
    split at h
    · rename_i e p v xs hy
      obtain ⟨fn, hf, hb, hnm⟩ := hC.fn
      have start : ∀ (X : Ctx) (G : Gh) (a : Act) (w : World), Fits T X → Rel X G s a w → ∀ (next : Act → World → Prop) (Q : Exit → Act → World → Prop), (Calls P f #[a.eval y] w fun e w' => match e with | .returned v => next (a.put o.dst v) w' | _ => False) → o.wp P a w next Q := by
        intro X G a w hX hR next Q hcall
        obtain ⟨cvs, hxv, hcl, _⟩ := inv_fn (lookO_vt hR hx (.air 0) rfl)
        have hcv : cvs = [] := List.eq_nil_of_length_eq_zero hcl.symm
        subst hcv
        unfold Oper.wp
        rw [run_call ho hxv hf hb hnm, Oper.upon_enter]
        have : args.map a.eval ++ [].toArray = #[a.eval y] := by subst hargs'; simp
        rw [this]
        refine hcall.mono fun e w' he => ?_
        cases e with
        | returned v => exact he
        | panicked c => exact he.elim
        | outgrown => exact he.elim
      split at h
      · split at h
        · rename_i s2 hp
          cases h
          refine ⟨fun X G a w hX hR next Q hn => start X G a w hX hR next Q ?_, Pre.of_eq (put_sto hp)⟩
          obtain ⟨A, cap, hyv, _⟩ := (lookO_vt hR hy (.air 0) rfl : CpL w G s.m e (some (p, v)) [] (a.eval y))
          rw [hyv]
          refine (hC.nil A cap w).mono fun e w' he => ?_
          obtain ⟨rfl, rfl⟩ := he
          obtain ⟨G3, r3⟩ := hR.putO hX.n hp 0 vt_tup0
          exact hn _ _ _ _ rfl r3
        · cases h
      · rename_i hne
        unfold turnGo at h
        split at h
        · rename_i hv
          obtain ⟨hv, hok⟩ := hv
          split at h
          · rename_i sz ys hpl
            split at h
            · rename_i zs hzs
              split at h
              · rename_i hlen
                obtain ⟨hlen, hbig, rfl⟩ := hlen
                simp only at h
                split at h
                · rename_i s2 hput
                  cases h
                  refine ⟨fun X G a w hX hR next Q hn => start X G a w hX hR next Q ?_, ?_⟩
                  · have hys := intsOf_eq hzs
                    have hzl : zs.length = ys.length := by rw [hys]; simp
                    have hok' : okR X.ro p.r = true := by rw [hX.ro]; exact hok
                    obtain ⟨A, cap, hyv, _, _, hq⟩ := (lookO_vt hR hy (.air 0) rfl : CpL w G s.m e (some (p, v)) xs (a.eval y))
                    obtain ⟨hair, _, hq⟩ := hq p v rfl
                    have hq := hq hv
                    have hxne : xs ≠ [] := by
                      rintro rfl
                      exact hne rfl
                    have hyne : ys ≠ [] := by
                      rintro rfl
                      simp at hlen
                      exact hxne (List.eq_nil_of_length_eq_zero hlen.symm)
                    rcases hq with rfl | ⟨rfl, hcap⟩
                    · exact absurd rfl hxne
                    · obtain ⟨v0, hown⟩ := getPl_own hR hpl hok'
                      rcases hown with ⟨q, _⟩ | ⟨_, b, off, cap', rfl, hcap', ho1, hfin, hGpl, hcell, hrows⟩
                      · exact absurd q hyne
                      · rw [hGpl] at hyv
                        simp only at hyv
                        rw [hyv, show xs.length = zs.length by omega]
                        have hH : Holds (Value.int .i64) w b off zs.toArray := fun j hj => by
                          have hj' : j < zs.length := by simpa using hj
                          have hr : ys[j]? = some (rowI (zs[j]'hj')) := by rw [hys]; simp [hj']
                          obtain ⟨u, hu, hi⟩ := hrows.2 j 0 _ (.int .i64 (zs[j]'hj')) hr rfl
                          have hi' : u = .int .i64 (zs[j]'hj') := by cases hi; rfl
                          subst hi'
                          obtain ⟨_, hfz⟩ := hcell j (by omega)
                          rw [Nat.mul_one, Nat.add_zero] at hu
                          refine ⟨?_, hfz⟩
                          rw [hu]
                          simp [hj']
                        refine (hC.some b off cap zs w hH (hR.ownLt ho1) hbig).mono fun e w' he => ?_
                        obtain ⟨rfl, n, os, rfl⟩ := he
                        rw [putRow_ahead]
                        have W := wr_putRow (Value.int .i64) w b off (φ zs).toArray
                        have K := W.ownKeeps ho1 hR.stow s.m
                        have hll : ((φ zs).map rowI).length = ys.length := by rw [List.length_map, hC.len, hzl]
                        have hR2 := hR.writeOwn (ys' := (φ zs).map rowI) hpl hok' W ho1 (fun v' hv' => by
                          rcases hv' with ⟨q, _⟩ | ⟨hz0, b', o1', cap2, rfl, hcap2, hown', hfin', hGpl', hcell', hrows'⟩
                          · exact absurd q hyne
                          · rw [hGpl] at hGpl'
                            cases hGpl'
                            refine .inr ⟨hz0, b, off, cap2, by rw [hll], by rw [hll]; exact hcap2, ho1, by rw [hll]; exact hfin, hGpl, fun q hq => ?_, fun r hr => ?_, fun j c' r d hr hd => ?_⟩
                            · obtain ⟨⟨u, hu⟩, hf⟩ := hcell' q hq
                              refine ⟨?_, by rw [W.frozen]; exact hf⟩
                              by_cases hin : q < (φ zs).toArray.size
                              · exact ⟨_, cell?_putRow (Value.int .i64) w b off zs.toArray (φ zs).toArray hH (by simp [hC.len]) q hin⟩
                              · exact ⟨u, by rw [cell?_putRow_other _ _ _ _ _ _ (.inr (.inr (by simp only [List.size_toArray] at hin ⊢; omega)))]; exact hu⟩
                            · obtain ⟨z, _, rfl⟩ := List.mem_map.1 hr
                              rfl
                            · rw [List.getElem?_map] at hr
                              obtain ⟨z, hz, rfl⟩ := Option.map_eq_some_iff.1 hr
                              have hj : j < (φ zs).length := (List.getElem?_eq_some_iff.1 hz).1
                              have hc0 : c' = 0 := by
                                have := (List.getElem?_eq_some_iff.1 hd).1
                                simp [rowI] at this
                                exact this
                              subst hc0
                              simp [rowI] at hd
                              subst hd
                              refine ⟨.int .i64 z, ?_, .int _ _⟩
                              rw [Nat.mul_one, Nat.add_zero, cell?_putRow (Value.int .i64) w b off zs.toArray (φ zs).toArray hH (by simp [hC.len]) j (by simpa using hj)]
                              have := (List.getElem?_eq_some_iff.1 hz).2
                              simp [hj, this])
                        obtain ⟨G4, r4⟩ := (hR2.grown n os).putO hX.n hput 0 vt_tup0
                        exact hn _ _ _ _ rfl r4
                  · rw [put_sto hput]
                    exact setPl_pre hok
                · cases h
              · cases h
            · cases h
          · cases h
        · cases h
    · cases h
  · cases h

structure CompC (P : Program) (f : Nat) : Prop where
  fn : ∃ fn, P.funcs[f]? = some fn ∧ fn.body.isNone = false ∧ (fn.name == "runtime.NumGoroutine") = false ∧ 1 ≤ fn.ntmps
  nil : ∀ (p : Option Addr) (cap : Nat) (w : World), Calls P f #[.slice p 0 cap] w fun e w' => e = .returned (.slice p 0 cap) ∧ w' = w
  some : ∀ (blk off cap : Nat) (zs : List Int) (w : World), Holds (Value.int .i64) w blk off zs.toArray → zs.length ≤ 9223372036854775807 → zs.length ≤ cap →
    Calls P f #[.slice (some ⟨blk, off, none⟩) zs.length cap] w fun e w' => e = .returned (.slice (some ⟨blk, off, none⟩) (Lib.compact zs).length cap) ∧ ∃ q, w' = putRow (Value.int .i64) (Sort.ahead w q) blk off (Lib.compact zs ++ List.replicate (zs.length - (Lib.compact zs).length) 0).toArray

noncomputable def Gh.setFin (G : Gh) (b n : Nat) : Gh := { G with fin := fun x => if x = b then n else G.fin x }
theorem Wr.finKeeps (W : Wr w w' b) {p : Place} (hb : G.own b = some (.lst p)) (hstow : ∀ b e, G.st b e → G.own b = none) (m : Mt) (n : Nat) : Keeps w G m w' (G.setFin b n) m.bE (fun q => q ≠ p) where
  be := fun _ _ h => h
  st := fun _ _ h => h
  cell := fun b' n o hs _ => W.cell (by rintro rfl; rw [hstow _ _ hs] at hb; cases hb) o
  ep := by simp [Mt.bE]
  rv := fun r => by cases r <;> exact Nat.le_refl _
  al := fun _ => Nat.le_refl _
  era := Nat.le_refl _
  rd := fun he => by simp [Mt.bE] at he
  pl := fun _ _ _ => rfl
  la := fun _ _ => rfl
  own := fun b' q hq ho => by
    have : b' ≠ b := by
      rintro rfl
      rw [ho] at hb
      cases hb
      exact hq rfl
    refine ⟨ho, ?_, fun o => ⟨W.cell this o, W.frozen _⟩⟩
    show (if b' = b then n else G.fin b') = _
    rw [if_neg this]
  opl := fun _ _ => rfl
  mp := fun _ k b' es clock _ hh => ⟨es, clock, W.map _ _ _ hh, fun i x hx => ⟨x, hx, rfl⟩⟩

theorem compact_len (zs : List Int) : (Lib.compact zs).length ≤ zs.length := by
  unfold Lib.compact Lib.compactUpTo
  rw [List.length_map]
  refine Nat.le_trans (List.length_filter_le _ _) ?_
  simp

theorem compC_tri {f r sz : Nat} {sto : List Ob} {ys : List (List D)} {zs : List Int} (hC : CompC P f) (hzs : intsOf ys = some zs) (hbig : zs.length ≤ 9223372036854775807) (hr : r ≤ sto.length) :
    Tri P f r [.list (.own sz) ys] sto (fun d l => d = .list (.own sz) ((Lib.compact zs).map rowI) ∧ l = sto) := by
  obtain ⟨fn, hf, hb, hnm, hnt⟩ := hC.fn
  refine ⟨fn, hf, ⟨hb, hnm⟩, hnt, hr, fun G0 w vs hl hR => ?_⟩
  obtain ⟨v, rfl⟩ : ∃ v, vs = [v] := List.length_eq_one_iff.1 hl
  have hys := intsOf_eq hzs
  have htk : takeO (s0 r [.list (.own sz) ys] sto) (.tmp 0) = some (.list (.own sz) ys, { (s0 r [.list (.own sz) ys] sto) with env := ins 0 (leftTop 0 (.list (.own sz) ys)) (s0 r [.list (.own sz) ys] sto).env, m := (m0 r).bS 0 }) := rfl
  obtain ⟨G1, r1, v1, K1, e1, e2, _⟩ := takeO_rel hR htk 0
  have hv0 : (Frm fn.ntmps [v]).eval (.tmp 0) = v := by
    show (Frm fn.ntmps [v]).tmps.getD 0 undef = v
    simp only [Frm, Array.getD_eq_getD_getElem?]
    rw [Array.getElem?_append_left (by simp)]
    rfl
  rw [hv0] at v1
  have v1' : OwnL w G1 ⟨.air 0, 0, 0⟩ sz ys v := v1
  have easy : ys = [] → ∀ p cap, v = .slice p 0 cap → Calls P f #[v] w fun e w' => match e with
      | .returned v => ∃ d s' G' a', (d = .list (.own sz) ((Lib.compact zs).map rowI) ∧ s'.sto = sto) ∧ Rel ⟨fn.ntmps, r, sto.length, w, G0, []⟩ G' s' a' w' ∧ VT w' G' s'.m (.air 0) d v
      | _ => False := by
    intro h0 p cap hv
    subst h0
    have hz0 : zs = [] := by simp [intsOf] at hzs; exact hzs
    subst hz0
    rw [hv]
    refine (hC.nil p cap w).mono fun e w' he => ?_
    obtain ⟨rfl, rfl⟩ := he
    rw [← hv]
    exact ⟨_, _, G1, _, ⟨rfl, rfl⟩, r1, v1'⟩
  rcases v1' with ⟨h0, hv⟩ | ⟨hz, b, off, cap, hv, hcap, ho1, hfin, hGpl, hcell, hrows⟩
  · exact easy h0 none 0 hv
  · by_cases hne : ys = []
    · subst hne
      exact easy rfl _ _ hv
    · have hsz : sz = 1 := by
        cases hyy : ys with
        | nil => exact absurd hyy hne
        | cons y r =>
          have h1 := hrows.1 y (by rw [hyy]; simp)
          cases hzz : zs with
          | nil => rw [hyy, hzz] at hys; simp at hys
          | cons z r' =>
            rw [hyy, hzz] at hys
            simp at hys
            rw [hys.1] at h1
            exact h1.symm
      subst hsz
      have hzl : zs.length = ys.length := by rw [hys]; simp
      have hH : Holds (Value.int .i64) w b off zs.toArray := fun j hj => by
        have hj' : j < zs.length := by simpa using hj
        have hr : ys[j]? = some (rowI (zs[j]'hj')) := by rw [hys]; simp [hj']
        obtain ⟨u, hu, hi⟩ := hrows.2 j 0 _ (.int .i64 (zs[j]'hj')) hr rfl
        have hi' : u = .int .i64 (zs[j]'hj') := by cases hi; rfl
        subst hi'
        obtain ⟨_, hfz⟩ := hcell j (by omega)
        rw [Nat.mul_one, Nat.add_zero] at hu
        refine ⟨?_, hfz⟩
        rw [hu]
        simp [hj']
      subst hv
      rw [show ys.length = zs.length by omega]
      refine (hC.some b off cap zs w hH hbig (by omega)).mono fun e w' he => ?_
      obtain ⟨rfl, q, rfl⟩ := he
      have hcl := compact_len zs
      have hlen2 : (Lib.compact zs ++ List.replicate (zs.length - (Lib.compact zs).length) 0).toArray.size = zs.toArray.size := by simp; omega
      generalize hfull : Lib.compact zs ++ List.replicate (zs.length - (Lib.compact zs).length) 0 = full at *
      have W := wr_putRow (Value.int .i64) w b off full.toArray
      have K := W.finKeeps ho1 r1.stow (((m0 r).bS 0)) (off + (Lib.compact zs).length)
      have hne' : ∀ (k b' : Nat) (o : Ob), sto[k]? = some o → G1.be k = some b' → b' ≠ b := by
        rintro k b' o hk hb' rfl
        obtain ⟨b2, q1, q2, _⟩ := r1.sto k o hk
        rw [hb'] at q1
        cases q1
        rw [ho1] at q2
        split at q2 <;> cases q2
      have r2 : Rel ⟨fn.ntmps, r, sto.length, w, G0, []⟩ (G1.setFin b (off + (Lib.compact zs).length)) ⟨[], [], sto, ((m0 r).bS 0).bE⟩ (Frm fn.ntmps [.slice (some ⟨b, off, none⟩) ys.length cap]) (putRow (Value.int .i64) w b off full.toArray) := by
        refine r1.reW W (by rw [ho1]; simp) (fun b' _ => rfl) rfl rfl (fun b' e he => .inl he) r1.stow r1.std r1.size r1.defers (fun t d ht => by simp [lk_nil] at ht) (fun t cs ht => by simp [lk_nil] at ht) rfl rfl (fun k o b' hk hb' => ?_)
        exact r1.stoW W K (fun j => by simp) (show _ = some o from hk) hb' (hne' k b' o hk hb')
      have r3 := r2.grown q #[]
      rw [grow_empty] at r3
      refine ⟨_, ⟨[], [], sto, ((m0 r).bS 0).bE⟩, _, _, ⟨rfl, rfl⟩, r3, ?_⟩
      have hOwn : OwnL (putRow (Value.int .i64) (Sort.ahead w q) b off full.toArray) (G1.setFin b (off + (Lib.compact zs).length)) ⟨.air 0, 0, 0⟩ 1 ((Lib.compact zs).map rowI) (.slice (some ⟨b, off, none⟩) (Lib.compact zs).length cap) := by
        refine .inr ⟨by omega, b, off, cap, by simp, by simp; omega, ho1, ?_, hGpl, fun i hi => ?_, fun r hr => ?_, fun j c' r d hr hd => ?_⟩
        · show (if b = b then _ else _) = _
          rw [if_pos rfl]
          simp
        · obtain ⟨⟨u, hu⟩, hf⟩ := hcell i hi
          show (∃ u, (putRow (Value.int .i64) w b off full.toArray).cell? ⟨b, off + i, none⟩ = some u) ∧ (putRow (Value.int .i64) w b off full.toArray).frozen? ⟨b, off + i, none⟩ = false
          refine ⟨?_, by rw [W.frozen]; exact hf⟩
          by_cases hin : i < full.toArray.size
          · exact ⟨_, cell?_putRow (Value.int .i64) w b off zs.toArray full.toArray hH hlen2 i hin⟩
          · exact ⟨u, by rw [cell?_putRow_other _ _ _ _ _ _ (.inr (.inr (by simp only [List.size_toArray] at hin ⊢; omega)))]; exact hu⟩
        · obtain ⟨z, _, rfl⟩ := List.mem_map.1 hr
          rfl
        · rw [List.getElem?_map] at hr
          obtain ⟨z, hz, rfl⟩ := Option.map_eq_some_iff.1 hr
          have hj : j < (Lib.compact zs).length := (List.getElem?_eq_some_iff.1 hz).1
          have hc0 : c' = 0 := by
            have := (List.getElem?_eq_some_iff.1 hd).1
            simp [rowI] at this
            exact this
          subst hc0
          simp [rowI] at hd
          subst hd
          have hjf : full[j]? = some z := by rw [← hfull, List.getElem?_append_left hj]; exact hz
          have hjl : j < full.length := (List.getElem?_eq_some_iff.1 hjf).1
          refine ⟨.int .i64 z, ?_, .int _ _⟩
          show (putRow (Value.int .i64) w b off full.toArray).cell? _ = _
          rw [Nat.mul_one, Nat.add_zero, cell?_putRow (Value.int .i64) w b off zs.toArray full.toArray hH hlen2 j (by simpa using hjl)]
          have := (List.getElem?_eq_some_iff.1 hjf).2
          simp [hjl, this]
      exact hOwn
end

noncomputable def insI (z : Int) : List Int → List Int
  | [] => [z]
  | x :: r => if z ≤ x then z :: x :: r else x :: insI z r
noncomputable def sortI : List Int → List Int
  | [] => []
  | z :: r => insI z (sortI r)
theorem insI_perm (z : Int) : ∀ l : List Int, (insI z l).Perm (z :: l)
  | [] => .refl _
  | x :: r => by
    unfold insI
    split
    · exact .refl _
    · exact ((insI_perm z r).cons x).trans (List.Perm.swap z x r)
theorem insI_sorted (z : Int) : ∀ {l : List Int}, l.Pairwise (· ≤ ·) → (insI z l).Pairwise (· ≤ ·)
  | [], _ => by simp [insI]
  | x :: r, h => by
    rw [List.pairwise_cons] at h
    unfold insI
    split
    · rename_i hz
      rw [List.pairwise_cons, List.pairwise_cons]
      refine ⟨fun y hy => ?_, h⟩
      rcases List.mem_cons.1 hy with rfl | hy
      · exact hz
      · exact Int.le_trans hz (h.1 y hy)
    · rename_i hz
      rw [List.pairwise_cons]
      refine ⟨fun y hy => ?_, insI_sorted z h.2⟩
      rcases List.mem_cons.1 ((insI_perm z r).mem_iff.1 hy) with rfl | hy
      · omega
      · exact h.1 y hy
theorem sortI_perm : ∀ l : List Int, (sortI l).Perm l
  | [] => .refl _
  | z :: r => (insI_perm z _).trans ((sortI_perm r).cons z)
theorem sortI_sorted : ∀ l : List Int, (sortI l).Pairwise (· ≤ ·)
  | [] => .nil
  | z :: r => insI_sorted z (sortI_sorted r)
theorem sorted_unique : ∀ {l l' : List Int}, l.Perm l' → l.Pairwise (· ≤ ·) → l'.Pairwise (· ≤ ·) → l = l'
  | [], l', h, _, _ => (List.nil_perm.1 h).symm
  | x :: r, [], h, _, _ => by simp at h
  | x :: r, y :: r', h, h1, h2 => by
    rw [List.pairwise_cons] at h1 h2
    have e : x = y := by
      have hx : x ∈ y :: r' := h.mem_iff.1 (by simp)
      have hy : y ∈ x :: r := h.mem_iff.2 (by simp)
      rcases List.mem_cons.1 hx with e | hx
      · exact e
      · rcases List.mem_cons.1 hy with e | hy
        · exact e.symm
        · have := h1.1 y hy
          have := h2.1 x hx
          omega
    subst e
    rw [sorted_unique (List.perm_cons x |>.1 h) h1.2 h2.2]
theorem mergeSort_sortI (l : List Int) : l.mergeSort (fun x y => decide (x ≤ y)) = sortI l := by
  refine sorted_unique ((List.mergeSort_perm _ _).trans (sortI_perm l).symm) ?_ (sortI_sorted l)
  have := List.pairwise_mergeSort (le := fun x y : Int => decide (x ≤ y)) (fun a b c h1 h2 => by simp at *; omega) (fun a b => by simp; omega) l
  exact this.imp fun h => by simpa using h

noncomputable def compSp : Caller := fun r _ args sto => match args with
  | [.list (.own sz) ys] => match intsOf ys with
    | some zs => if zs.length ≤ 9223372036854775807 ∧ r ≤ sto.length then .ok (.list (.own sz) ((Lib.compact zs).map rowI), sto) else .no [40]
    | none => .no [41]
  | _ => .no [42]
theorem compSp_ok {P : Program} {f f' : Nat} (hC : CompC P f) {r : Nat} {args : List D} {sto : List Ob} {d : D} {sto' : List Ob} (h : compSp r f' args sto = .ok (d, sto')) : Tri P f r args sto (fun d' l => d' = d ∧ l = sto') ∧ Pre r sto sto' := by
  unfold compSp at h
  split at h
  · split at h
    · rename_i zs hzs
      split at h
      · rename_i hg
        cases h
        exact ⟨compC_tri hC hzs hg.1 hg.2, Pre.refl _ _⟩
      · cases h
    · cases h
  · cases h

end Go.Lv

namespace Go.Lv

mutual
/-- The pointers of data led elsewhere. -/
noncomputable def renD (ρ : Nat → Nat) : D → D
  | .gptr k o => .gptr (ρ k) o
  | .map k => .map (ρ k)
  | .fn f ds => .fn f (renL ρ ds)
  | .list q xs => .list q (renLL ρ xs)
  | .agg cs => .agg (renL ρ cs)
  | .tup cs => .tup (renL ρ cs)
  | .int k n => .int k n
  | .bool b => .bool b
  | .str s => .str s
  | .nil => .nil
  | .lptr t v o => .lptr t v o
  | .eptr e p i row o => .eptr e p i row o
  | .nilmap => .nilmap
  | .nilfn => .nilfn
  | .stamp e k i => .stamp e k i
  | .dead => .dead
noncomputable def renL (ρ : Nat → Nat) : List D → List D
  | [] => []
  | d :: r => renD ρ d :: renL ρ r
noncomputable def renLL (ρ : Nat → Nat) : List (List D) → List (List D)
  | [] => []
  | d :: r => renL ρ d :: renLL ρ r
end
noncomputable def renO (ρ : Nat → Nat) : Ob → Ob
  | .box cs => .box (renL ρ cs)
  | .map es => .map es

theorem renL_map (ρ : Nat → Nat) : ∀ l : List D, renL ρ l = l.map (renD ρ)
  | [] => rfl
  | d :: r => by simp [renL, renL_map ρ r]
theorem renLL_map (ρ : Nat → Nat) : ∀ l : List (List D), renLL ρ l = l.map (renL ρ)
  | [] => rfl
  | d :: r => by simp [renLL, renLL_map ρ r]
theorem renL_get (ρ : Nat → Nat) (l : List D) (j : Nat) : (renL ρ l)[j]? = (l[j]?).map (renD ρ) := by rw [renL_map, List.getElem?_map]
theorem renLL_get (ρ : Nat → Nat) (l : List (List D)) (j : Nat) : (renLL ρ l)[j]? = (l[j]?).map (renL ρ) := by rw [renLL_map, List.getElem?_map]
theorem renL_len (ρ : Nat → Nat) (l : List D) : (renL ρ l).length = l.length := by rw [renL_map, List.length_map]
theorem renLL_len (ρ : Nat → Nat) (l : List (List D)) : (renLL ρ l).length = l.length := by rw [renLL_map, List.length_map]
theorem renD_fz (ρ : Nat → Nat) (d : D) : fz (renD ρ d) = renD ρ (fz d) := by
  cases d with
  | list q xs => cases q <;> rfl
  | _ => rfl
section
variable {w : World} {ρ : Nat → Nat}

theorem imm_down {n : Nat} {be be' : Nat → Option Nat} {st : Nat → Nat → Prop} (hbe : ∀ i, i < n → be' i = be (ρ i)) : ∀ {d' d : D} {v : Value}, NR n d' → d = renD ρ d' → Imm w be st d v → Imm w be' st d' v := by
  intro d' d v hn he h
  induction h generalizing d' with
  | int k n => cases d' <;> simp [renD] at he; obtain ⟨rfl, rfl⟩ := he; exact .int _ _
  | bool b => cases d' <;> simp [renD] at he; subst he; exact .bool _
  | str b => cases d' <;> simp [renD] at he; subst he; exact .str _
  | nil => cases d' <;> simp [renD] at he; exact .nil
  | nilmap => cases d' <;> simp [renD] at he; exact .nilmap
  | nilfn => cases d' <;> simp [renD] at he; exact .nilfn
  | gptr k off b hb =>
    cases d' <;> simp [renD] at he
    obtain ⟨rfl, rfl⟩ := he
    cases hn with
    | gptr j o hj => exact .gptr _ _ _ (by rw [hbe _ hj]; exact hb)
  | map k b hb =>
    cases d' <;> simp [renD] at he
    subst he
    cases hn with
    | map j hj => exact .map _ _ (by rw [hbe _ hj]; exact hb)
  | fn f ds vs hl hd ih =>
    cases d' <;> simp [renD] at he
    obtain ⟨rfl, rfl⟩ := he
    cases hn with
    | fn f' ds' hds =>
      refine .fn _ _ _ (by rw [renL_len] at hl; exact hl) fun i d v hdi hv => ?_
      exact ih i (renD ρ d) v (by rw [renL_get, hdi]; rfl) hv (hds d (List.mem_of_getElem? hdi)) rfl
  | nils a cap =>
    cases d' <;> simp [renD] at he
    rename_i q xs
    obtain ⟨rfl, h2⟩ := he
    cases xs with
    | nil => exact .nils _ _
    | cons x r => simp [renLL] at h2
  | list xs b off cap sz vals h1 h2 h3 h4 h5 h6 h7 ih =>
    cases d' <;> simp [renD] at he
    rename_i q ys
    obtain ⟨rfl, rfl⟩ := he
    cases hn with
    | list q' xs' hxs =>
      rw [renLL_len] at *
      refine .list ys b off cap sz vals h1 h2 h3 h4 (fun r hr => ?_) h6 (fun j c r d hr hd => ?_)
      · have := h5 (renL ρ r) (by rw [renLL_map]; exact List.mem_map.2 ⟨r, hr, rfl⟩)
        rwa [renL_len] at this
      · exact ih j c (renL ρ r) (renD ρ d) (by rw [renLL_get, hr]; rfl) (by rw [renL_get, hd]; rfl) (hxs r (List.mem_of_getElem? hr) d (List.mem_of_getElem? hd)) rfl

theorem imm_up {be be' : Nat → Option Nat} {st st' : Nat → Nat → Prop} (hbe : ∀ i b, be i = some b → be' (ρ i) = some b) (hst : ∀ b e, st b e → st' b e) {d : D} {v : Value} (h : Imm w be st d v) : Imm w be' st' (renD ρ d) v := by
  induction h with
  | int k n => exact .int _ _
  | bool b => exact .bool _
  | str b => exact .str _
  | nil => exact .nil
  | nilmap => exact .nilmap
  | nilfn => exact .nilfn
  | gptr k off b hb => exact .gptr _ _ _ (hbe _ _ hb)
  | map k b hb => exact .map _ _ (hbe _ _ hb)
  | fn f ds vs hl hd ih =>
    refine .fn _ _ _ (by rw [renL_len]; exact hl) fun i d v hdi hv => ?_
    rw [renL_get] at hdi
    obtain ⟨d0, h0, rfl⟩ := Option.map_eq_some_iff.1 hdi
    exact ih i d0 v h0 hv
  | nils a cap => exact .nils _ _
  | list xs b off cap sz vals h1 h2 h3 h4 h5 h6 h7 ih =>
    have := Imm.list (w := w) (be := be') (st := st') (renLL ρ xs) b off cap sz vals (by rw [renLL_len]; exact h1) h2 (by rw [renLL_len]; exact h3) (by rw [renLL_len]; exact hst _ _ h4) (fun r hr => by
      rw [renLL_map] at hr
      obtain ⟨r0, h0, rfl⟩ := List.mem_map.1 hr
      rw [renL_len]
      exact h5 r0 h0) (fun j c hj hc => h6 j c (by rw [renLL_len] at hj; exact hj) hc) (fun j c r d hr hd => by
      rw [renLL_get] at hr
      obtain ⟨r0, h0, rfl⟩ := Option.map_eq_some_iff.1 hr
      rw [renL_get] at hd
      obtain ⟨d0, h8, rfl⟩ := Option.map_eq_some_iff.1 hd
      exact ih j c r0 d0 h0 h8)
    rwa [renLL_len] at this

theorem rows_down {n : Nat} {be be' : Nat → Option Nat} {st : Nat → Nat → Prop} (hbe : ∀ i, i < n → be' i = be (ρ i)) {b off sz : Nat} {xs : List (List D)} (hn : ∀ r, r ∈ xs → ∀ d, d ∈ r → NR n d) (h : RowsAt w be st b off sz (renLL ρ xs)) : RowsAt w be' st b off sz xs := by
  refine ⟨fun r hr => ?_, fun j c r d hr hd => ?_⟩
  · have := h.1 (renL ρ r) (by rw [renLL_map]; exact List.mem_map.2 ⟨r, hr, rfl⟩)
    rwa [renL_len] at this
  · obtain ⟨v, hv, hi⟩ := h.2 j c (renL ρ r) (renD ρ d) (by rw [renLL_get, hr]; rfl) (by rw [renL_get, hd]; rfl)
    exact ⟨v, hv, imm_down hbe (hn r (List.mem_of_getElem? hr) d (List.mem_of_getElem? hd)) rfl hi⟩
theorem rows_up {be be' : Nat → Option Nat} {st st' : Nat → Nat → Prop} (hbe : ∀ i b, be i = some b → be' (ρ i) = some b) (hst : ∀ b e, st b e → st' b e) {b off sz : Nat} {xs : List (List D)} (h : RowsAt w be st b off sz xs) : RowsAt w be' st' b off sz (renLL ρ xs) := by
  refine ⟨fun r hr => ?_, fun j c r d hr hd => ?_⟩
  · rw [renLL_map] at hr
    obtain ⟨r0, h0, rfl⟩ := List.mem_map.1 hr
    rw [renL_len]
    exact h.1 r0 h0
  · rw [renLL_get] at hr
    obtain ⟨r0, h0, rfl⟩ := Option.map_eq_some_iff.1 hr
    rw [renL_get] at hd
    obtain ⟨d0, h8, rfl⟩ := Option.map_eq_some_iff.1 hd
    obtain ⟨v, hv, hi⟩ := h.2 j c r0 d0 h0 h8
    exact ⟨v, hv, imm_up hbe hst hi⟩
end

noncomputable def invI (ρ : Nat → Nat) (n k : Nat) : Option Nat := (List.range n).find? fun i => ρ i == k
theorem invI_some {ρ : Nat → Nat} {n k i : Nat} (h : invI ρ n k = some i) : i < n ∧ ρ i = k := by
  have h1 := List.find?_some h
  have h2 := List.mem_of_find?_eq_some h
  exact ⟨List.mem_range.1 h2, by simpa using h1⟩
theorem invI_none {ρ : Nat → Nat} {n k i : Nat} (h : invI ρ n k = none) (hi : i < n) : ρ i ≠ k := by
  have := List.find?_eq_none.1 h i (List.mem_range.2 hi)
  simpa using this
theorem invI_ρ {ρ : Nat → Nat} {n i : Nat} (hinj : ∀ i j, i < n → j < n → ρ i = ρ j → i = j) (hi : i < n) : invI ρ n (ρ i) = some i := by
  cases h : invI ρ n (ρ i) with
  | none => exact absurd rfl (invI_none h hi)
  | some j =>
    obtain ⟨h1, h2⟩ := invI_some h
    rw [hinj j i h1 hi h2]

noncomputable def extR (ρ : Nat → Nat) (n N : Nat) : Nat → Nat := fun i => if i < n then ρ i else N + (i - n)
noncomputable def backSto (ρ : Nat → Nat) (n : Nat) (sto l : List Ob) : List Ob :=
  (List.range n).foldl (fun s i => match l[i]? with | some o => s.set (ρ i) (renO (extR ρ n sto.length) o) | none => s) sto ++ (l.drop n).map (renO (extR ρ n sto.length))

noncomputable def downOwn (ρ : Nat → Nat) (n r : Nat) : Option Owner → Option Owner
  | some (.box (.gbox k)) => match invI ρ n k with
    | some i => if r ≤ i then some (.box (.gbox i)) else none
    | none => none
  | some (.lst p) => match p.r with
    | .slot _ => some (.lst p)
    | .gbox k => match invI ρ n k with
      | some i => if r ≤ i then some (.lst ⟨.gbox i, p.i, p.j⟩) else none
      | none => none
    | _ => none
  | _ => none
noncomputable def Gh.down (G : Gh) (ρ : Nat → Nat) (n r : Nat) : Gh :=
  { be := fun i => if i < n then G.be (ρ i) else none
    la := G.la
    own := fun b => downOwn ρ n r (G.own b)
    fin := G.fin
    st := G.st
    pl := fun p => match p.r with
      | .gbox i => G.pl ⟨.gbox (ρ i), p.i, p.j⟩
      | _ => G.pl p }
noncomputable def upOwn (σ : Nat → Nat) : Option Owner → Option Owner
  | some (.box (.gbox i)) => some (.box (.gbox (σ i)))
  | some (.lst p) => match p.r with
    | .air n => some (.lst p)
    | .gbox i => some (.lst ⟨.gbox (σ i), p.i, p.j⟩)
    | _ => none
  | _ => none
noncomputable def Gh.up (G G' : Gh) (ρ : Nat → Nat) (n r N sz : Nat) : Gh :=
  open Classical in
  { be := fun k => if k < N then G.be k else G'.be (k - N + n)
    la := G.la
    own := fun b => if b < sz ∧ downOwn ρ n r (G.own b) = none then G.own b else upOwn (extR ρ n N) (G'.own b)
    fin := fun b => if b < sz ∧ downOwn ρ n r (G.own b) = none then G.fin b else G'.fin b
    st := fun b e => if b < sz ∧ downOwn ρ n r (G.own b) = none then G.st b e else G'.st b e
    pl := fun p => match p.r with
      | .gbox k => if k < N then match invI ρ n k with
          | some i => if r ≤ i then G'.pl ⟨.gbox i, p.i, p.j⟩ else G.pl p
          | none => G.pl p
        else G'.pl ⟨.gbox (k - N + n), p.i, p.j⟩
      | .air _ => G'.pl p
      | _ => G.pl p }

theorem foldlO {f : Nat → Option Ob} {ρ : Nat → Nat} : ∀ (l : List Nat) (s : List Ob), (l.foldl (fun s i => match f i with | some o => s.set (ρ i) o | none => s) s).length = s.length
  | [], s => rfl
  | i :: l, s => by
    rw [List.foldl_cons, foldlO l]
    cases f i <;> simp
theorem foldlO_get {f : Nat → Option Ob} {ρ : Nat → Nat} {n : Nat} (hinj : ∀ i j, i < n → j < n → ρ i = ρ j → i = j) : ∀ (m : Nat) (s : List Ob), m ≤ n → (∀ i, i < m → (f i).isSome = true ∧ ρ i < s.length) → ∀ k, ((List.range m).foldl (fun s i => match f i with | some o => s.set (ρ i) o | none => s) s)[k]? = match invI ρ m k with | some i => f i | none => s[k]?
  | 0, s, _, _, k => by simp [invI]
  | m + 1, s, hm, hf, k => by
    rw [List.range_succ, List.foldl_append]
    have ih := foldlO_get hinj m s (by omega) (fun i hi => hf i (by omega)) k
    have hlen := foldlO (f := f) (ρ := ρ) (List.range m) s
    generalize hfl : (List.range m).foldl (fun s i => match f i with | some o => s.set (ρ i) o | none => s) s = s1 at *
    obtain ⟨o, ho⟩ := Option.isSome_iff_exists.1 (hf m (by omega)).1
    have hρ := (hf m (by omega)).2
    simp only [List.foldl_cons, List.foldl_nil, ho]
    rw [List.getElem?_set]
    by_cases e : ρ m = k
    · rw [if_pos e, if_pos (by omega)]
      have : invI ρ (m + 1) k = some m := by
        rw [← e]
        exact invI_ρ (fun i j hi hj => hinj i j (by omega) (by omega)) (by omega)
      rw [this]
      exact ho.symm
    · rw [if_neg e, ih]
      have : invI ρ (m + 1) k = invI ρ m k := by
        unfold invI
        rw [List.range_succ, List.find?_append]
        have : [m].find? (fun i => ρ i == k) = none := by simp [e]
        rw [this, Option.or_none]
      rw [this]

section
variable {P : Program} {f r r' : Nat} {args' : List D} {sto sto' : List Ob} {ρ : Nat → Nat}

theorem down_vc {G : Gh} {w : World} {n r : Nat} {m m' : Mt} {R R' : Root} {i j : Nat} {d : D} {u : Value} (hR : (∃ t, R = .slot t ∧ R' = .slot t) ∨ ∃ k, k < n ∧ r ≤ k ∧ invI ρ n (ρ k) = some k ∧ R = .gbox (ρ k) ∧ R' = .gbox k)
    (hn : NR n d) (hd : (stoC d || isDead d) = true) (h : VC w G m ⟨R, i, j⟩ (renD ρ d) u) : VC w (G.down ρ n r) m' ⟨R', i, j⟩ d u := by
  have hbe : ∀ i, i < n → (G.down ρ n r).be i = G.be (ρ i) := fun i hi => by show (if i < n then _ else _) = _; rw [if_pos hi]
  cases d with
  | list q xs =>
    cases hn with
    | list _ _ hxs =>
    cases q with
    | imm => exact imm_down hbe (.list _ _ hxs) rfl (h : Imm w G.be G.st (renD ρ (.list .imm xs)) u)
    | own sz =>
      have h' : OwnL w G ⟨R, i, j⟩ sz (renLL ρ xs) u := h
      rcases h' with ⟨h0, hu⟩ | ⟨hz, b, off, cap, hu, hc, ho, hf, hpl, hcell, hrows⟩
      · left
        refine ⟨?_, hu⟩
        cases xs with
        | nil => rfl
        | cons x r => simp [renLL] at h0
      · rw [renLL_len] at hu hc hf
        refine .inr ⟨hz, b, off, cap, hu, hc, ?_, hf, ?_, hcell, rows_down hbe hxs hrows⟩
        · show downOwn ρ n r (G.own b) = _
          rw [ho]
          rcases hR with ⟨t, rfl, rfl⟩ | ⟨k, hk, hkr, hinv, rfl, rfl⟩
          · rfl
          · simp only [downOwn, hinv]
            rw [if_pos hkr]
        · rcases hR with ⟨t, rfl, rfl⟩ | ⟨k, hk, hkr, hinv, rfl, rfl⟩
          · exact hpl
          · exact hpl
    | cp e p => simp [stoC, rowC, isDead] at hd
  | dead => exact h
  | lptr _ _ _ => simp [stoC, rowC, isDead] at hd
  | eptr _ _ _ _ _ => simp [stoC, rowC, isDead] at hd
  | stamp _ _ _ => simp [stoC, rowC, isDead] at hd
  | agg _ => simp [stoC, rowC, isDead] at hd
  | tup _ => simp [stoC, rowC, isDead] at hd
  | int k z => exact imm_down hbe hn rfl h
  | bool b => exact imm_down hbe hn rfl h
  | str b => exact imm_down hbe hn rfl h
  | nil => exact imm_down hbe hn rfl h
  | gptr k o => exact imm_down hbe hn rfl h
  | nilmap => exact imm_down hbe hn rfl h
  | map k => exact imm_down hbe hn rfl h
  | fn f ds => exact imm_down hbe hn rfl h
  | nilfn => exact imm_down hbe hn rfl h
end

section
variable {P : Program} {f r r' nt nt' n N : Nat} {args' : List D} {sto sto' : List Ob} {ρ : Nat → Nat} {G0 G' : Gh} {w w' : World} {s' : DS} {a' : Act} {vs : List Value}

theorem Rel.down (hR : Rel ⟨nt, r, sto.length, w, G0, []⟩ G0 (s0 r (renL ρ args') sto) (Frm nt vs) w)
    (hinj : ∀ i j, i < sto'.length → j < sto'.length → ρ i = ρ j → i = j) (hsto : ∀ i o, sto'[i]? = some o → sto[ρ i]? = some (renO ρ o)) (hro : ∀ i, i < sto'.length → (i < r' ↔ ρ i < r)) (hr' : r' ≤ sto'.length)
    (hargs : args'.all cellsOK = true) (hna : ∀ d, d ∈ args' → NR sto'.length d) (hno : ∀ o, o ∈ sto' → NRo sto'.length o) (hbox : (sto'.drop r').all boxOK = true) :
    Rel ⟨nt, r', sto'.length, w, G0.down ρ sto'.length r', []⟩ (G0.down ρ sto'.length r') (s0 r' args' sto') (Frm nt vs) w := by
  have hbe : ∀ i, i < sto'.length → (G0.down ρ sto'.length r').be i = G0.be (ρ i) := fun i hi => by show (if i < sto'.length then _ else _) = _; rw [if_pos hi]
  refine { size := hR.size, defers := hR.defers, env := fun t d ht => ?_, loc := fun t cs ht => by simp [s0, lk_nil] at ht, sto := fun i o hi => ?_, be := fun k hk => ?_, new := fun b hb => ?_, stow := fun b e he => ?_, std := hR.std, old := fun b hb h0 => ⟨rfl, h0, fun e h => h⟩, os := rfl, tape := rfl, output := rfl, grow := Nat.le_refl _, ro := hr', rom := rfl, be0 := fun _ _ => rfl, n0 := Nat.le_refl _, la0 := fun t ht => nomatch ht }
  · have ht' : lk t (num 0 args') = some d := ht
    rw [lk_num, if_pos (Nat.zero_le _), Nat.sub_zero] at ht'
    have hm := List.mem_of_getElem? ht'
    have h1 : lk t (s0 r (renL ρ args') sto).env = some (renD ρ d) := by
      show lk t (num 0 (renL ρ args')) = _
      rw [lk_num, if_pos (Nat.zero_le _), Nat.sub_zero, renL_get, ht']
      rfl
    have hv := hR.env t _ h1
    have hok := List.all_eq_true.1 hargs d hm
    simp only [cellsOK, Bool.and_eq_true, Bool.not_eq_true'] at hok
    obtain ⟨hnt, hall⟩ := hok
    have hnr := hna d hm
    cases d with
    | tup ds => simp [isTup] at hnt
    | agg cs =>
      obtain ⟨us, e, hl, hc⟩ := hv
      rw [renL_len] at hl
      refine ⟨us, e, hl, fun j c u hj hu => ?_⟩
      cases hnr with
      | agg _ hcs =>
      exact down_vc (.inl ⟨t, rfl, rfl⟩) (hcs c (List.mem_of_getElem? hj)) (by rw [List.all_eq_true.1 hall c (List.mem_of_getElem? hj)]; rfl) (hc j (renD ρ c) u (by rw [renL_get, hj]; rfl) hu)
    | _ =>
      rw [VT_part (by simp [renD]), VP_cell (by simp [renD])] at hv
      rw [VT_part (by simp), VP_cell (by simp)]
      refine down_vc (.inl ⟨t, rfl, rfl⟩) hnr ?_ hv
      simp only [cellsD, List.all_cons, List.all_nil, Bool.and_true] at hall
      rw [hall]
      rfl
  · have hi' : sto'[i]? = some o := hi
    have hlt : i < sto'.length := (List.getElem?_eq_some_iff.1 hi').1
    obtain ⟨b, h1, h2, h3, h4⟩ := hR.sto (ρ i) _ (hsto i o hi')
    have h2 : if ρ i < r then G0.own b = none else G0.own b = some (.box (.gbox (ρ i))) := h2
    have hinv := invI_ρ hinj hlt
    refine ⟨b, by rw [hbe i hlt]; exact h1, ?_, h3, ?_⟩
    · show if i < r' then downOwn _ _ _ (G0.own b) = none else downOwn _ _ _ (G0.own b) = _
      by_cases hir : i < r'
      · rw [if_pos ((hro i hlt).1 hir)] at h2
        rw [if_pos hir, h2]
        rfl
      · rw [if_neg (fun h => hir ((hro i hlt).2 h))] at h2
        rw [if_neg hir, h2]
        simp only [downOwn, hinv]
        rw [if_pos (by omega)]
    · cases o with
      | map es => exact h4
      | box cs =>
        have hncs : ∀ d, d ∈ cs → NR sto'.length d := hno _ (List.mem_of_getElem? hi')
        have h4 : if ρ i < r then (∀ (j : Nat) (d : D), (renL ρ cs)[j]? = some d → ∃ u, w.cell? ⟨b, j, none⟩ = some u ∧ Imm w G0.be G0.st (fz d) u) else BoxV w G0 (m0 r) (.gbox (ρ i)) b (renL ρ cs) := h4
        show if i < r' then (∀ (j : Nat) (d : D), cs[j]? = some d → ∃ u, w.cell? ⟨b, j, none⟩ = some u ∧ Imm w (G0.down ρ sto'.length r').be (G0.down ρ sto'.length r').st (fz d) u) else BoxV w (G0.down ρ sto'.length r') (m0 r') (.gbox i) b cs
        by_cases hir : i < r'
        · rw [if_pos ((hro i hlt).1 hir)] at h4
          rw [if_pos hir]
          intro j d hd
          obtain ⟨u, hu, hi⟩ := h4 j (renD ρ d) (by rw [renL_get, hd]; rfl)
          rw [renD_fz] at hi
          exact ⟨u, hu, imm_down hbe ((hncs d (List.mem_of_getElem? hd)).fz) rfl hi⟩
        · rw [if_neg (fun h => hir ((hro i hlt).2 h))] at h4
          rw [if_neg hir]
          intro j d hd
          obtain ⟨u, hu, hf, hc⟩ := h4 j (renD ρ d) (by rw [renL_get, hd]; rfl)
          have hok : boxOK (.box cs) = true := by
            refine List.all_eq_true.1 hbox _ (List.mem_of_getElem? (i := i - r') ?_)
            rw [List.getElem?_drop, show r' + (i - r') = i by omega]
            exact hi'
          exact ⟨u, hu, hf, down_vc (.inr ⟨i, hlt, by omega, hinv, rfl, rfl⟩) (hncs d (List.mem_of_getElem? hd)) (List.all_eq_true.1 hok d (List.mem_of_getElem? hd)) hc⟩
  · show (if k < sto'.length then _ else _) = _
    rw [if_neg (by have : sto'.length ≤ k := hk; omega)]
  · obtain ⟨h1, h2⟩ := hR.new b hb
    exact ⟨by show downOwn _ _ _ (G0.own b) = none; rw [h1]; rfl, h2⟩
  · show downOwn _ _ _ (G0.own b) = none
    rw [hR.stow b e he]
    rfl

section
variable (h' : Rel ⟨nt', r', n, w, G0.down ρ n r', []⟩ G' s' a' w')
include h' 

theorem up_old {b : Nat} (hb : b < w.heap.size) (h0 : downOwn ρ n r' (G0.own b) = none) : w'.heap[b]? = w.heap[b]? ∧ G'.own b = none ∧ ∀ e, G'.st b e → G0.st b e := h'.old b hb h0
theorem up_st {b e : Nat} (hs : G'.st b e) : (Gh.up G0 G' ρ n r' N w.heap.size).st b e := by
  simp only [Gh.up]
  split
  · rename_i hc
    exact (up_old h' hc.1 hc.2).2.2 e hs
  · exact hs
theorem up_be (hρ : ∀ i, i < n → ρ i < N) {i b : Nat} (hb : G'.be i = some b) : (Gh.up G0 G' ρ n r' N w.heap.size).be (extR ρ n N i) = some b := by
  simp only [Gh.up, extR]
  by_cases hi : i < n
  · rw [if_pos hi, if_pos (hρ i hi)]
    have := h'.be0 i hi
    rw [hb] at this
    have h2 : (G0.down ρ n r').be i = G0.be (ρ i) := by show (if i < n then _ else _) = _; rw [if_pos hi]
    rw [← h2]
    exact this.symm
  · rw [if_neg hi, if_neg (by omega)]
    rw [show N + (i - n) - N + n = i by omega]
    exact hb
theorem up_imm (hρ : ∀ i, i < n → ρ i < N) {d : D} {v : Value} (hi : Imm w' G'.be G'.st d v) : Imm w' (Gh.up G0 G' ρ n r' N w.heap.size).be (Gh.up G0 G' ρ n r' N w.heap.size).st (renD (extR ρ n N) d) v :=
  imm_up (fun i b hb => up_be h' hρ hb) (fun b e hs => up_st h' hs) hi
theorem up_vc (hinj : ∀ i j, i < n → j < n → ρ i = ρ j → i = j) (hρ : ∀ i, i < n → ρ i < N) {R R' : Root} {i j : Nat} (hR : (∃ k, R = .air k ∧ R' = .air k) ∨ ∃ k, r' ≤ k ∧ R' = .gbox k ∧ R = .gbox (extR ρ n N k)) {d : D} {v : Value} {m m' : Mt} (hd : (stoC d || isDead d) = true) (hv : VC w' G' m' ⟨R', i, j⟩ d v) :
    VC w' (Gh.up G0 G' ρ n r' N w.heap.size) m ⟨R, i, j⟩ (renD (extR ρ n N) d) v := by
  cases d with
  | list q xs =>
    cases q with
    | imm => exact up_imm h' hρ (hv : Imm w' G'.be G'.st (.list .imm xs) v)
    | own sz =>
      have hv' : OwnL w' G' ⟨R', i, j⟩ sz xs v := hv
      show OwnL w' _ ⟨R, i, j⟩ sz (renLL (extR ρ n N) xs) v
      rcases hv' with ⟨rfl, hu⟩ | ⟨hz, b, off, cap, hu, hc, ho, hf, hpl, hcell, hrows⟩
      · exact .inl ⟨rfl, hu⟩
      · have hnot : ¬ (b < w.heap.size ∧ downOwn ρ n r' (G0.own b) = none) := by
          rintro ⟨q1, q2⟩
          have := (up_old h' q1 q2).2.1
          rw [ho] at this
          cases this
        refine .inr ⟨hz, b, off, cap, by rw [renLL_len]; exact hu, by rw [renLL_len]; exact hc, ?_, ?_, ?_, hcell, rows_up (fun i b hb => up_be h' hρ hb) (fun b e hs => up_st h' hs) hrows⟩
        · simp only [Gh.up]
          rw [if_neg hnot, ho]
          rcases hR with ⟨k, rfl, rfl⟩ | ⟨k, hk, rfl, rfl⟩ <;> rfl
        · simp only [Gh.up]
          rw [if_neg hnot, renLL_len]
          exact hf
        · rw [← hpl]
          rcases hR with ⟨k, rfl, rfl⟩ | ⟨k, hk, rfl, rfl⟩
          · rfl
          · simp only [Gh.up, extR]
            by_cases hkn : k < n
            · simp only [if_pos hkn, if_pos (hρ k hkn), invI_ρ hinj hkn, if_pos hk]
            · simp only [if_neg hkn]
              rw [if_neg (by omega), show N + (k - n) - N + n = k by omega]
    | cp e p => simp [stoC, rowC, isDead] at hd
  | dead => exact hv
  | lptr _ _ _ => simp [stoC, rowC, isDead] at hd
  | eptr _ _ _ _ _ => simp [stoC, rowC, isDead] at hd
  | stamp _ _ _ => simp [stoC, rowC, isDead] at hd
  | agg _ => simp [stoC, rowC, isDead] at hd
  | tup _ => simp [stoC, rowC, isDead] at hd
  | int k z => exact up_imm h' hρ hv
  | bool b => exact up_imm h' hρ hv
  | str b => exact up_imm h' hρ hv
  | nil => exact up_imm h' hρ hv
  | gptr k o => exact up_imm h' hρ hv
  | nilmap => exact up_imm h' hρ hv
  | map k => exact up_imm h' hρ hv
  | fn f ds => exact up_imm h' hρ hv
  | nilfn => exact up_imm h' hρ hv
theorem up_vt (hinj : ∀ i j, i < n → j < n → ρ i = ρ j → i = j) (hρ : ∀ i, i < n → ρ i < N) {d : D} {v : Value} {m m' : Mt} (hd : partsOK d = true) (hv : VT w' G' m' (.air 0) d v) : VT w' (Gh.up G0 G' ρ n r' N w.heap.size) m (.air 0) (renD (extR ρ n N) d) v := by
  have cell : ∀ {d : D} {i : Nat} {v : Value}, cellsOK d = true → VP w' G' m' (.air 0) i d v → VP w' (Gh.up G0 G' ρ n r' N w.heap.size) m (.air 0) i (renD (extR ρ n N) d) v := by
    intro d i v hd hv
    simp only [cellsOK, Bool.and_eq_true, Bool.not_eq_true'] at hd
    obtain ⟨hnt, hall⟩ := hd
    cases d with
    | agg cs =>
      obtain ⟨vs, e, hl, h1⟩ := hv
      refine ⟨vs, e, by rw [renL_len]; exact hl, fun j d u hd hu => ?_⟩
      rw [renL_get] at hd
      obtain ⟨d0, hd0, rfl⟩ := Option.map_eq_some_iff.1 hd
      exact up_vc h' hinj hρ (.inl ⟨0, rfl, rfl⟩) (by rw [List.all_eq_true.1 hall d0 (List.mem_of_getElem? hd0)]; rfl) (h1 j d0 u hd0 hu)
    | tup ds => simp [isTup] at hnt
    | _ =>
      rw [VP_cell (by intro cs e; cases e)] at hv
      rw [VP_cell (by intro cs e; simp [renD] at e)]
      refine up_vc h' hinj hρ (.inl ⟨0, rfl, rfl⟩) ?_ hv
      simp only [cellsD, List.all_cons, List.all_nil, Bool.and_true] at hall
      rw [hall]
      rfl
  cases d with
  | tup ds =>
    obtain ⟨vs, e, hl, h1⟩ := hv
    refine ⟨vs, e, by rw [renL_len]; exact hl, fun i d u hd' hu => ?_⟩
    rw [renL_get] at hd'
    obtain ⟨d0, hd0, rfl⟩ := Option.map_eq_some_iff.1 hd'
    exact cell (List.all_eq_true.1 hd d0 (List.mem_of_getElem? hd0)) (h1 i d0 u hd0 hu)
  | _ =>
    rw [VT_part (by intro cs e; cases e)] at hv
    rw [VT_part (by intro cs e; simp [renD] at e)]
    exact cell hd hv
end

theorem Tri.ren {R' : D → List Ob → Prop} (ρ : Nat → Nat) (h : Tri P f r' args' sto' R')
    (hinj : ∀ i j, i < sto'.length → j < sto'.length → ρ i = ρ j → i = j) (hsto : ∀ i o, sto'[i]? = some o → sto[ρ i]? = some (renO ρ o)) (hro : ∀ i, i < sto'.length → (i < r' ↔ ρ i < r)) (hr : r ≤ sto.length)
    (hargs : args'.all cellsOK = true) (hna : ∀ d, d ∈ args' → NR sto'.length d) (hno : ∀ o, o ∈ sto' → NRo sto'.length o) (hbox : (sto'.drop r').all boxOK = true)
    (hok : ∀ d l, R' d l → partsOK d = true ∧ (l.drop r').all boxOK = true) :
    Tri P f r (renL ρ args') sto (fun d l => ∃ d' l', R' d' l' ∧ d = renD (extR ρ sto'.length sto.length) d' ∧ l = backSto ρ sto'.length sto l') := by
  obtain ⟨fn, hf, hb, hlen, hr', hcall⟩ := h
  have hρ : ∀ i, i < sto'.length → ρ i < sto.length := fun i hi => (List.getElem?_eq_some_iff.1 (hsto i _ (List.getElem?_eq_getElem hi))).1
  refine ⟨fn, hf, hb, by rw [renL_len]; exact hlen, hr, fun G0 w vs hl hR => ?_⟩
  rw [renL_len] at hl
  have hs := Rel.down hR hinj hsto hro hr' hargs hna hno hbox
  refine (hcall _ w vs hl hs).mono fun e w' he => ?_
  cases e with
  | panicked c => exact he.elim
  | outgrown => exact he.elim
  | returned v =>
    obtain ⟨d, s', G', a', hRd, h', hv⟩ := he
    obtain ⟨hp, hbx⟩ := hok d s'.sto hRd
    have hn' : sto'.length ≤ s'.sto.length := h'.n0
    have hfl : ((List.range sto'.length).foldl (fun s i => match s'.sto[i]? with | some o => s.set (ρ i) (renO (extR ρ sto'.length sto.length) o) | none => s) sto).length = sto.length := by
      have := foldlO (f := fun i => (s'.sto[i]?).map (renO (extR ρ sto'.length sto.length))) (ρ := ρ) (List.range sto'.length) sto
      refine Eq.trans ?_ this
      congr 2
      funext s i
      cases s'.sto[i]? <;> rfl
    have hget : ∀ k, ((List.range sto'.length).foldl (fun s i => match s'.sto[i]? with | some o => s.set (ρ i) (renO (extR ρ sto'.length sto.length) o) | none => s) sto)[k]? = match invI ρ sto'.length k with | some i => (s'.sto[i]?).map (renO (extR ρ sto'.length sto.length)) | none => sto[k]? := fun k => by
      have := foldlO_get (f := fun i => (s'.sto[i]?).map (renO (extR ρ sto'.length sto.length))) (ρ := ρ) hinj sto'.length sto (Nat.le_refl _) (fun i hi => ⟨by rw [List.getElem?_eq_getElem (by omega)]; rfl, hρ i hi⟩) k
      refine Eq.trans ?_ this
      congr 2
      funext s i
      cases s'.sto[i]? <;> rfl
    have hbl : (backSto ρ sto'.length sto s'.sto).length = sto.length + (s'.sto.length - sto'.length) := by
      unfold backSto
      rw [List.length_append, hfl, List.length_map, List.length_drop]
    -- what is known of objects that the callee did not see
    have K : Keeps w G0 (m0 r) w' (Gh.up G0 G' ρ sto'.length r' sto.length w.heap.size) { s'.m with ep := s'.m.ep + 1, era := s'.m.era + 1, ro := r } (fun p => ∃ k, p.r = .gbox k ∧ invI ρ sto'.length k = none ∧ k < sto.length) :=
      { be := fun k b hb => by
          have hlt : k < sto.length := by
            refine Nat.lt_of_not_le fun hk => ?_
            have := hR.be k hk
            rw [this] at hb
            cases hb
          simp only [Gh.up]
          rw [if_pos hlt]
          exact hb
        st := fun b e hs => by
          simp only [Gh.up]
          rw [if_pos ⟨hR.stLt hs, by rw [hR.stow b e hs]; rfl⟩]
          exact hs
        cell := fun b e o hs _ => by
          unfold World.cell?
          rw [(up_old h' (hR.stLt hs) (by rw [hR.stow b e hs]; rfl)).1]
        ep := Nat.zero_le _
        rv := fun x => by cases x <;> exact Nat.zero_le _
        al := fun _ => Nat.zero_le _
        era := Nat.zero_le _
        rd := fun he => by simp [m0] at he
        pl := fun p ha hv => by
          obtain ⟨pr, i, j⟩ := p
          cases pr with
          | air k => cases ha
          | gbox k => simp [Mt.rv, m0] at hv
          | slot t => rfl
          | lbox t => rfl
        la := fun _ _ => rfl
        own := fun b p hp ho => by
          obtain ⟨k, hk, hinv, _⟩ := hp
          have hb := hR.ownLt ho
          have hd0 : downOwn ρ sto'.length r' (G0.own b) = none := by
            rw [ho]
            simp only [downOwn, hk, hinv]
          refine ⟨?_, ?_, fun o => heap_cell (up_old h' hb hd0).1 o⟩
          · simp only [Gh.up]
            rw [if_pos ⟨hb, hd0⟩]
            exact ho
          · simp only [Gh.up]
            rw [if_pos ⟨hb, hd0⟩]
        opl := fun p hp => by
          obtain ⟨k, hk, hinv, hkN⟩ := hp
          obtain ⟨pr, i, j⟩ := p
          simp only at hk
          subst hk
          simp only [Gh.up]
          rw [if_pos hkN]
          simp only [hinv]
        mp := fun he => by simp [m0] at he }
    have hup : ∀ (i b : Nat) (o : Ob), s'.sto[i]? = some o → G'.be i = some b → (if i < r' then G'.own b = none else G'.own b = some (.box (.gbox i))) → ObV w' G' s'.m r' i b o → ∀ k, k = extR ρ sto'.length sto.length i → (k < r ↔ i < r') → ObV w' (Gh.up G0 G' ρ sto'.length r' sto.length w.heap.size) { s'.m with ep := s'.m.ep + 1, era := s'.m.era + 1, ro := r } r k b (renO (extR ρ sto'.length sto.length) o) := by
      intro i b o hi hb how hob k hk hkr
      cases o with
      | map es => exact hob
      | box cs =>
        simp only [ObV, renO] at hob ⊢
        by_cases hir : i < r'
        · rw [if_pos hir] at hob
          rw [if_pos (hkr.2 hir)]
          intro j d hd
          rw [renL_get] at hd
          obtain ⟨d0, hd0, rfl⟩ := Option.map_eq_some_iff.1 hd
          obtain ⟨u, hu, hI⟩ := hob j d0 hd0
          rw [renD_fz]
          exact ⟨u, hu, up_imm h' hρ hI⟩
        · rw [if_neg hir] at hob
          rw [if_neg (fun h => hir (hkr.1 h))]
          have hall : boxOK (.box cs) = true := by
            refine List.all_eq_true.1 hbx _ (List.mem_of_getElem? (i := i - r') ?_)
            rw [List.getElem?_drop, show r' + (i - r') = i by omega]
            exact hi
          intro j d hd
          rw [renL_get] at hd
          obtain ⟨d0, hd0, rfl⟩ := Option.map_eq_some_iff.1 hd
          obtain ⟨u, hu, hfz, hc⟩ := hob j d0 hd0
          exact ⟨u, hu, hfz, up_vc h' hinj hρ (.inr ⟨i, by omega, rfl, by rw [hk]⟩) (List.all_eq_true.1 hall d0 (List.mem_of_getElem? hd0)) hc⟩
    have hownUp : ∀ (i b : Nat), G'.own b = some (.box (.gbox i)) → (Gh.up G0 G' ρ sto'.length r' sto.length w.heap.size).own b = some (.box (.gbox (extR ρ sto'.length sto.length i))) := fun i b ho => by
      have hnot : ¬ (b < w.heap.size ∧ downOwn ρ sto'.length r' (G0.own b) = none) := by
        rintro ⟨q1, q2⟩
        have := (up_old h' q1 q2).2.1
        rw [ho] at this
        cases this
      simp only [Gh.up]
      rw [if_neg hnot, ho]
      rfl
    refine ⟨renD (extR ρ sto'.length sto.length) d, ⟨[], [], backSto ρ sto'.length sto s'.sto, { s'.m with ep := s'.m.ep + 1, era := s'.m.era + 1, ro := r }⟩, Gh.up G0 G' ρ sto'.length r' sto.length w.heap.size, a', ⟨d, s'.sto, hRd, rfl, rfl⟩, ?_, up_vt h' hinj hρ hp hv⟩
    refine { size := h'.size, defers := h'.defers, env := fun t d ht => by simp [lk_nil] at ht, loc := fun t cs ht => by simp [lk_nil] at ht, sto := fun k o hk => ?_, be := fun k hk => ?_, new := fun b hb => ?_, stow := fun b e he => ?_, std := fun b e e' he hee => ?_, old := fun b hb h0 => ?_, os := h'.os, tape := h'.tape, output := h'.output, grow := h'.grow, ro := ?_, rom := rfl, be0 := fun k hk => ?_, n0 := ?_, la0 := fun t ht => nomatch ht }
    · have hk' : (backSto ρ sto'.length sto s'.sto)[k]? = some o := hk
      unfold backSto at hk'
      by_cases hkN : k < sto.length
      · rw [List.getElem?_append_left (by rw [hfl]; exact hkN), hget k] at hk'
        cases hinv : invI ρ sto'.length k with
        | some i =>
          rw [hinv] at hk'
          obtain ⟨hin, hρi⟩ := invI_some hinv
          obtain ⟨o1, ho1, rfl⟩ := Option.map_eq_some_iff.1 hk'
          obtain ⟨b, h1, h2, h3, h4⟩ := h'.sto i o1 ho1
          have h2 : if i < r' then G'.own b = none else G'.own b = some (.box (.gbox i)) := h2
          have hext : extR ρ sto'.length sto.length i = k := by simp only [extR, if_pos hin, hρi]
          have hbe : (Gh.up G0 G' ρ sto'.length r' sto.length w.heap.size).be k = some b := by
            rw [← hext]; exact up_be h' hρ h1
          have hkr : k < r ↔ i < r' := by rw [hro i hin, hρi]
          refine ⟨b, hbe, ?_, h3, hup i b o1 ho1 h1 h2 h4 k hext.symm hkr⟩
          by_cases hir : i < r'
          · rw [if_pos hir] at h2
            show if k < r then _ else _
            rw [if_pos (hkr.2 hir)]
            obtain ⟨b0, g1, g2, g3, _⟩ := hR.sto k _ (List.getElem?_eq_getElem hkN)
            have g2 : if k < r then G0.own b0 = none else G0.own b0 = some (.box (.gbox k)) := g2
            rw [if_pos (hkr.2 hir)] at g2
            have hbb : b0 = b := by
              have : (Gh.up G0 G' ρ sto'.length r' sto.length w.heap.size).be k = some b0 := K.be k b0 g1
              rw [hbe] at this
              exact (Option.some.inj this).symm
            subst hbb
            simp only [Gh.up]
            rw [if_pos ⟨g3, by rw [g2]; rfl⟩]
            exact g2
          · rw [if_neg hir] at h2
            show if k < r then _ else _
            rw [if_neg (fun h => hir (hkr.1 h)), ← hext]
            exact hownUp i b h2
        | none =>
          rw [hinv] at hk'
          simp only at hk'
          obtain ⟨b, h1, h2, h3, h4⟩ := hR.sto k o hk'
          have h2 : if k < r then G0.own b = none else G0.own b = some (.box (.gbox k)) := h2
          have hd0 : downOwn ρ sto'.length r' (G0.own b) = none := by
            split at h2
            · rw [h2]; rfl
            · rw [h2]; simp only [downOwn, hinv]
          have hheap := (up_old h' h3 hd0).1
          refine ⟨b, K.be k b h1, ?_, Nat.lt_of_lt_of_le h3 h'.grow, ?_⟩
          · have e1 : (Gh.up G0 G' ρ sto'.length r' sto.length w.heap.size).own b = G0.own b := by
              simp only [Gh.up]
              rw [if_pos ⟨h3, hd0⟩]
            rw [e1]
            exact h2
          · cases o with
            | map es =>
              obtain ⟨arr, clock, q1, q2⟩ := h4
              exact ⟨arr, clock, by rw [hheap]; exact q1, q2⟩
            | box cs =>
              simp only [ObV] at h4 ⊢
              split <;> rename_i hk0
              · rw [if_pos hk0] at h4
                intro j d hd
                obtain ⟨u, h5, h6⟩ := h4 j d hd
                exact ⟨u, by rw [(heap_cell hheap j).1]; exact h5, K.imm h6⟩
              · rw [if_neg hk0] at h4
                exact K.box (fun j c _ _ => ⟨k, rfl, hinv, hkN⟩) (fun o => heap_cell hheap o) h4
      · rw [List.getElem?_append_right (by rw [hfl]; omega), hfl, List.getElem?_map, List.getElem?_drop] at hk'
        obtain ⟨o1, ho1, rfl⟩ := Option.map_eq_some_iff.1 hk'
        obtain ⟨b, h1, h2, h3, h4⟩ := h'.sto _ o1 ho1
        have hir : ¬ (sto'.length + (k - sto.length) < r') := by omega
        have h2 : if sto'.length + (k - sto.length) < r' then G'.own b = none else G'.own b = some (.box (.gbox (sto'.length + (k - sto.length)))) := h2
        rw [if_neg hir] at h2
        have hext : extR ρ sto'.length sto.length (sto'.length + (k - sto.length)) = k := by
          simp only [extR]
          rw [if_neg (by omega)]
          omega
        refine ⟨b, by rw [← hext]; exact up_be h' hρ h1, ?_, h3, hup _ b o1 ho1 h1 (by rw [if_neg hir]; exact h2) h4 k hext.symm ⟨fun h => by omega, fun h => absurd h hir⟩⟩
        show if k < r then _ else _
        rw [if_neg (by omega), ← hext]
        exact hownUp _ b h2
    · have hk' : (backSto ρ sto'.length sto s'.sto).length ≤ k := hk
      rw [hbl] at hk'
      simp only [Gh.up]
      rw [if_neg (by omega)]
      exact h'.be _ (by omega)
    · obtain ⟨q1, q2⟩ := h'.new b hb
      have hge : ¬ (b < w.heap.size ∧ downOwn ρ sto'.length r' (G0.own b) = none) := by
        rintro ⟨q3, _⟩
        have : w.heap.size ≤ w'.heap.size := h'.grow
        omega
      refine ⟨?_, fun e he => ?_⟩
      · simp only [Gh.up]
        rw [if_neg hge, q1]
        rfl
      · simp only [Gh.up] at he
        rw [if_neg hge] at he
        exact q2 e he
    · simp only [Gh.up] at he ⊢
      by_cases hc : b < w.heap.size ∧ downOwn ρ sto'.length r' (G0.own b) = none
      · rw [if_pos hc] at he ⊢
        exact hR.stow b e he
      · rw [if_neg hc] at he ⊢
        rw [h'.stow b e he]
        rfl
    · simp only [Gh.up] at he ⊢
      split <;> rename_i hc
      · rw [if_pos hc] at he
        exact hR.std b e e' he hee
      · rw [if_neg hc] at he
        exact h'.std b e e' he hee
    · have hd0 : downOwn ρ sto'.length r' (G0.own b) = none := by rw [h0]; rfl
      refine ⟨(up_old h' hb hd0).1, ?_, fun e he => ?_⟩
      · simp only [Gh.up]
        rw [if_pos ⟨hb, hd0⟩]
        exact h0
      · simp only [Gh.up] at he
        rw [if_pos ⟨hb, hd0⟩] at he
        exact he
    · show r ≤ (backSto ρ sto'.length sto s'.sto).length
      rw [hbl]
      omega
    · simp only [Gh.up]
      rw [if_pos hk]
    · show sto.length ≤ (backSto ρ sto'.length sto s'.sto).length
      rw [hbl]
      omega
end

end Go.Lv

namespace Go.Lv
open Go Go.Sort

noncomputable def insB {α : Type} (key : α → Int) (z : α) : List α → List α
  | [] => [z]
  | x :: r => if key z ≤ key x then z :: x :: r else x :: insB key z r
noncomputable def sortB {α : Type} (key : α → Int) : List α → List α
  | [] => []
  | z :: r => insB key z (sortB key r)
section
variable {α β : Type} {key : α → Int}
theorem insB_perm (z : α) : ∀ l : List α, (insB key z l).Perm (z :: l)
  | [] => .refl _
  | x :: r => by
    unfold insB
    split
    · exact .refl _
    · exact ((insB_perm z r).cons x).trans (List.Perm.swap z x r)
theorem sortB_perm : ∀ l : List α, (sortB key l).Perm l
  | [] => .refl _
  | z :: r => (insB_perm z _).trans ((sortB_perm r).cons z)
theorem insB_sorted (z : α) : ∀ {l : List α}, l.Pairwise (fun x y => key x ≤ key y) → (insB key z l).Pairwise (fun x y => key x ≤ key y)
  | [], _ => by simp [insB]
  | x :: r, h => by
    rw [List.pairwise_cons] at h
    unfold insB
    split
    · rename_i hz
      rw [List.pairwise_cons, List.pairwise_cons]
      refine ⟨fun y hy => ?_, h⟩
      rcases List.mem_cons.1 hy with rfl | hy
      · exact hz
      · exact Int.le_trans hz (h.1 y hy)
    · rename_i hz
      rw [List.pairwise_cons]
      refine ⟨fun y hy => ?_, insB_sorted z h.2⟩
      rcases List.mem_cons.1 ((insB_perm z r).mem_iff.1 hy) with rfl | hy
      · omega
      · exact h.1 y hy
theorem sortB_sorted : ∀ l : List α, (sortB key l).Pairwise (fun x y => key x ≤ key y)
  | [] => .nil
  | z :: r => insB_sorted z (sortB_sorted r)
theorem insB_map {key' : β → Int} (f : α → β) (z : α) (hz : key' (f z) = key z) : ∀ l : List α, (∀ x, x ∈ l → key' (f x) = key x) → (insB key z l).map f = insB key' (f z) (l.map f)
  | [], _ => rfl
  | x :: r, hl => by
    simp only [insB, List.map_cons, hz, hl x (by simp)]
    split
    · rfl
    · rw [List.map_cons, insB_map f z hz r (fun y hy => hl y (by simp [hy]))]
theorem sortB_map {key' : β → Int} (f : α → β) : ∀ l : List α, (∀ x, x ∈ l → key' (f x) = key x) → (sortB key l).map f = sortB key' (l.map f)
  | [], _ => rfl
  | z :: r, hl => by
    rw [sortB, insB_map f z (hl z (by simp)) _ (fun x hx => hl x (by simp [(sortB_perm r).mem_iff.1 hx])), sortB_map f r (fun x hx => hl x (by simp [hx]))]
    rfl
end

noncomputable def keyD (κ : Nat) (r : List D) : Int := match r[κ]? with
  | some (.int _ z) => z
  | _ => 0
noncomputable def keyV (κ : Nat) (r : List Value) : Int := match r[κ]? with
  | some (.int _ z) => z
  | _ => 0
noncomputable def keyedD (κ k : Nat) (r : List D) : Bool := r.length == k && (match r[κ]? with
  | some (.int .i64 z) => decide (-4611686018427387904 ≤ z) && decide (z ≤ 4611686018427387903)
  | _ => false)
noncomputable def distinct : List Int → Bool
  | [] => true
  | x :: r => !r.contains x && distinct r
structure KeyedV (κ k : Nat) (ps : List (List Value)) : Prop where
  row : ∀ r, r ∈ ps → r.length = k ∧ (∀ v, v ∈ r → v.oneCell' = true) ∧ ∃ z, r[κ]? = some (.int .i64 z) ∧ -4611686018427387904 ≤ z ∧ z ≤ 4611686018427387903
  keys : (ps.map (keyV κ)).Nodup

structure SortC (P : Program) (f g k κ : Nat) : Prop where
  fn : ∃ fn, P.funcs[f]? = some fn ∧ fn.body.isNone = false ∧ (fn.name == "runtime.NumGoroutine") = false
  pos : 0 < k
  nil : ∀ (p : Option Addr) (cap : Nat) (fv : Value) (w : World), Calls P f #[.slice p 0 cap, fv] w fun e w' => e = .returned (.tuple #[]) ∧ w' = w
  some : ∀ (blk off cap : Nat) (ps : List (List Value)) (w : World), KeyedV κ k ps → ps ≠ [] → Holds id w blk off ps.flatten.toArray → blk < w.heap.size → ps.length < 4611686018427387904 →
    Calls P f #[.slice (some ⟨blk, off, none⟩) ps.length cap, .func (.func g) #[] #[]] w fun e w' => e = .returned (.tuple #[]) ∧ ∃ n os, w' = grow (putRow id (Sort.ahead w n) blk off (sortB (keyV κ) ps).flatten.toArray) os

theorem distinct_nodup : ∀ {l : List Int}, distinct l = true → l.Nodup
  | [], _ => .nil
  | x :: r, h => by
    simp only [distinct, Bool.and_eq_true, Bool.not_eq_true'] at h
    refine List.nodup_cons.2 ⟨fun hm => ?_, distinct_nodup h.2⟩
    rw [List.contains_iff_mem.2 hm] at h
    cases h.1

theorem flatten_get {α : Type} {k : Nat} : ∀ (l : List (List α)), (∀ r, r ∈ l → r.length = k) → ∀ (j c : Nat) (r : List α), l[j]? = some r → c < k → l.flatten[j * k + c]? = r[c]?
  | [], _, j, c, r, h, _ => by simp at h
  | x :: l, hl, j, c, r, h, hc => by
    have hx := hl x (by simp)
    rw [List.flatten_cons]
    cases j with
    | zero =>
      simp at h
      subst h
      rw [Nat.zero_mul, Nat.zero_add, List.getElem?_append_left (by omega)]
    | succ j =>
      rw [List.getElem?_append_right (by rw [hx, Nat.succ_mul]; omega), hx, Nat.succ_mul, show j * k + k + c - k = j * k + c by omega]
      exact flatten_get l (fun r hr => hl r (by simp [hr])) j c r (by simpa using h) hc
theorem flatten_len {α : Type} {k : Nat} : ∀ (l : List (List α)), (∀ r, r ∈ l → r.length = k) → l.flatten.length = l.length * k
  | [], _ => by simp
  | x :: l, hl => by
    rw [List.flatten_cons, List.length_append, flatten_len l (fun r hr => hl r (by simp [hr])), hl x (by simp), List.length_cons, Nat.succ_mul]
    omega

section
variable {P : Program} {T : St} {X : Ctx} {G : Gh} {s s' s1 : DS} {a : Act} {w w' : World} {o : Oper} {b : Nat}

noncomputable def sortGo (T : St) (g k κ : Nat) (s : DS) (dst : Option Nat) (p : Place) (v : Nat) (xs : List (List D)) : Rz DS :=
  if s.m.rv p.r = v ∧ okR T.ro p.r = true then
    match getPl s p with
    | some (.list (.own sz) ys) =>
      if (ys.length = xs.length ∧ ys.length < 4611686018427387904 ∧ sz = k) ∧ (ys.all (keyedD κ k) && distinct (ys.map (keyD κ))) = true then
          let s1 := setPl s p (.list (.own sz) (sortB (keyD κ) ys))
          match put T.c dst (.tup []) { s1 with m := s1.m.bE } with
          | some s2 => .ok s2
          | none => .no [30]
        else .no [31]
    | _ => .no [33]
  else .no [34]
noncomputable def sortHk (gs : List (Nat × Nat × Nat)) (T : St) (s : DS) (o : Oper) : Rz DS :=
  match o.op with
  | .call { callee := .value x, args, argTypes } => match lookO s x with
    | some (.fn _ []) => match args.toList with
      | [y, z] => match lookO s z with
        | some (.fn g []) => match lk g gs with
          | some (k, κ) => match lookO s y with
            | some (.list (.cp _ (some (p, v))) xs) => match xs with
              | [] => match put T.c o.dst (.tup []) s with
                | some s2 => .ok s2
                | none => .no [35]
              | _ => sortGo T g k κ s o.dst p v xs
            | _ => .no [36]
          | none => .no [g, 40]
        | _ => .no [41]
      | _ => .no [37]
    | _ => .no [39]
  | _ => .no [38]

theorem sortHk_ok {f : Nat} {gs : List (Nat × Nat × Nat)} (hC : ∀ g k κ, lk g gs = some (k, κ) → SortC P f g k κ) {x : Operand} {args : Array Operand} {tys : Array TypeId} (ho : o.op = .call { callee := .value x, args, argTypes := tys }) {caps : List D} (hx : lookO s x = some (.fn f caps))
    (h : sortHk gs T s o = .ok s') : OpOk P T o s (fun s1 => s1 = s') ∧ Pre T.ro s.sto s'.sto := by
  unfold sortHk at h
  rw [ho] at h
  simp only at h
  have hcaps : caps = [] := by
    rw [hx] at h
    cases caps with
    | nil => rfl
    | cons c cs => simp at h
  subst hcaps
  rw [hx] at h
  simp only at h
  split at h
  · rename_i y z hargs
    have hargs' : args = #[y, z] := by rw [← Array.toArray_toList (xs := args), hargs]
    split at h
    · rename_i g hz
      split at h
      · rename_i k κ hg
        have hC := hC g k κ hg
        split at h
        · rename_i e p v xs hy
          obtain ⟨fn, hf, hb, hnm⟩ := hC.fn
          have start : ∀ (X : Ctx) (G : Gh) (a : Act) (w : World), Fits T X → Rel X G s a w → ∀ (next : Act → World → Prop) (Q : Exit → Act → World → Prop), (Calls P f #[a.eval y, .func (.func g) #[] #[]] w fun e w' => match e with | .returned v => next (a.put o.dst v) w' | _ => False) → o.wp P a w next Q := by
            intro X G a w hX hR next Q hcall
            obtain ⟨cvs, hxv, hcl, _⟩ := inv_fn (lookO_vt hR hx (.air 0) rfl)
            have hcv : cvs = [] := List.eq_nil_of_length_eq_zero hcl.symm
            subst hcv
            obtain ⟨gvs, hzv, hgl, _⟩ := inv_fn (lookO_vt hR hz (.air 0) rfl)
            have hgv : gvs = [] := List.eq_nil_of_length_eq_zero hgl.symm
            subst hgv
            unfold Oper.wp
            rw [run_call ho hxv hf hb hnm, Oper.upon_enter]
            have : args.map a.eval ++ [].toArray = #[a.eval y, .func (.func g) #[] #[]] := by
              subst hargs'
              simp [hzv]
            rw [this]
            refine hcall.mono fun e w' he => ?_
            cases e with
            | returned v => exact he
            | panicked c => exact he.elim
            | outgrown => exact he.elim
          split at h
          · split at h
            · rename_i s2 hp
              cases h
              refine ⟨fun X G a w hX hR next Q hn => start X G a w hX hR next Q ?_, Pre.of_eq (put_sto hp)⟩
              obtain ⟨A, cap, hyv, _⟩ := (lookO_vt hR hy (.air 0) rfl : CpL w G s.m e (some (p, v)) [] (a.eval y))
              rw [hyv]
              refine (hC.nil A cap _ w).mono fun e w' he => ?_
              obtain ⟨rfl, rfl⟩ := he
              obtain ⟨G3, r3⟩ := hR.putO hX.n hp 0 vt_tup0
              exact hn _ _ _ _ rfl r3
            · cases h
          · rename_i hne
            unfold sortGo at h
            split at h
            · rename_i hv
              obtain ⟨hv, hok⟩ := hv
              split at h
              · rename_i sz ys hpl
                split at h
                · rename_i hlen
                  obtain ⟨⟨hlen, hbig, rfl⟩, hkd⟩ := hlen
                  simp only [Bool.and_eq_true] at hkd
                  obtain ⟨hall, hdis⟩ := hkd
                  simp only at h
                  split at h
                  · rename_i s2 hput
                    cases h
                    refine ⟨fun X G a w hX hR next Q hn => start X G a w hX hR next Q ?_, ?_⟩
                    · have hok' : okR X.ro p.r = true := by rw [hX.ro]; exact hok
                      obtain ⟨A, cap, hyv, _, _, hq⟩ := (lookO_vt hR hy (.air 0) rfl : CpL w G s.m e (some (p, v)) xs (a.eval y))
                      obtain ⟨hair, _, hq⟩ := hq p v rfl
                      have hq := hq hv
                      have hxne : xs ≠ [] := by
                        rintro rfl
                        exact hne rfl
                      have hyne : ys ≠ [] := by
                        rintro rfl
                        simp at hlen
                        exact hxne (List.eq_nil_of_length_eq_zero hlen.symm)
                      rcases hq with rfl | ⟨rfl, hcap⟩
                      · exact absurd rfl hxne
                      · obtain ⟨v0, hown⟩ := getPl_own hR hpl hok'
                        rcases hown with ⟨q, _⟩ | ⟨hsz, b, off, cap', rfl, hcap', ho1, hfin, hGpl, hcell, hrows⟩
                        · exact absurd q hyne
                        · rw [hGpl] at hyv
                          simp only at hyv
                          -- the cells' values, as rows
                          have hval : ∀ i, i < ys.length → ∀ c, c < sz → ∃ u, w.cell? ⟨b, off + (i * sz + c), none⟩ = some u := fun i hi c hc => by
                            have hm : (i + 1) * sz ≤ ys.length * sz := Nat.mul_le_mul_right _ hi
                            have hm2 := Nat.mul_le_mul_right sz hcap'
                            rw [Nat.succ_mul] at hm
                            obtain ⟨⟨u, hu⟩, _⟩ := hcell (i * sz + c) (by omega)
                            exact ⟨u, hu⟩
                          let cv : Nat → Nat → Value := fun i c => (w.cell? ⟨b, off + (i * sz + c), none⟩).getD .nilFunc
                          obtain ⟨qs, hql, hqg⟩ : ∃ qs : List (List D × List Value), qs.length = ys.length ∧ ∀ i (hi : i < ys.length), qs[i]? = some (ys[i], (List.range sz).map (cv i)) :=
                            ⟨ys.zipIdx.map fun x => (x.1, (List.range sz).map (cv x.2)), by simp, fun i hi => by simp [List.getElem?_map, List.getElem?_zipIdx, hi]⟩
                          have hq1 : qs.map Prod.fst = ys := by
                            apply List.ext_getElem?
                            intro i
                            rw [List.getElem?_map]
                            by_cases hi : i < ys.length
                            · rw [hqg i hi, List.getElem?_eq_getElem hi]; rfl
                            · rw [List.getElem?_eq_none (by omega), List.getElem?_eq_none (by omega)]; rfl
                          have hqrow : ∀ q, q ∈ qs → q.1.length = sz ∧ q.2.length = sz ∧ ∀ c d u, q.1[c]? = some d → q.2[c]? = some u → Imm w G.be G.st d u := fun q hq => by
                            obtain ⟨i, hi, hqi⟩ := List.mem_iff_getElem.1 hq
                            have hi' : i < ys.length := by omega
                            have h9 := hqg i hi'
                            rw [List.getElem?_eq_getElem hi, hqi] at h9
                            cases h9
                            have hrl := hrows.1 ys[i] (List.getElem_mem hi')
                            refine ⟨hrl, by simp, fun c d u hd hu => ?_⟩
                            have hc : c < sz := by rw [← hrl]; exact (List.getElem?_eq_some_iff.1 hd).1
                            obtain ⟨u', hu', hi2⟩ := hrows.2 i c ys[i] d (List.getElem?_eq_getElem hi') hd
                            rw [List.getElem?_map, List.getElem?_range hc] at hu
                            simp only [Option.map_some, Option.some.injEq] at hu
                            rw [← hu]
                            show Imm w G.be G.st d ((w.cell? ⟨b, off + (i * sz + c), none⟩).getD .nilFunc)
                            rw [hu']
                            exact hi2
                          have hqkey : ∀ q, q ∈ qs → keyV κ q.2 = keyD κ q.1 ∧ ∃ z, q.2[κ]? = some (.int .i64 z) ∧ -4611686018427387904 ≤ z ∧ z ≤ 4611686018427387903 := fun q hq => by
                            obtain ⟨l1, l2, him⟩ := hqrow q hq
                            have hy1 : q.1 ∈ ys := by rw [← hq1]; exact List.mem_map.2 ⟨q, hq, rfl⟩
                            have hk1 := List.all_eq_true.1 hall q.1 hy1
                            simp only [keyedD, Bool.and_eq_true, beq_iff_eq] at hk1
                            obtain ⟨_, hk2⟩ := hk1
                            split at hk2
                            · rename_i z hz1
                              simp only [Bool.and_eq_true, decide_eq_true_eq] at hk2
                              have hκ : κ < q.2.length := by have := (List.getElem?_eq_some_iff.1 hz1).1; omega
                              have hu : q.2[κ]? = some (q.2[κ]'hκ) := List.getElem?_eq_getElem hκ
                              have hi3 := him κ _ _ hz1 hu
                              have : q.2[κ]'hκ = .int .i64 z := by
                                generalize q.2[κ]'hκ = uu at hi3
                                cases hi3
                                rfl
                              rw [this] at hu
                              exact ⟨by simp [keyV, keyD, hz1, hu], z, hu, hk2.1, hk2.2⟩
                            · cases hk2
                          have hps : (qs.map Prod.snd).length = ys.length := by simp [hql]
                          have hkeys : (qs.map Prod.snd).map (keyV κ) = ys.map (keyD κ) := by
                            rw [← hq1, List.map_map, List.map_map]
                            exact List.map_congr_left fun q hq => (hqkey q hq).1
                          have hKV : KeyedV κ sz (qs.map Prod.snd) := ⟨fun r hr => by
                            obtain ⟨q, hq, rfl⟩ := List.mem_map.1 hr
                            refine ⟨(hqrow q hq).2.1, fun v hv => ?_, (hqkey q hq).2⟩
                            obtain ⟨c, hc, hvc⟩ := List.mem_iff_getElem.1 hv
                            obtain ⟨l1, l2, him⟩ := hqrow q hq
                            have := him c (q.1[c]'(by omega)) v (List.getElem?_eq_getElem (by omega)) (by rw [List.getElem?_eq_getElem hc, hvc])
                            exact imm_one this, by rw [hkeys]; exact distinct_nodup hdis⟩
                          have hrowl : ∀ r, r ∈ qs.map Prod.snd → r.length = sz := fun r hr => (hKV.row r hr).1
                          have hH : Holds id w b off (qs.map Prod.snd).flatten.toArray := fun j hj => by
                            have hj' : j < ys.length * sz := by
                              have := flatten_len _ hrowl
                              simp only [List.size_toArray] at hj
                              rw [this, hps] at hj
                              exact hj
                            have hdiv : j = (j / sz) * sz + j % sz := by rw [Nat.mul_comm]; exact (Nat.div_add_mod j sz).symm
                            have hi : j / sz < ys.length := Nat.div_lt_of_lt_mul (by rw [Nat.mul_comm]; exact hj')
                            have hc : j % sz < sz := Nat.mod_lt _ hsz
                            have hr : (qs.map Prod.snd)[j / sz]? = some ((List.range sz).map (cv (j / sz))) := by
                              rw [List.getElem?_map, hqg _ hi]; rfl
                            have hfg := flatten_get _ hrowl (j / sz) (j % sz) _ hr hc
                            rw [← hdiv, List.getElem?_map, List.getElem?_range hc] at hfg
                            obtain ⟨u, hu⟩ := hval _ hi _ hc
                            rw [← hdiv] at hu
                            have hm2 := Nat.mul_le_mul_right sz hcap'
                            refine ⟨?_, (hcell j (by omega)).2⟩
                            rw [hu]
                            have hcv : cv (j / sz) (j % sz) = u := by
                              show (w.cell? ⟨b, off + ((j / sz) * sz + j % sz), none⟩).getD .nilFunc = u
                              rw [← hdiv, hu]; rfl
                            simp only [Option.map_some, hcv] at hfg
                            simp [hfg]
                          rw [hyv, show xs.length = (qs.map Prod.snd).length by rw [hps]; exact hlen.symm]
                          refine (hC.some b off cap (qs.map Prod.snd) w hKV (by intro e0; rw [e0] at hps; simp at hps; exact hyne (List.eq_nil_of_length_eq_zero hps.symm)) hH (hR.ownLt ho1) (by rw [hps]; exact hbig)).mono fun e w' he => ?_
                          obtain ⟨rfl, n, os, rfl⟩ := he
                          rw [putRow_ahead]
                          -- the sorted rows, with their values
                          have hs2 : (sortB (fun q : List D × List Value => keyD κ q.1) qs).map Prod.snd = sortB (keyV κ) (qs.map Prod.snd) := sortB_map Prod.snd qs fun q hq => (hqkey q hq).1
                          have hs1 : (sortB (fun q : List D × List Value => keyD κ q.1) qs).map Prod.fst = sortB (keyD κ) ys := by
                            rw [sortB_map Prod.fst qs (key' := keyD κ) (fun q _ => rfl), hq1]
                          rw [← hs2]
                          have hsp := sortB_perm (key := fun q : List D × List Value => keyD κ q.1) qs
                          generalize sortB (fun q : List D × List Value => keyD κ q.1) qs = sq at *
                          rw [← hs1] at hput
                          have hsl : sq.length = ys.length := by rw [hsp.length_eq, hql]
                          have hsrow : ∀ r, r ∈ sq.map Prod.snd → r.length = sz := fun r hr => by
                            obtain ⟨q, hq, rfl⟩ := List.mem_map.1 hr
                            exact (hqrow q (hsp.mem_iff.1 hq)).2.1
                          have hfl2 : (sq.map Prod.snd).flatten.toArray.size = (qs.map Prod.snd).flatten.toArray.size := by
                            simp only [List.size_toArray]
                            rw [flatten_len _ hsrow, flatten_len _ hrowl, List.length_map, List.length_map, hsl, hql]
                          have hfls : (sq.map Prod.snd).flatten.toArray.size = ys.length * sz := by
                            simp only [List.size_toArray]
                            rw [flatten_len _ hsrow, List.length_map, hsl]
                          have W := wr_putRow id w b off (sq.map Prod.snd).flatten.toArray
                          have K := W.ownKeeps ho1 hR.stow s.m
                          have hR2 := hR.writeOwn (ys' := sq.map Prod.fst) hpl hok' W ho1 (fun v' hv' => by
                            have hll : (sq.map Prod.fst).length = ys.length := by rw [List.length_map, hsl]
                            rcases hv' with ⟨q, _⟩ | ⟨hz0, b', o1', cap2, rfl, hcap2, hown', hfin', hGpl', hcell', hrows'⟩
                            · exact absurd q hyne
                            · rw [hGpl] at hGpl'
                              cases hGpl'
                              refine .inr ⟨hz0, b, off, cap2, by rw [hll], by rw [hll]; exact hcap2, ho1, by rw [hll]; exact hfin, hGpl, fun q hq => ?_, fun r hr => ?_, fun j c' r d hr hd => ?_⟩
                              · obtain ⟨⟨u, hu⟩, hf⟩ := hcell' q hq
                                refine ⟨?_, by rw [W.frozen]; exact hf⟩
                                by_cases hin : q < (sq.map Prod.snd).flatten.toArray.size
                                · exact ⟨_, cell?_putRow id w b off _ _ hH hfl2 q hin⟩
                                · exact ⟨u, by rw [cell?_putRow_other _ _ _ _ _ _ (.inr (.inr (by show off + _ ≤ off + q; omega)))]; exact hu⟩
                              · obtain ⟨q, hq, rfl⟩ := List.mem_map.1 hr
                                exact (hqrow q (hsp.mem_iff.1 hq)).1
                              · rw [List.getElem?_map] at hr
                                obtain ⟨q, hq, rfl⟩ := Option.map_eq_some_iff.1 hr
                                have hqm := hsp.mem_iff.1 (List.mem_of_getElem? hq)
                                obtain ⟨l1, l2, him⟩ := hqrow q hqm
                                have hc : c' < sz := by rw [← l1]; exact (List.getElem?_eq_some_iff.1 hd).1
                                have hj : j < ys.length := by rw [← hsl]; exact (List.getElem?_eq_some_iff.1 hq).1
                                have hu : q.2[c']? = some (q.2[c']'(by omega)) := List.getElem?_eq_getElem (by omega)
                                have hfg := flatten_get _ hsrow j c' q.2 (by rw [List.getElem?_map, hq]; rfl) hc
                                have hm : (j + 1) * sz ≤ ys.length * sz := Nat.mul_le_mul_right _ hj
                                rw [Nat.succ_mul] at hm
                                refine ⟨_, ?_, K.imm (him c' d _ hd hu)⟩
                                rw [cell?_putRow id w b off _ _ hH hfl2 (j * sz + c') (by omega)]
                                rw [hu] at hfg
                                simp [hfg])
                          obtain ⟨G4, r4⟩ := (hR2.grown n os).putO hX.n hput 0 vt_tup0
                          exact hn _ _ _ _ rfl r4
                    · rw [put_sto hput]
                      exact setPl_pre hok
                  · cases h
                · cases h
              · cases h
            · cases h
        · cases h
      · cases h
    · cases h
  · cases h
end

end Go.Lv
