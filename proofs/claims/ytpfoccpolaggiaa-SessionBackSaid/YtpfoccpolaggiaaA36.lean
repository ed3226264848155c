/-
  A36: lists of numbers that the library sorts in place, or makes compact.
-/
import Derived.Test.YtpfoccpolaggiaaA32
import Derived.Sort.Grow
import Derived.Lib.SlicesCompact
set_option linter.all false
namespace Go.Lv
open Go Go.Sort

noncomputable def rowI (z : Int) : List D := [.int .i64 z]
noncomputable def intsOf : List (List D) → Option (List Int)
  | [] => some []
  | [.int .i64 z] :: r => (intsOf r).map (z :: ·)
  | _ :: _ => none
theorem intsOf_eq : ∀ {ys : List (List D)} {zs : List Int}, intsOf ys = some zs → ys = zs.map rowI
  | [], zs, h => by simp [intsOf] at h; subst h; rfl
  | y :: r, zs, h => by
    unfold intsOf at h
    split at h
    · rename_i e; cases e
    · rename_i e
      cases e
      obtain ⟨zs', h1, rfl⟩ := Option.map_eq_some_iff.1 h
      rw [intsOf_eq h1]
      rfl
    · cases h

section
variable {P : Program} {T : St} {X : Ctx} {G : Gh} {s s' s1 : DS} {a : Act} {w w' : World} {o : Oper} {b : Nat}

theorem wr_putRow {α : Type} [Inhabited α] (enc : α → Value) (w : World) (b off : Nat) (d : Array α) : Wr w (putRow enc w b off d) b where
  heap := fun b' hb => by simp only [putRow, mapBlock, Array.getElem?_modify]; rw [if_neg (fun e => hb e.symm)]
  size := size_putRow _ _ _ _ _
  os := rfl
  tape := rfl
  output := rfl
  map := fun b' es clock h => by
    simp only [putRow, mapBlock, Array.getElem?_modify]
    split
    · rename_i e
      subst e
      rw [h]
      rfl
    · exact h
  frozen := fun x => frozen?_putRow _ _ _ _ _ _

/-- New blocks that nobody knows, and draws. -/
theorem Rel.grown (h : Rel X G s a w) (n : Nat) (os : Array Obj) : Rel X G s a (Sort.grow (Sort.ahead w n) os) := by
  have hc : ∀ (b o : Nat), b < w.heap.size → (Sort.grow (Sort.ahead w n) os).cell? ⟨b, o, none⟩ = w.cell? ⟨b, o, none⟩ ∧ (Sort.grow (Sort.ahead w n) os).frozen? ⟨b, o, none⟩ = w.frozen? ⟨b, o, none⟩ := fun b o hb =>
    ⟨cell?_grow (Sort.ahead w n) os ⟨b, o, none⟩ hb, frozen?_grow (Sort.ahead w n) os ⟨b, o, none⟩ hb⟩
  have hh : ∀ b, b < w.heap.size → (Sort.grow (Sort.ahead w n) os).heap[b]? = w.heap[b]? := fun b hb => heap_grow_old (Sort.ahead w n) os hb
  have K : Keeps w G s.m (Sort.grow (Sort.ahead w n) os) G s.m (fun _ => True) :=
    { be := fun _ _ h => h
      st := fun _ _ h => h
      cell := fun b n o hs _ => (hc b o (h.stLt hs)).1
      ep := Nat.le_refl _
      rv := fun _ => Nat.le_refl _
      al := fun _ => Nat.le_refl _
      era := Nat.le_refl _
      rd := fun _ b n hr => ⟨hr, fun o _ => (hc b o (by
        rcases hr with hr | ⟨⟨p, hp⟩, _⟩
        · exact h.stLt hr
        · exact h.ownLt hp)).1⟩
      pl := fun _ _ _ => rfl
      la := fun _ _ => rfl
      own := fun b p _ hp => ⟨hp, rfl, fun o => hc b o (h.ownLt hp)⟩
      opl := fun _ _ => rfl
      mp := fun _ k b es clock _ hh' => ⟨es, clock, by
        rw [hh b (by
          refine Classical.byContradiction fun hn => ?_
          have : w.heap[b]? = none := by simp; omega
          rw [this] at hh'
          cases hh')]
        exact hh', fun i x hx => ⟨x, hx, rfl⟩⟩ }
  exact
  { size := h.size
    defers := h.defers
    env := fun t d ht => K.vt (fun _ _ _ _ _ _ _ => trivial) (h.env t d ht)
    loc := fun t cs ht => by
      obtain ⟨h1, h2⟩ := h.loc t cs ht
      exact ⟨h1, K.box (fun _ _ _ _ => trivial) (fun o => hc _ o (h.ownLt h1)) h2⟩
    sto := fun k o hk => by
      obtain ⟨b, h1, h2, h3, h4⟩ := h.sto k o hk
      refine ⟨b, h1, h2, by rw [size_grow]; exact Nat.lt_of_lt_of_le h3 (Nat.le_add_right _ _), ?_⟩
      cases o with
      | map es =>
        obtain ⟨arr, clock, q1, q2⟩ := h4
        exact ⟨arr, clock, by rw [hh b h3]; exact q1, q2⟩
      | box cs =>
        simp only [ObV] at h4 ⊢
        split <;> rename_i hk0
        · rw [if_pos hk0] at h4
          intro j d hd
          obtain ⟨u, h5, h6⟩ := h4 j d hd
          exact ⟨u, by rw [(hc b j h3).1]; exact h5, K.imm h6⟩
        · rw [if_neg hk0] at h4
          exact K.box (fun _ _ _ _ => trivial) (fun o => hc b o h3) h4
    be := h.be
    new := fun b hb => h.new b (by rw [size_grow] at hb; exact Nat.le_trans (Nat.le_add_right _ _) hb)
    stow := h.stow
    std := h.std
    old := fun b hb h0 => by
      obtain ⟨q1, q2, q3⟩ := h.old b hb h0
      exact ⟨by rw [hh b (Nat.lt_of_lt_of_le hb h.grow)]; exact q1, q2, q3⟩
    os := h.os
    tape := h.tape
    output := h.output
    grow := by rw [size_grow]; exact Nat.le_trans h.grow (Nat.le_add_right _ _)
    ro := h.ro
    rom := h.rom
    be0 := h.be0
    n0 := h.n0, la0 := h.la0 }

/-- What a function does that turns a list of numbers in place. -/
structure TurnC (P : Program) (f : Nat) (φ : List Int → List Int) : Prop where
  fn : ∃ fn, P.funcs[f]? = some fn ∧ fn.body.isNone = false ∧ (fn.name == "runtime.NumGoroutine") = false
  len : ∀ zs, (φ zs).length = zs.length
  nil : ∀ (p : Option Addr) (cap : Nat) (w : World), Calls P f #[.slice p 0 cap] w fun e w' => e = .returned (.tuple #[]) ∧ w' = w
  some : ∀ (blk off cap : Nat) (zs : List Int) (w : World), Holds (Value.int .i64) w blk off zs.toArray → blk < w.heap.size → zs.length < 4611686018427387904 →
    Calls P f #[.slice (some ⟨blk, off, none⟩) zs.length cap] w fun e w' => e = .returned (.tuple #[]) ∧ ∃ n os, w' = grow (putRow (Value.int .i64) (Sort.ahead w n) blk off (φ zs).toArray) os

noncomputable def turnGo (T : St) (φ : List Int → List Int) (s : DS) (dst : Option Nat) (p : Place) (v : Nat) (xs : List (List D)) : Rz DS :=
  if s.m.rv p.r = v ∧ okR T.ro p.r = true then
    match getPl s p with
    | some (.list (.own sz) ys) => match intsOf ys with
      | some zs => if ys.length = xs.length ∧ zs.length < 4611686018427387904 ∧ sz = 1 then
          let s1 := setPl s p (.list (.own sz) ((φ zs).map rowI))
          match put T.c dst (.tup []) { s1 with m := s1.m.bE } with
          | some s2 => .ok s2
          | none => .no [30]
        else .no [31]
      | none => .no [32]
    | _ => .no [33]
  else .no [34]
noncomputable def turnHk (φ : List Int → List Int) (T : St) (s : DS) (o : Oper) : Rz DS :=
  match o.op with
  | .call { callee := .value x, args, argTypes } => match lookO s x with
    | some (.fn _ []) => match args.toList with
      | [y] => match lookO s y with
        | some (.list (.cp _ (some (p, v))) xs) => match xs with
          | [] => match put T.c o.dst (.tup []) s with
            | some s2 => .ok s2
            | none => .no [35]
          | _ => turnGo T φ s o.dst p v xs
        | _ => .no [36]
      | _ => .no [37]
    | _ => .no [39]
  | _ => .no [38]

theorem vt_tup0 {r : Root} {m : Mt} : VT w G m r (.tup []) (.tuple #[]) := ⟨[], rfl, rfl, fun i d u hd => by simp at hd⟩

theorem turnHk_ok {φ : List Int → List Int} {f : Nat} (hC : TurnC P f φ) {x : Operand} {args : Array Operand} {tys : Array TypeId} (ho : o.op = .call { callee := .value x, args, argTypes := tys }) {caps : List D} (hx : lookO s x = some (.fn f caps))
    (h : turnHk φ T s o = .ok s') : OpOk P T o s (fun s1 => s1 = s') ∧ Pre T.ro s.sto s'.sto := by
  unfold turnHk at h
  rw [ho] at h
  simp only at h
  have hcaps : caps = [] := by
    rw [hx] at h
    cases caps with
    | nil => rfl
    | cons c cs => simp at h
  subst hcaps
  rw [hx] at h
  simp only at h
  split at h
  · rename_i y hargs
    have hargs' : args = #[y] := by rw [← Array.toArray_toList (xs := args), hargs]
    split at h
    · rename_i e p v xs hy
      obtain ⟨fn, hf, hb, hnm⟩ := hC.fn
      have start : ∀ (X : Ctx) (G : Gh) (a : Act) (w : World), Fits T X → Rel X G s a w → ∀ (next : Act → World → Prop) (Q : Exit → Act → World → Prop), (Calls P f #[a.eval y] w fun e w' => match e with | .returned v => next (a.put o.dst v) w' | _ => False) → o.wp P a w next Q := by
        intro X G a w hX hR next Q hcall
        obtain ⟨cvs, hxv, hcl, _⟩ := inv_fn (lookO_vt hR hx (.air 0) rfl)
        have hcv : cvs = [] := List.eq_nil_of_length_eq_zero hcl.symm
        subst hcv
        unfold Oper.wp
        rw [run_call ho hxv hf hb hnm, Oper.upon_enter]
        have : args.map a.eval ++ [].toArray = #[a.eval y] := by subst hargs'; simp
        rw [this]
        refine hcall.mono fun e w' he => ?_
        cases e with
        | returned v => exact he
        | panicked c => exact he.elim
        | outgrown => exact he.elim
      split at h
      · split at h
        · rename_i s2 hp
          cases h
          refine ⟨fun X G a w hX hR next Q hn => start X G a w hX hR next Q ?_, Pre.of_eq (put_sto hp)⟩
          obtain ⟨A, cap, hyv, _⟩ := (lookO_vt hR hy (.air 0) rfl : CpL w G s.m e (some (p, v)) [] (a.eval y))
          rw [hyv]
          refine (hC.nil A cap w).mono fun e w' he => ?_
          obtain ⟨rfl, rfl⟩ := he
          obtain ⟨G3, r3⟩ := hR.putO hX.n hp 0 vt_tup0
          exact hn _ _ _ _ rfl r3
        · cases h
      · rename_i hne
        unfold turnGo at h
        split at h
        · rename_i hv
          obtain ⟨hv, hok⟩ := hv
          split at h
          · rename_i sz ys hpl
            split at h
            · rename_i zs hzs
              split at h
              · rename_i hlen
                obtain ⟨hlen, hbig, rfl⟩ := hlen
                simp only at h
                split at h
                · rename_i s2 hput
                  cases h
                  refine ⟨fun X G a w hX hR next Q hn => start X G a w hX hR next Q ?_, ?_⟩
                  · have hys := intsOf_eq hzs
                    have hzl : zs.length = ys.length := by rw [hys]; simp
                    have hok' : okR X.ro p.r = true := by rw [hX.ro]; exact hok
                    obtain ⟨A, cap, hyv, _, _, hq⟩ := (lookO_vt hR hy (.air 0) rfl : CpL w G s.m e (some (p, v)) xs (a.eval y))
                    obtain ⟨hair, _, hq⟩ := hq p v rfl
                    have hq := hq hv
                    have hxne : xs ≠ [] := by
                      rintro rfl
                      exact hne rfl
                    have hyne : ys ≠ [] := by
                      rintro rfl
                      simp at hlen
                      exact hxne (List.eq_nil_of_length_eq_zero hlen.symm)
                    rcases hq with rfl | ⟨rfl, hcap⟩
                    · exact absurd rfl hxne
                    · obtain ⟨v0, hown⟩ := getPl_own hR hpl hok'
                      rcases hown with ⟨q, _⟩ | ⟨_, b, off, cap', rfl, hcap', ho1, hfin, hGpl, hcell, hrows⟩
                      · exact absurd q hyne
                      · rw [hGpl] at hyv
                        simp only at hyv
                        rw [hyv, show xs.length = zs.length by omega]
                        have hH : Holds (Value.int .i64) w b off zs.toArray := fun j hj => by
                          have hj' : j < zs.length := by simpa using hj
                          have hr : ys[j]? = some (rowI (zs[j]'hj')) := by rw [hys]; simp [hj']
                          obtain ⟨u, hu, hi⟩ := hrows.2 j 0 _ (.int .i64 (zs[j]'hj')) hr rfl
                          have hi' : u = .int .i64 (zs[j]'hj') := by cases hi; rfl
                          subst hi'
                          obtain ⟨_, hfz⟩ := hcell j (by omega)
                          rw [Nat.mul_one, Nat.add_zero] at hu
                          refine ⟨?_, hfz⟩
                          rw [hu]
                          simp [hj']
                        refine (hC.some b off cap zs w hH (hR.ownLt ho1) hbig).mono fun e w' he => ?_
                        obtain ⟨rfl, n, os, rfl⟩ := he
                        rw [putRow_ahead]
                        have W := wr_putRow (Value.int .i64) w b off (φ zs).toArray
                        have K := W.ownKeeps ho1 hR.stow s.m
                        have hll : ((φ zs).map rowI).length = ys.length := by rw [List.length_map, hC.len, hzl]
                        have hR2 := hR.writeOwn (ys' := (φ zs).map rowI) hpl hok' W ho1 (fun v' hv' => by
                          rcases hv' with ⟨q, _⟩ | ⟨hz0, b', o1', cap2, rfl, hcap2, hown', hfin', hGpl', hcell', hrows'⟩
                          · exact absurd q hyne
                          · rw [hGpl] at hGpl'
                            cases hGpl'
                            refine .inr ⟨hz0, b, off, cap2, by rw [hll], by rw [hll]; exact hcap2, ho1, by rw [hll]; exact hfin, hGpl, fun q hq => ?_, fun r hr => ?_, fun j c' r d hr hd => ?_⟩
                            · obtain ⟨⟨u, hu⟩, hf⟩ := hcell' q hq
                              refine ⟨?_, by rw [W.frozen]; exact hf⟩
                              by_cases hin : q < (φ zs).toArray.size
                              · exact ⟨_, cell?_putRow (Value.int .i64) w b off zs.toArray (φ zs).toArray hH (by simp [hC.len]) q hin⟩
                              · exact ⟨u, by rw [cell?_putRow_other _ _ _ _ _ _ (.inr (.inr (by simp only [List.size_toArray] at hin ⊢; omega)))]; exact hu⟩
                            · obtain ⟨z, _, rfl⟩ := List.mem_map.1 hr
                              rfl
                            · rw [List.getElem?_map] at hr
                              obtain ⟨z, hz, rfl⟩ := Option.map_eq_some_iff.1 hr
                              have hj : j < (φ zs).length := (List.getElem?_eq_some_iff.1 hz).1
                              have hc0 : c' = 0 := by
                                have := (List.getElem?_eq_some_iff.1 hd).1
                                simp [rowI] at this
                                exact this
                              subst hc0
                              simp [rowI] at hd
                              subst hd
                              refine ⟨.int .i64 z, ?_, .int _ _⟩
                              rw [Nat.mul_one, Nat.add_zero, cell?_putRow (Value.int .i64) w b off zs.toArray (φ zs).toArray hH (by simp [hC.len]) j (by simpa using hj)]
                              have := (List.getElem?_eq_some_iff.1 hz).2
                              simp [hj, this])
                        obtain ⟨G4, r4⟩ := (hR2.grown n os).putO hX.n hput 0 vt_tup0
                        exact hn _ _ _ _ rfl r4
                  · rw [put_sto hput]
                    exact setPl_pre hok
                · cases h
              · cases h
            · cases h
          · cases h
        · cases h
    · cases h
  · cases h

/-- What a function does that makes a list of numbers compact. -/
structure CompC (P : Program) (f : Nat) : Prop where
  fn : ∃ fn, P.funcs[f]? = some fn ∧ fn.body.isNone = false ∧ (fn.name == "runtime.NumGoroutine") = false ∧ 1 ≤ fn.ntmps
  nil : ∀ (p : Option Addr) (cap : Nat) (w : World), Calls P f #[.slice p 0 cap] w fun e w' => e = .returned (.slice p 0 cap) ∧ w' = w
  some : ∀ (blk off cap : Nat) (zs : List Int) (w : World), Holds (Value.int .i64) w blk off zs.toArray → zs.length ≤ 9223372036854775807 → zs.length ≤ cap →
    Calls P f #[.slice (some ⟨blk, off, none⟩) zs.length cap] w fun e w' => e = .returned (.slice (some ⟨blk, off, none⟩) (Lib.compact zs).length cap) ∧ ∃ q, w' = putRow (Value.int .i64) (Sort.ahead w q) blk off (Lib.compact zs ++ List.replicate (zs.length - (Lib.compact zs).length) 0).toArray

noncomputable def Gh.setFin (G : Gh) (b n : Nat) : Gh := { G with fin := fun x => if x = b then n else G.fin x }
theorem Wr.finKeeps (W : Wr w w' b) {p : Place} (hb : G.own b = some (.lst p)) (hstow : ∀ b e, G.st b e → G.own b = none) (m : Mt) (n : Nat) : Keeps w G m w' (G.setFin b n) m.bE (fun q => q ≠ p) where
  be := fun _ _ h => h
  st := fun _ _ h => h
  cell := fun b' n o hs _ => W.cell (by rintro rfl; rw [hstow _ _ hs] at hb; cases hb) o
  ep := by simp [Mt.bE]
  rv := fun r => by cases r <;> exact Nat.le_refl _
  al := fun _ => Nat.le_refl _
  era := Nat.le_refl _
  rd := fun he => by simp [Mt.bE] at he
  pl := fun _ _ _ => rfl
  la := fun _ _ => rfl
  own := fun b' q hq ho => by
    have : b' ≠ b := by
      rintro rfl
      rw [ho] at hb
      cases hb
      exact hq rfl
    refine ⟨ho, ?_, fun o => ⟨W.cell this o, W.frozen _⟩⟩
    show (if b' = b then n else G.fin b') = _
    rw [if_neg this]
  opl := fun _ _ => rfl
  mp := fun _ k b' es clock _ hh => ⟨es, clock, W.map _ _ _ hh, fun i x hx => ⟨x, hx, rfl⟩⟩

theorem compact_len (zs : List Int) : (Lib.compact zs).length ≤ zs.length := by
  unfold Lib.compact Lib.compactUpTo
  rw [List.length_map]
  refine Nat.le_trans (List.length_filter_le _ _) ?_
  simp

theorem compC_tri {f r sz : Nat} {sto : List Ob} {ys : List (List D)} {zs : List Int} (hC : CompC P f) (hzs : intsOf ys = some zs) (hbig : zs.length ≤ 9223372036854775807) (hr : r ≤ sto.length) :
    Tri P f r [.list (.own sz) ys] sto (fun d l => d = .list (.own sz) ((Lib.compact zs).map rowI) ∧ l = sto) := by
  obtain ⟨fn, hf, hb, hnm, hnt⟩ := hC.fn
  refine ⟨fn, hf, ⟨hb, hnm⟩, hnt, hr, fun G0 w vs hl hR => ?_⟩
  obtain ⟨v, rfl⟩ : ∃ v, vs = [v] := List.length_eq_one_iff.1 hl
  have hys := intsOf_eq hzs
  have htk : takeO (s0 r [.list (.own sz) ys] sto) (.tmp 0) = some (.list (.own sz) ys, { (s0 r [.list (.own sz) ys] sto) with env := ins 0 (leftTop 0 (.list (.own sz) ys)) (s0 r [.list (.own sz) ys] sto).env, m := (m0 r).bS 0 }) := rfl
  obtain ⟨G1, r1, v1, K1, e1, e2, _⟩ := takeO_rel hR htk 0
  have hv0 : (Frm fn.ntmps [v]).eval (.tmp 0) = v := by
    show (Frm fn.ntmps [v]).tmps.getD 0 undef = v
    simp only [Frm, Array.getD_eq_getD_getElem?]
    rw [Array.getElem?_append_left (by simp)]
    rfl
  rw [hv0] at v1
  have v1' : OwnL w G1 ⟨.air 0, 0, 0⟩ sz ys v := v1
  have easy : ys = [] → ∀ p cap, v = .slice p 0 cap → Calls P f #[v] w fun e w' => match e with
      | .returned v => ∃ d s' G' a', (d = .list (.own sz) ((Lib.compact zs).map rowI) ∧ s'.sto = sto) ∧ Rel ⟨fn.ntmps, r, sto.length, w, G0, []⟩ G' s' a' w' ∧ VT w' G' s'.m (.air 0) d v
      | _ => False := by
    intro h0 p cap hv
    subst h0
    have hz0 : zs = [] := by simp [intsOf] at hzs; exact hzs
    subst hz0
    rw [hv]
    refine (hC.nil p cap w).mono fun e w' he => ?_
    obtain ⟨rfl, rfl⟩ := he
    rw [← hv]
    exact ⟨_, _, G1, _, ⟨rfl, rfl⟩, r1, v1'⟩
  rcases v1' with ⟨h0, hv⟩ | ⟨hz, b, off, cap, hv, hcap, ho1, hfin, hGpl, hcell, hrows⟩
  · exact easy h0 none 0 hv
  · by_cases hne : ys = []
    · subst hne
      exact easy rfl _ _ hv
    · have hsz : sz = 1 := by
        cases hyy : ys with
        | nil => exact absurd hyy hne
        | cons y r =>
          have h1 := hrows.1 y (by rw [hyy]; simp)
          cases hzz : zs with
          | nil => rw [hyy, hzz] at hys; simp at hys
          | cons z r' =>
            rw [hyy, hzz] at hys
            simp at hys
            rw [hys.1] at h1
            exact h1.symm
      subst hsz
      have hzl : zs.length = ys.length := by rw [hys]; simp
      have hH : Holds (Value.int .i64) w b off zs.toArray := fun j hj => by
        have hj' : j < zs.length := by simpa using hj
        have hr : ys[j]? = some (rowI (zs[j]'hj')) := by rw [hys]; simp [hj']
        obtain ⟨u, hu, hi⟩ := hrows.2 j 0 _ (.int .i64 (zs[j]'hj')) hr rfl
        have hi' : u = .int .i64 (zs[j]'hj') := by cases hi; rfl
        subst hi'
        obtain ⟨_, hfz⟩ := hcell j (by omega)
        rw [Nat.mul_one, Nat.add_zero] at hu
        refine ⟨?_, hfz⟩
        rw [hu]
        simp [hj']
      subst hv
      rw [show ys.length = zs.length by omega]
      refine (hC.some b off cap zs w hH hbig (by omega)).mono fun e w' he => ?_
      obtain ⟨rfl, q, rfl⟩ := he
      have hcl := compact_len zs
      have hlen2 : (Lib.compact zs ++ List.replicate (zs.length - (Lib.compact zs).length) 0).toArray.size = zs.toArray.size := by simp; omega
      generalize hfull : Lib.compact zs ++ List.replicate (zs.length - (Lib.compact zs).length) 0 = full at *
      have W := wr_putRow (Value.int .i64) w b off full.toArray
      have K := W.finKeeps ho1 r1.stow (((m0 r).bS 0)) (off + (Lib.compact zs).length)
      have hne' : ∀ (k b' : Nat) (o : Ob), sto[k]? = some o → G1.be k = some b' → b' ≠ b := by
        rintro k b' o hk hb' rfl
        obtain ⟨b2, q1, q2, _⟩ := r1.sto k o hk
        rw [hb'] at q1
        cases q1
        rw [ho1] at q2
        split at q2 <;> cases q2
      have r2 : Rel ⟨fn.ntmps, r, sto.length, w, G0, []⟩ (G1.setFin b (off + (Lib.compact zs).length)) ⟨[], [], sto, ((m0 r).bS 0).bE⟩ (Frm fn.ntmps [.slice (some ⟨b, off, none⟩) ys.length cap]) (putRow (Value.int .i64) w b off full.toArray) := by
        refine r1.reW W (by rw [ho1]; simp) (fun b' _ => rfl) rfl rfl (fun b' e he => .inl he) r1.stow r1.std r1.size r1.defers (fun t d ht => by simp [lk_nil] at ht) (fun t cs ht => by simp [lk_nil] at ht) rfl rfl (fun k o b' hk hb' => ?_)
        exact r1.stoW W K (fun j => by simp) (show _ = some o from hk) hb' (hne' k b' o hk hb')
      have r3 := r2.grown q #[]
      rw [grow_empty] at r3
      refine ⟨_, ⟨[], [], sto, ((m0 r).bS 0).bE⟩, _, _, ⟨rfl, rfl⟩, r3, ?_⟩
      have hOwn : OwnL (putRow (Value.int .i64) (Sort.ahead w q) b off full.toArray) (G1.setFin b (off + (Lib.compact zs).length)) ⟨.air 0, 0, 0⟩ 1 ((Lib.compact zs).map rowI) (.slice (some ⟨b, off, none⟩) (Lib.compact zs).length cap) := by
        refine .inr ⟨by omega, b, off, cap, by simp, by simp; omega, ho1, ?_, hGpl, fun i hi => ?_, fun r hr => ?_, fun j c' r d hr hd => ?_⟩
        · show (if b = b then _ else _) = _
          rw [if_pos rfl]
          simp
        · obtain ⟨⟨u, hu⟩, hf⟩ := hcell i hi
          show (∃ u, (putRow (Value.int .i64) w b off full.toArray).cell? ⟨b, off + i, none⟩ = some u) ∧ (putRow (Value.int .i64) w b off full.toArray).frozen? ⟨b, off + i, none⟩ = false
          refine ⟨?_, by rw [W.frozen]; exact hf⟩
          by_cases hin : i < full.toArray.size
          · exact ⟨_, cell?_putRow (Value.int .i64) w b off zs.toArray full.toArray hH hlen2 i hin⟩
          · exact ⟨u, by rw [cell?_putRow_other _ _ _ _ _ _ (.inr (.inr (by simp only [List.size_toArray] at hin ⊢; omega)))]; exact hu⟩
        · obtain ⟨z, _, rfl⟩ := List.mem_map.1 hr
          rfl
        · rw [List.getElem?_map] at hr
          obtain ⟨z, hz, rfl⟩ := Option.map_eq_some_iff.1 hr
          have hj : j < (Lib.compact zs).length := (List.getElem?_eq_some_iff.1 hz).1
          have hc0 : c' = 0 := by
            have := (List.getElem?_eq_some_iff.1 hd).1
            simp [rowI] at this
            exact this
          subst hc0
          simp [rowI] at hd
          subst hd
          have hjf : full[j]? = some z := by rw [← hfull, List.getElem?_append_left hj]; exact hz
          have hjl : j < full.length := (List.getElem?_eq_some_iff.1 hjf).1
          refine ⟨.int .i64 z, ?_, .int _ _⟩
          show (putRow (Value.int .i64) w b off full.toArray).cell? _ = _
          rw [Nat.mul_one, Nat.add_zero, cell?_putRow (Value.int .i64) w b off zs.toArray full.toArray hH hlen2 j (by simpa using hjl)]
          have := (List.getElem?_eq_some_iff.1 hjf).2
          simp [hjl, this]
      exact hOwn
end

/-! ### A sort that is reckoned by its steps -/
noncomputable def insI (z : Int) : List Int → List Int
  | [] => [z]
  | x :: r => if z ≤ x then z :: x :: r else x :: insI z r
noncomputable def sortI : List Int → List Int
  | [] => []
  | z :: r => insI z (sortI r)
theorem insI_perm (z : Int) : ∀ l : List Int, (insI z l).Perm (z :: l)
  | [] => .refl _
  | x :: r => by
    unfold insI
    split
    · exact .refl _
    · exact ((insI_perm z r).cons x).trans (List.Perm.swap z x r)
theorem insI_sorted (z : Int) : ∀ {l : List Int}, l.Pairwise (· ≤ ·) → (insI z l).Pairwise (· ≤ ·)
  | [], _ => by simp [insI]
  | x :: r, h => by
    rw [List.pairwise_cons] at h
    unfold insI
    split
    · rename_i hz
      rw [List.pairwise_cons, List.pairwise_cons]
      refine ⟨fun y hy => ?_, h⟩
      rcases List.mem_cons.1 hy with rfl | hy
      · exact hz
      · exact Int.le_trans hz (h.1 y hy)
    · rename_i hz
      rw [List.pairwise_cons]
      refine ⟨fun y hy => ?_, insI_sorted z h.2⟩
      rcases List.mem_cons.1 ((insI_perm z r).mem_iff.1 hy) with rfl | hy
      · omega
      · exact h.1 y hy
theorem sortI_perm : ∀ l : List Int, (sortI l).Perm l
  | [] => .refl _
  | z :: r => (insI_perm z _).trans ((sortI_perm r).cons z)
theorem sortI_sorted : ∀ l : List Int, (sortI l).Pairwise (· ≤ ·)
  | [] => .nil
  | z :: r => insI_sorted z (sortI_sorted r)
theorem sorted_unique : ∀ {l l' : List Int}, l.Perm l' → l.Pairwise (· ≤ ·) → l'.Pairwise (· ≤ ·) → l = l'
  | [], l', h, _, _ => (List.nil_perm.1 h).symm
  | x :: r, [], h, _, _ => by simp at h
  | x :: r, y :: r', h, h1, h2 => by
    rw [List.pairwise_cons] at h1 h2
    have e : x = y := by
      have hx : x ∈ y :: r' := h.mem_iff.1 (by simp)
      have hy : y ∈ x :: r := h.mem_iff.2 (by simp)
      rcases List.mem_cons.1 hx with e | hx
      · exact e
      · rcases List.mem_cons.1 hy with e | hy
        · exact e.symm
        · have := h1.1 y hy
          have := h2.1 x hx
          omega
    subst e
    rw [sorted_unique (List.perm_cons x |>.1 h) h1.2 h2.2]
theorem mergeSort_sortI (l : List Int) : l.mergeSort (fun x y => decide (x ≤ y)) = sortI l := by
  refine sorted_unique ((List.mergeSort_perm _ _).trans (sortI_perm l).symm) ?_ (sortI_sorted l)
  have := List.pairwise_mergeSort (le := fun x y : Int => decide (x ≤ y)) (fun a b c h1 h2 => by simp at *; omega) (fun a b => by simp; omega) l
  exact this.imp fun h => by simpa using h

/-- The compact list, of a list that is handed over. -/
noncomputable def compSp : Caller := fun r _ args sto => match args with
  | [.list (.own sz) ys] => match intsOf ys with
    | some zs => if zs.length ≤ 9223372036854775807 ∧ r ≤ sto.length then .ok (.list (.own sz) ((Lib.compact zs).map rowI), sto) else .no [40]
    | none => .no [41]
  | _ => .no [42]
theorem compSp_ok {P : Program} {f f' : Nat} (hC : CompC P f) {r : Nat} {args : List D} {sto : List Ob} {d : D} {sto' : List Ob} (h : compSp r f' args sto = .ok (d, sto')) : Tri P f r args sto (fun d' l => d' = d ∧ l = sto') ∧ Pre r sto sto' := by
  unfold compSp at h
  split at h
  · split at h
    · rename_i zs hzs
      split at h
      · rename_i hg
        cases h
        exact ⟨compC_tri hC hzs hg.1 hg.2, Pre.refl _ _⟩
      · cases h
    · cases h
  · cases h

end Go.Lv
