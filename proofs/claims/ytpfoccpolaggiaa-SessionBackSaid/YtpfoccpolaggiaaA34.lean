/-
  A34: from a row's reading of its arguments to data, and from what a function answers on data to the row.
-/
import Derived.Test.YtpfoccpolaggiaaA33
import Derived.ProofKit
set_option linter.all false
namespace Go.Lv
open Go Go.ChangeShapes Go.WideShapes Go.ChangeAt Go.RowKit

/-- The fields of a struct, one behind the other from a cell on. -/
noncomputable def treeFs (L : Ly) (go : Nat → Bool) : List (Nat × Nat) → Nat → Option Nat
  | [], o => some o
  | (f, t) :: r, o => if f == o && go t then treeFs L go r (o + L.size t) else none
/-- A type without pointers: numbers, bools, strings, lists and structs of such. -/
noncomputable def treeT (L : Ly) : Nat → Nat → Bool
  | 0, _ => false
  | n + 1, t => match L.tk t with
    | .int _ | .bool | .str => L.size t == 1
    | .slice e => L.size t == 1 && decide (0 < L.size e) && treeT L n e
    | .struct fs => decide (0 < L.size t) && (match treeFs L (treeT L n) fs 0 with | some o => o == L.size t | none => false)
    | _ => false

noncomputable def OkFs (L : Ly) (go : Nat → List D → Prop) : List (Nat × Nat) → List D → Prop
  | [], cs => cs = []
  | (_, t) :: r, cs => ∃ x y, cs = x ++ y ∧ x.length = L.size t ∧ go t x ∧ OkFs L go r y
/-- Cells of a type without pointers, as a row lets them in. -/
noncomputable def OkD (L : Ly) : Nat → Nat → List D → Prop
  | 0, _, _ => False
  | n + 1, t, cs => match L.tk t with
    | .int k => ∃ i, cs = [.int k i] ∧ k.min ≤ i ∧ i ≤ k.max
    | .bool => ∃ b, cs = [.bool b]
    | .str => ∃ s, cs = [.str s] ∧ s.size ≤ 9223372036854775807
    | .slice e => ∃ xs, cs = [.list .imm xs] ∧ xs.length ≤ 9223372036854775807 ∧ ∀ r, r ∈ xs → r.length = L.size e ∧ OkD L n e r
    | .struct fs => OkFs L (OkD L n) fs cs
    | _ => False

section
variable {P : Program} {L : Ly} {H : Type} {enc : TypeId × Value → H} {W : World}

/-- What stays of a world as it is. -/
noncomputable def stW (W : World) : Nat → Nat → Prop := fun b _ => b < W.heap.size
noncomputable def ImmL (W : World) (cs : List D) (vs : List Value) : Prop := cs.length = vs.length ∧ ∀ (j : Nat) (d : D) (v : Value), cs[j]? = some d → vs[j]? = some v → Imm W (fun _ => none) (stW W) d v
theorem ImmL.nil : ImmL W [] [] := ⟨rfl, fun j d v h => by simp at h⟩
theorem ImmL.one {d : D} {v : Value} (h : Imm W (fun _ => none) (stW W) d v) : ImmL W [d] [v] := by
  refine ⟨rfl, fun j d' v' hd hv => ?_⟩
  cases j with
  | zero => simp at hd hv; subst hd; subst hv; exact h
  | succ j => simp at hd
theorem ImmL.append {cs cs' : List D} {vs vs' : List Value} (h : ImmL W cs vs) (h' : ImmL W cs' vs') : ImmL W (cs ++ cs') (vs ++ vs') := by
  refine ⟨by simp [h.1, h'.1], fun j d v hd hv => ?_⟩
  by_cases hj : j < cs.length
  · rw [List.getElem?_append_left hj] at hd
    rw [List.getElem?_append_left (by rw [← h.1]; exact hj)] at hv
    exact h.2 j d v hd hv
  · rw [List.getElem?_append_right (by omega)] at hd
    rw [List.getElem?_append_right (by rw [← h.1]; omega), ← h.1] at hv
    exact h'.2 _ d v hd hv

theorem LyOK.cellsOf (H : LyOK P L) {t : Nat} (h : 0 < L.size t) : P.cellsOf t = L.size t := by
  obtain ⟨d, hd, e⟩ := size_has h
  obtain ⟨i, h1, h2, _⟩ := H.info hd
  simp [Program.cellsOf, h1, h2, e]
theorem treeT_size {n t : Nat} (h : treeT L n t = true) : 0 < L.size t := by
  cases n with
  | zero => cases h
  | succ n =>
    unfold treeT at h
    split at h
    · simp at h; omega
    · simp at h; omega
    · simp at h; omega
    · simp at h; omega
    · simp only [Bool.and_eq_true, decide_eq_true_eq] at h; exact h.1
    · cases h

theorem trod_okD (HL : LyOK P L) : ∀ (n t : Nat), treeT L n t = true → ∀ (fuel : Nat) (vs : List Value) (x : DataW H × List MemPlace), DataW.trod enc P W 0 (fun _ => true) true fuel t vs = some x →
    ∃ cs, ImmL W cs vs ∧ cs.length = L.size t ∧ OkD L n t cs := by
  intro n
  induction n with
  | zero => intro t h; cases h
  | succ n ih =>
    intro t ht fuel vs x hx
    have hsz := treeT_size ht
    unfold treeT at ht
    cases fuel with
    | zero => simp [DataW.trod] at hx
    | succ fuel =>
    split at ht
    · rename_i k hk
      obtain ⟨i, rfl, _, hw⟩ := DataW.trod_int (HL.int hk) hx
      simp only [Lit.wf, Bool.and_eq_true, decide_eq_true_eq] at hw
      refine ⟨[.int k i], ImmL.one (.int _ _), by simp at ht; simp [ht], ?_⟩
      simp only [OkD, hk]
      exact ⟨i, rfl, hw.1, hw.2⟩
    · rename_i hk
      unfold DataW.trod at hx
      rw [HL.bool hk] at hx
      split at hx <;> simp_all
      rename_i b
      exact ⟨[.bool b], ImmL.one (.bool _), by simp, by simp only [OkD, hk]; exact ⟨b, rfl⟩⟩
    · rename_i hk
      unfold DataW.trod at hx
      rw [HL.str hk] at hx
      split at hx <;> simp_all
      rename_i s
      refine ⟨[.str s], ImmL.one (.str _), by simp, ?_⟩
      simp only [OkD, hk]
      refine ⟨s, rfl, ?_⟩
      have := hx.1
      simp only [maxLen] at this
      omega
    · rename_i e hk
      simp only [Bool.and_eq_true, beq_iff_eq, decide_eq_true_eq] at ht
      obtain ⟨⟨h1, h2⟩, h3⟩ := ht
      have hce := HL.cellsOf h2
      unfold DataW.trod at hx
      rw [HL.slice hk] at hx
      split at hx <;> (try simp_all; done) <;> rename_i hu <;> (try simp at hu)
      · refine ⟨[.list .imm []], ImmL.one (.nils _ _), by simp [h1], ?_⟩
        simp only [OkD, hk]
        exact ⟨[], rfl, by simp, fun r hr => nomatch hr⟩
      · subst hu
        rename_i a len cap
        simp only at hx
        rw [Option.ite_none_right_eq_some] at hx
        obtain ⟨⟨_, hlc, hcap⟩, hx⟩ := hx
        rw [Option.bind_eq_some_iff] at hx
        obtain ⟨elems, hel, _⟩ := hx
        have hget := fun i (hi : i < len) => mapM_some_get hel i i (by simp [hi])
        have hlen : elems.length = len := by simpa using mapM_some_length hel
        -- each element's cells
        have each : ∀ i, i < len → ∃ (r : List D) (us : List Value), W.cells? 0 (a.add (i * L.size e)) (L.size e) = some us ∧ ImmL W r us ∧ r.length = L.size e ∧ OkD L n e r := fun i hi => by
          have h4 := hget i hi
          rw [hce] at h4
          have h5 : (elems[i]?).isSome := by simp [hlen, hi]
          rw [← h4, Option.isSome_bind] at h5
          cases hus : W.cells? 0 (a.add (i * L.size e)) (L.size e) with
          | none => rw [hus] at h4; simp at h4; omega
          | some us =>
            rw [hus] at h4
            simp only [Option.bind_some] at h4
            cases hy : DataW.trod enc P W 0 (fun _ => true) true fuel e us with
            | none => rw [hy] at h4; simp at h4; omega
            | some y =>
              obtain ⟨r, q1, q2, q3⟩ := ih e h3 fuel us y hy
              exact ⟨r, us, rfl, q1, q2, q3⟩
        have hch : ∀ i, ∃ r : List D, i < len → ∃ us, W.cells? 0 (a.add (i * L.size e)) (L.size e) = some us ∧ ImmL W r us ∧ r.length = L.size e ∧ OkD L n e r := fun i => by
          by_cases hi : i < len
          · obtain ⟨r, us, h⟩ := each i hi; exact ⟨r, fun _ => ⟨us, h⟩⟩
          · exact ⟨[], fun h => absurd h hi⟩
        have hch' := fun i => Classical.choose_spec (hch i)
        generalize hR : (fun i => Classical.choose (hch i)) = R at hch'
        have hRi : ∀ i, i < len → ∃ us, W.cells? 0 (a.add (i * L.size e)) (L.size e) = some us ∧ ImmL W (R i) us ∧ (R i).length = L.size e ∧ OkD L n e (R i) := fun i hi => by rw [← hR]; exact Classical.choose_spec (hch i) hi
        refine ⟨[.list .imm ((List.range len).map R)], ImmL.one ?_, by simp [h1], ?_⟩
        · rw [imm_list]
          by_cases h0 : len = 0
          · subst h0
            exact .inl ⟨by simp, _, _, rfl⟩
          · have hpos : 0 < len := by omega
            obtain ⟨us0, hus0, hi0, hl0, _⟩ := hRi 0 hpos
            obtain ⟨_, hul, hcell⟩ := World.cells?_some hus0
            have hc0 := hcell 0 h2
            have hu0 : us0[0]? = some (us0[0]'(by omega)) := List.getElem?_eq_getElem (by omega)
            rw [hu0] at hc0
            have hadd0 : (a.add (0 * L.size e)).add 0 = a := by simp [Addr.add]
            rw [hadd0] at hc0
            have hspot := World.cell?_spot hc0
            have hblk : a.block < W.heap.size := by
              refine Classical.byContradiction fun hn => ?_
              have : W.heap[a.block]? = none := by simp; omega
              simp [World.cell?, this] at hc0
            obtain ⟨ab, ao, as⟩ := a
            simp only at hspot hblk
            subst hspot
            refine .inr ⟨ab, ao, cap, L.size e, by simp, by simpa using hpos, h2, by simpa using hlc, hblk, fun r hr => ?_, fun j c r d hr hd => ?_⟩
            · obtain ⟨i, hi, rfl⟩ := List.mem_map.1 hr
              obtain ⟨us, _, _, q, _⟩ := hRi i (by simpa using hi)
              exact q
            · rw [List.getElem?_map] at hr
              obtain ⟨i, hi, rfl⟩ := Option.map_eq_some_iff.1 hr
              have hi' : j < len ∧ j = i := by
                have hj : j < len := by have := (List.getElem?_eq_some_iff.1 hi).1; simpa using this
                rw [List.getElem?_range hj] at hi
                exact ⟨hj, by simpa using hi⟩
              obtain ⟨hj, rfl⟩ := hi'
              obtain ⟨us, q1, q2, q3, _⟩ := hRi j hj
              obtain ⟨_, q4, q5⟩ := World.cells?_some q1
              have hc : c < L.size e := by rw [← q3]; exact (List.getElem?_eq_some_iff.1 hd).1
              have hu : us[c]? = some (us[c]'(by omega)) := List.getElem?_eq_getElem (by omega)
              refine ⟨us[c]'(by omega), ?_, q2.2 c d _ hd hu⟩
              have := q5 c hc
              rw [hu] at this
              rw [← this]
              congr 1
              simp only [Addr.add]
              split <;> split <;> simp_all <;> omega
        · simp only [OkD, hk]
          refine ⟨_, rfl, ?_, fun r hr => ?_⟩
          · simp only [List.length_map, List.length_range]
            have : maxLen = 9223372036854775807 := rfl
            omega
          · obtain ⟨i, hi, rfl⟩ := List.mem_map.1 hr
            obtain ⟨us, _, _, q3, q4⟩ := hRi i (by simpa using hi)
            exact ⟨q3, q4⟩
    · rename_i fs hk
      simp only [Bool.and_eq_true, decide_eq_true_eq] at ht
      obtain ⟨h1, h2⟩ := ht
      obtain ⟨gs, hu, rfl⟩ := HL.struct hk
      obtain ⟨xs, m, hm, _, hl, hxl, hget⟩ := DataW.trod_struct hu hx
      cases hm
      rw [HL.cellsOf h1] at hl
      have hall : ∀ g, g ∈ gs.toList → ∃ y, DataW.trod enc P W 0 (fun _ => true) true fuel g.type ((vs.drop g.offset).take (P.cellsOf g.type)) = some y := fun g hg => by
        obtain ⟨i, hi, hgi⟩ := List.mem_iff_getElem.1 hg
        have h3 : gs[i]? = some g := by simp at hi; rw [Array.getElem?_eq_getElem hi]; simpa using hgi
        have h4 := hget i g h3
        have h5 : i < xs.length := by rw [hxl]; simpa using hi
        exact ⟨xs[i], by rw [h4, List.getElem?_eq_getElem h5]⟩
      have key : ∀ (gl : List Field) (o : Nat), (∀ g, g ∈ gl → ∃ y, DataW.trod enc P W 0 (fun _ => true) true fuel g.type ((vs.drop g.offset).take (P.cellsOf g.type)) = some y) → (match treeFs L (treeT L n) (gl.map fun f => (f.offset, f.type)) o with | some o => o == L.size t | none => false) = true →
          ∃ cs, ImmL W cs (vs.drop o) ∧ OkFs L (OkD L n) (gl.map fun f => (f.offset, f.type)) cs := by
        intro gl
        induction gl with
        | nil =>
          intro o _ ho
          simp [treeFs] at ho
          subst ho
          refine ⟨[], ?_, rfl⟩
          rw [List.drop_of_length_le (by omega)]
          exact ImmL.nil
        | cons g gl ihg =>
          intro o hg ho
          simp only [List.map_cons, treeFs] at ho
          split at ho
          · rename_i o' ho'
            rw [Option.ite_none_right_eq_some] at ho'
            obtain ⟨hc, ho'⟩ := ho'
            simp only [Bool.and_eq_true, beq_iff_eq] at hc
            obtain ⟨hof, htr⟩ := hc
            obtain ⟨y, hy⟩ := hg g (by simp)
            have hs := treeT_size htr
            rw [HL.cellsOf hs, hof] at hy
            obtain ⟨r, q1, q2, q3⟩ := ih g.type htr fuel _ y hy
            obtain ⟨cs, q4, q5⟩ := ihg (o + L.size g.type) (fun g' hg' => hg g' (by simp [hg'])) (by rw [ho']; exact ho)
            refine ⟨r ++ cs, ?_, r, cs, rfl, q2, q3, q5⟩
            have := q1.append q4
            rwa [← List.drop_drop, List.take_append_drop] at this
          · cases ho
      obtain ⟨cs, q1, q2⟩ := key gs.toList 0 hall h2
      rw [List.drop_zero] at q1
      refine ⟨cs, q1, by rw [q1.1, hl], ?_⟩
      simp only [OkD, hk]
      exact q2
    · cases ht

/-- An argument as data. -/
noncomputable def argD (L : Ly) (t : Nat) (cs : List D) : D := if L.agg t then .agg cs else cs.headD .nil

end

end Go.Lv
