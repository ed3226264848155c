/-
  Part 11 of the texts under the proof: an abstract run of loaded code on data, and what the functions do. No condition.
-/
import Derived.Test.YtmbkdljolcmmiaaGreatM10
import Derived.ProofKit
set_option linter.all false
set_option maxRecDepth 100000
namespace Go.Lv
open Go Go.ChangeShapes Go.WideShapes Go.ChangeAt Go.RowKit

noncomputable def treeFs (L : Ly) (go : Nat → Bool) : List (Nat × Nat) → Nat → Option Nat
  | [], o => some o
  | (f, t) :: r, o => if f == o && go t then treeFs L go r (o + L.size t) else none
noncomputable def treeT (L : Ly) : Nat → Nat → Bool
  | 0, _ => false
  | n + 1, t => match L.tk t with
    | .int _ | .bool | .str => L.size t == 1
    | .slice e => L.size t == 1 && decide (0 < L.size e) && treeT L n e
    | .struct fs => decide (0 < L.size t) && (match treeFs L (treeT L n) fs 0 with | some o => o == L.size t | none => false)
    | _ => false

noncomputable def OkFs (L : Ly) (go : Nat → List D → Prop) : List (Nat × Nat) → List D → Prop
  | [], cs => cs = []
  | (_, t) :: r, cs => ∃ x y, cs = x ++ y ∧ x.length = L.size t ∧ go t x ∧ OkFs L go r y
noncomputable def OkD (L : Ly) : Nat → Nat → List D → Prop
  | 0, _, _ => False
  | n + 1, t, cs => match L.tk t with
    | .int k => ∃ i, cs = [.int k i] ∧ k.min ≤ i ∧ i ≤ k.max
    | .bool => ∃ b, cs = [.bool b]
    | .str => ∃ s, cs = [.str s] ∧ s.size ≤ 9223372036854775807
    | .slice e => ∃ xs, cs = [.list .imm xs] ∧ xs.length ≤ 9223372036854775807 ∧ ∀ r, r ∈ xs → r.length = L.size e ∧ OkD L n e r
    | .struct fs => OkFs L (OkD L n) fs cs
    | _ => False

noncomputable def SzD (L : Ly) : Nat → Nat → List D → Prop
  | 0, _, _ => True
  | n + 1, t, cs => match L.tk t with
    | .str => ∃ s, cs = [.str s] ∧ s.size ≤ 140737488351232
    | .slice e => ∃ xs, cs = [.list .imm xs] ∧ xs.length * L.bytes e ≤ 140737488351232 ∧ ∀ r, r ∈ xs → SzD L n e r
    | .struct fs => OkFs L (SzD L n) fs cs
    | _ => True

mutual
noncomputable def bulkD : D → Nat
  | .list _ xs => bulkLL xs + 1
  | .str s => s.size + 1
  | _ => 1
noncomputable def bulkL : List D → Nat
  | [] => 0
  | d :: r => bulkD d + bulkL r
noncomputable def bulkLL : List (List D) → Nat
  | [] => 0
  | r :: rs => bulkL r + bulkLL rs
end
mutual
noncomputable def bulkW {H : Type} : DataW H → Nat
  | .lit (.string bytes) => bytes.length + 1
  | .lit _ => 1
  | .nil => 1
  | .ptr d => bulkW d + 1
  | .slice elems spare => bulkWA elems + bulkWA spare + 1
  | .agg parts => bulkWA parts + 1
  | .iface _ d => bulkW d + 1
  | .map entries => bulkWE entries + 1
  | .held _ => 1
noncomputable def bulkWA {H : Type} : List (DataW H) → Nat
  | [] => 0
  | d :: r => bulkW d + bulkWA r
noncomputable def bulkWE {H : Type} : List (Lit × DataW H) → Nat
  | [] => 0
  | x :: r => bulkW1 x + bulkWE r
noncomputable def bulkW1 {H : Type} : Lit × DataW H → Nat
  | (.string bytes, d) => bytes.length + bulkW d + 1
  | (_, d) => bulkW d + 1
end
theorem bulkW_pos {H : Type} (d : DataW H) : 1 ≤ bulkW d := by
  unfold bulkW
  split <;> omega
theorem bulkL_app : ∀ a b : List D, bulkL (a ++ b) = bulkL a + bulkL b
  | [], b => by simp [bulkL]
  | x :: a, b => by simp only [List.cons_append, bulkL, bulkL_app a b, Nat.add_assoc]
theorem bulkLL_app : ∀ a b : List (List D), bulkLL (a ++ b) = bulkLL a + bulkLL b
  | [], b => by simp [bulkLL]
  | x :: a, b => by simp only [List.cons_append, bulkLL, bulkLL_app a b, Nat.add_assoc]
theorem bulkLL_range {H : Type} {α : Type} (R : Nat → List D) : ∀ (n : Nat) (l : List (DataW H × α)), n ≤ l.length → (∀ i y, i < n → l[i]? = some y → bulkL (R i) ≤ bulkW y.1) → bulkLL ((List.range n).map R) ≤ bulkWA ((l.take n).map (·.1))
  | 0, l, _, _ => by simp [bulkLL]
  | n + 1, l, hn, h => by
    have ih := bulkLL_range R n l (by omega) (fun i y hi hy => h i y (by omega) hy)
    have hl : l[n]? = some (l[n]'(by omega)) := List.getElem?_eq_getElem (by omega)
    have h1 := h n _ (by omega) hl
    have app : ∀ a b : List (DataW H), bulkWA (a ++ b) = bulkWA a + bulkWA b := by
      intro a b
      induction a with
      | nil => simp [bulkWA]
      | cons x a ih => simp only [List.cons_append, bulkWA, ih, Nat.add_assoc]
    rw [List.range_succ, List.map_append, bulkLL_app, List.take_succ_eq_append_getElem (by omega), List.map_append, app]
    simp only [List.map_cons, List.map_nil, bulkLL, bulkWA, Nat.add_zero]
    omega
section
variable {P : Program} {L : Ly} {H : Type} {enc : TypeId × Value → H} {W : World}

theorem weightsAll_mem {e : TypeId} {B : Nat} : ∀ {l : List (DataW H)}, (DataW.weightsAll P e l).all (· ≤ B) = true → ∀ d, d ∈ l → (d.weights P e).all (· ≤ B) = true
  | [], _, d, hd => nomatch hd
  | c :: l, h, d, hd => by
    rw [DataW.weightsAll, List.all_append, Bool.and_eq_true] at h
    rcases List.mem_cons.1 hd with e | e
    · rw [e]; exact h.1
    · exact weightsAll_mem h.2 d e
theorem weightsEach_get {B : Nat} : ∀ {ts : List TypeId} {l : List (DataW H)}, (DataW.weightsEach P ts l).all (· ≤ B) = true → ∀ (i : Nat) t d, ts[i]? = some t → l[i]? = some d → (d.weights P t).all (· ≤ B) = true
  | [], _, _, i, t, d, ht, _ => by simp at ht
  | _ :: _, [], _, i, t, d, _, hd => by simp at hd
  | t0 :: ts, c :: l, h, i, t, d, ht, hd => by
    rw [DataW.weightsEach, List.all_append, Bool.and_eq_true] at h
    cases i with
    | zero => simp at ht hd; subst ht; subst hd; exact h.1
    | succ i => exact weightsEach_get h.2 i t d (by simpa using ht) (by simpa using hd)

theorem LyOK.bytesOf (HL : LyOK P L) {t : Nat} (h : 0 < L.size t) : P.bytesOf t = L.bytes t := by
  obtain ⟨d, hd, e⟩ := size_has h
  obtain ⟨i, h1, _, h2⟩ := HL.info hd
  have : L.bytes t = d.bytes := by simp [Ly.bytes, hd]
  rw [this, ← h2]
  simp [Program.bytesOf, h1]

noncomputable def stW (W : World) : Nat → Nat → Prop := fun b _ => b < W.heap.size
noncomputable def ImmL (W : World) (cs : List D) (vs : List Value) : Prop := cs.length = vs.length ∧ ∀ (j : Nat) (d : D) (v : Value), cs[j]? = some d → vs[j]? = some v → Imm W (fun _ => none) (stW W) d v
theorem ImmL.nil : ImmL W [] [] := ⟨rfl, fun j d v h => by simp at h⟩
theorem ImmL.one {d : D} {v : Value} (h : Imm W (fun _ => none) (stW W) d v) : ImmL W [d] [v] := by
  refine ⟨rfl, fun j d' v' hd hv => ?_⟩
  cases j with
  | zero => simp at hd hv; subst hd; subst hv; exact h
  | succ j => simp at hd
theorem ImmL.append {cs cs' : List D} {vs vs' : List Value} (h : ImmL W cs vs) (h' : ImmL W cs' vs') : ImmL W (cs ++ cs') (vs ++ vs') := by
  refine ⟨by simp [h.1, h'.1], fun j d v hd hv => ?_⟩
  by_cases hj : j < cs.length
  · rw [List.getElem?_append_left hj] at hd
    rw [List.getElem?_append_left (by rw [← h.1]; exact hj)] at hv
    exact h.2 j d v hd hv
  · rw [List.getElem?_append_right (by omega)] at hd
    rw [List.getElem?_append_right (by rw [← h.1]; omega), ← h.1] at hv
    exact h'.2 _ d v hd hv

theorem LyOK.cellsOf (H : LyOK P L) {t : Nat} (h : 0 < L.size t) : P.cellsOf t = L.size t := by
  obtain ⟨d, hd, e⟩ := size_has h
  obtain ⟨i, h1, h2, _⟩ := H.info hd
  simp [Program.cellsOf, h1, h2, e]
theorem treeT_size {n t : Nat} (h : treeT L n t = true) : 0 < L.size t := by
  cases n with
  | zero => cases h
  | succ n =>
    unfold treeT at h
    split at h
    · simp at h; omega
    · simp at h; omega
    · simp at h; omega
    · simp at h; omega
    · simp only [Bool.and_eq_true, decide_eq_true_eq] at h; exact h.1
    · cases h

theorem trod_okD (HL : LyOK P L) : ∀ (n t : Nat), treeT L n t = true → ∀ (fuel : Nat) (vs : List Value) (x : DataW H × List MemPlace), DataW.trod enc P W 0 (fun _ => true) true fuel t vs = some x →
    ∃ cs, ImmL W cs vs ∧ cs.length = L.size t ∧ OkD L n t cs ∧ ((x.1.weights P t).all (· ≤ reachBytes) = true → SzD L n t cs) ∧ bulkL cs ≤ bulkW x.1 := by
  intro n
  induction n with
  | zero => intro t h; cases h
  | succ n ih =>
    intro t ht fuel vs x hx
    have hsz := treeT_size ht
    unfold treeT at ht
    cases fuel with
    | zero => simp [DataW.trod] at hx
    | succ fuel =>
    split at ht
    · rename_i k hk
      obtain ⟨i, rfl, _, hw⟩ := DataW.trod_int (HL.int hk) hx
      simp only [Lit.wf, Bool.and_eq_true, decide_eq_true_eq] at hw
      refine ⟨[.int k i], ImmL.one (.int _ _), by simp at ht; simp [ht], ?_, (fun _ => by simp only [SzD, hk]), by simp only [bulkL, bulkD]; exact bulkW_pos _⟩
      simp only [OkD, hk]
      exact ⟨i, rfl, hw.1, hw.2⟩
    · rename_i hk
      unfold DataW.trod at hx
      rw [HL.bool hk] at hx
      split at hx <;> simp_all
      rename_i b
      exact ⟨[.bool b], ImmL.one (.bool _), by simp, by simp only [OkD, hk]; exact ⟨b, rfl⟩, (fun _ => by simp only [SzD, hk]), by simp only [bulkL, bulkD]; exact bulkW_pos _⟩
    · rename_i hk
      unfold DataW.trod at hx
      rw [HL.str hk] at hx
      split at hx <;> simp_all
      rename_i s
      refine ⟨[.str s], ImmL.one (.str _), by simp, ?_, fun hz => ?_, ?_⟩
      · simp only [OkD, hk]
        refine ⟨s, rfl, ?_⟩
        have := hx.1
        simp only [maxLen] at this
        omega
      · simp only [SzD, hk]
        refine ⟨s, rfl, ?_⟩
        rw [← hx.2] at hz
        simpa [DataW.weights, reachBytes] using hz
      · rw [← hx.2]
        simp [bulkL, bulkD, bulkW]
    · rename_i e hk
      simp only [Bool.and_eq_true, beq_iff_eq, decide_eq_true_eq] at ht
      obtain ⟨⟨h1, h2⟩, h3⟩ := ht
      have hce := HL.cellsOf h2
      unfold DataW.trod at hx
      rw [HL.slice hk] at hx
      split at hx <;> (try simp_all; done) <;> rename_i hu <;> (try simp at hu)
      · refine ⟨[.list .imm []], ImmL.one (.nils _ _), by simp [h1], ?_, fun _ => ?_, by simp only [bulkL, bulkD, bulkLL]; exact bulkW_pos _⟩
        · simp only [OkD, hk]
          exact ⟨[], rfl, by simp, fun r hr => nomatch hr⟩
        · simp only [SzD, hk]
          exact ⟨[], rfl, by simp, fun r hr => nomatch hr⟩
      · subst hu
        rename_i a len cap
        simp only at hx
        rw [Option.ite_none_right_eq_some] at hx
        obtain ⟨⟨_, hlc, hcap⟩, hx⟩ := hx
        rw [Option.bind_eq_some_iff] at hx
        obtain ⟨elems, hel, hx2⟩ := hx
        rw [Option.map_eq_some_iff] at hx2
        obtain ⟨rest, _, rfl⟩ := hx2
        have hget := fun i (hi : i < len) => mapM_some_get hel i i (by simp [hi])
        have hlen : elems.length = len := by simpa using mapM_some_length hel
        -- each element's cells
        generalize hwd : ((DataW.slice (elems.map (·.1)) (rest.map (·.1))).weights P t).all (· ≤ reachBytes) = wB
        have hwe : wB = true → len * L.bytes e ≤ reachBytes ∧ ∀ y, y ∈ elems → (y.1.weights P e).all (· ≤ reachBytes) = true := fun h => by
          rw [← hwd, DataW.weights, HL.slice hk, List.all_cons, Bool.and_eq_true, List.all_append, Bool.and_eq_true, decide_eq_true_eq, HL.bytesOf h2] at h
          refine ⟨Nat.le_trans (Nat.mul_le_mul_right _ (by simp [hlen])) h.1, fun y hy => weightsAll_mem h.2.1 y.1 (List.mem_map_of_mem hy)⟩
        generalize hwO : (wB = true) = wOK at hwe
        have each : ∀ i, i < len → ∃ (r : List D) (us : List Value), W.cells? 0 (a.add (i * L.size e)) (L.size e) = some us ∧ ImmL W r us ∧ r.length = L.size e ∧ OkD L n e r ∧ (wOK → SzD L n e r) ∧ (∀ y, elems[i]? = some y → bulkL r ≤ bulkW y.1) := fun i hi => by
          have h4 := hget i hi
          rw [hce] at h4
          have h5 : (elems[i]?).isSome := by simp [hlen, hi]
          rw [← h4, Option.isSome_bind] at h5
          cases hus : W.cells? 0 (a.add (i * L.size e)) (L.size e) with
          | none => rw [hus] at h4; simp at h4; omega
          | some us =>
            rw [hus] at h4
            simp only [Option.bind_some] at h4
            cases hy : DataW.trod enc P W 0 (fun _ => true) true fuel e us with
            | none => rw [hy] at h4; simp at h4; omega
            | some y =>
              obtain ⟨r, q1, q2, q3, q4, q5⟩ := ih e h3 fuel us y hy
              rw [hy] at h4
              refine ⟨r, us, rfl, q1, q2, q3, fun hw => q4 ((hwe hw).2 y (List.mem_of_getElem? h4.symm)), fun y' hy' => ?_⟩
              rw [← h4] at hy'
              cases hy'
              exact q5
        have hch : ∀ i, ∃ r : List D, i < len → ∃ us, W.cells? 0 (a.add (i * L.size e)) (L.size e) = some us ∧ ImmL W r us ∧ r.length = L.size e ∧ OkD L n e r ∧ (wOK → SzD L n e r) ∧ (∀ y, elems[i]? = some y → bulkL r ≤ bulkW y.1) := fun i => by
          by_cases hi : i < len
          · obtain ⟨r, us, h⟩ := each i hi; exact ⟨r, fun _ => ⟨us, h⟩⟩
          · exact ⟨[], fun h => absurd h hi⟩
        have hch' := fun i => Classical.choose_spec (hch i)
        generalize hR : (fun i => Classical.choose (hch i)) = R at hch'
        have hRi : ∀ i, i < len → ∃ us, W.cells? 0 (a.add (i * L.size e)) (L.size e) = some us ∧ ImmL W (R i) us ∧ (R i).length = L.size e ∧ OkD L n e (R i) ∧ (wOK → SzD L n e (R i)) ∧ (∀ y, elems[i]? = some y → bulkL (R i) ≤ bulkW y.1) := fun i hi => by rw [← hR]; exact Classical.choose_spec (hch i) hi
        refine ⟨[.list .imm ((List.range len).map R)], ImmL.one ?_, by simp [h1], ?_, fun hz => ?_, ?_⟩
        · rw [imm_list]
          by_cases h0 : len = 0
          · subst h0
            exact .inl ⟨by simp, _, _, rfl⟩
          · have hpos : 0 < len := by omega
            obtain ⟨us0, hus0, hi0, hl0, _⟩ := hRi 0 hpos
            obtain ⟨_, hul, hcell⟩ := World.cells?_some hus0
            have hc0 := hcell 0 h2
            have hu0 : us0[0]? = some (us0[0]'(by omega)) := List.getElem?_eq_getElem (by omega)
            rw [hu0] at hc0
            have hadd0 : (a.add (0 * L.size e)).add 0 = a := by simp [Addr.add]
            rw [hadd0] at hc0
            have hspot := World.cell?_spot hc0
            have hblk : a.block < W.heap.size := by
              refine Classical.byContradiction fun hn => ?_
              have : W.heap[a.block]? = none := by simp; omega
              simp [World.cell?, this] at hc0
            obtain ⟨ab, ao, as⟩ := a
            simp only at hspot hblk
            subst hspot
            refine .inr ⟨ab, ao, cap, L.size e, by simp, by simpa using hpos, h2, by simpa using hlc, hblk, fun r hr => ?_, fun j c r d hr hd => ?_⟩
            · obtain ⟨i, hi, rfl⟩ := List.mem_map.1 hr
              obtain ⟨us, _, _, q, _⟩ := hRi i (by simpa using hi)
              exact q
            · rw [List.getElem?_map] at hr
              obtain ⟨i, hi, rfl⟩ := Option.map_eq_some_iff.1 hr
              have hi' : j < len ∧ j = i := by
                have hj : j < len := by have := (List.getElem?_eq_some_iff.1 hi).1; simpa using this
                rw [List.getElem?_range hj] at hi
                exact ⟨hj, by simpa using hi⟩
              obtain ⟨hj, rfl⟩ := hi'
              obtain ⟨us, q1, q2, q3, _, _, _⟩ := hRi j hj
              obtain ⟨_, q4, q5⟩ := World.cells?_some q1
              have hc : c < L.size e := by rw [← q3]; exact (List.getElem?_eq_some_iff.1 hd).1
              have hu : us[c]? = some (us[c]'(by omega)) := List.getElem?_eq_getElem (by omega)
              refine ⟨us[c]'(by omega), ?_, q2.2 c d _ hd hu⟩
              have := q5 c hc
              rw [hu] at this
              rw [← this]
              congr 1
              simp only [Addr.add]
              split <;> split <;> simp_all <;> omega
        · simp only [OkD, hk]
          refine ⟨_, rfl, ?_, fun r hr => ?_⟩
          · simp only [List.length_map, List.length_range]
            have : maxLen = 9223372036854775807 := rfl
            omega
          · obtain ⟨i, hi, rfl⟩ := List.mem_map.1 hr
            obtain ⟨us, _, _, q3, q4, _⟩ := hRi i (by simpa using hi)
            exact ⟨q3, q4⟩
        · have hz' : wOK := hz
          simp only [SzD, hk]
          refine ⟨_, rfl, ?_, fun r hr => ?_⟩
          · simp only [List.length_map, List.length_range]
            have := (hwe hz').1
            simpa [reachBytes] using this
          · obtain ⟨i, hi, rfl⟩ := List.mem_map.1 hr
            obtain ⟨us, _, _, _, _, q5, _⟩ := hRi i (by simpa using hi)
            exact q5 hz'
        · have hb := bulkLL_range R len elems (by omega) (fun i y hi hy => by
            obtain ⟨us, _, _, _, _, _, q6⟩ := hRi i hi
            exact q6 y hy)
          rw [List.take_of_length_le (by omega)] at hb
          simp only [bulkL, bulkD, bulkW]
          omega
    · rename_i fs hk
      simp only [Bool.and_eq_true, decide_eq_true_eq] at ht
      obtain ⟨h1, h2⟩ := ht
      obtain ⟨gs, hu, rfl⟩ := HL.struct hk
      obtain ⟨xs, m, hm, hxe, hl, hxl, hget⟩ := DataW.trod_struct hu hx
      cases hm
      rw [HL.cellsOf h1] at hl
      generalize hwd : ((DataW.agg (xs.map (·.1))).weights P t).all (· ≤ reachBytes) = wB
      have hwe : wB = true → ∀ (i : Nat) g y, gs[i]? = some g → xs[i]? = some y → (y.1.weights P g.type).all (· ≤ reachBytes) = true := fun h i g y hg hy => by
        rw [← hwd, DataW.weights, hu] at h
        exact weightsEach_get h i g.type y.1 (by simp [hg]) (by simp [hy])
      have hall : ∀ (i : Nat) (g : Field) (y : DataW H × List MemPlace), gs.toList[i]? = some g → xs[i]? = some y → DataW.trod enc P W 0 (fun _ => true) true fuel g.type ((vs.drop g.offset).take (P.cellsOf g.type)) = some y ∧ (wB = true → (y.1.weights P g.type).all (· ≤ reachBytes) = true) := fun i g y hg hy => by
        have h3 : gs[i]? = some g := by simpa using hg
        have h4 := hget i g h3
        exact ⟨by rw [h4, hy], fun hw => hwe hw i g _ h3 hy⟩
      have key : ∀ (gl : List Field) (o : Nat) (ys : List (DataW H × List MemPlace)), ys.length = gl.length → (∀ (i : Nat) (g : Field) (y : DataW H × List MemPlace), gl[i]? = some g → ys[i]? = some y → DataW.trod enc P W 0 (fun _ => true) true fuel g.type ((vs.drop g.offset).take (P.cellsOf g.type)) = some y ∧ (wB = true → (y.1.weights P g.type).all (· ≤ reachBytes) = true)) → (match treeFs L (treeT L n) (gl.map fun f => (f.offset, f.type)) o with | some o => o == L.size t | none => false) = true →
          ∃ cs, ImmL W cs (vs.drop o) ∧ OkFs L (OkD L n) (gl.map fun f => (f.offset, f.type)) cs ∧ (wB = true → OkFs L (SzD L n) (gl.map fun f => (f.offset, f.type)) cs) ∧ bulkL cs ≤ bulkWA (ys.map (·.1)) := by
        intro gl
        induction gl with
        | nil =>
          intro o ys _ _ ho
          simp [treeFs] at ho
          subst ho
          refine ⟨[], ?_, rfl, (fun _ => rfl), by simp [bulkL]⟩
          rw [List.drop_of_length_le (by omega)]
          exact ImmL.nil
        | cons g gl ihg =>
          intro o ys hyl hg ho
          obtain ⟨y, ys, rfl⟩ : ∃ y r, ys = y :: r := by
            cases ys with
            | nil => simp at hyl
            | cons y r => exact ⟨y, r, rfl⟩
          simp only [List.map_cons, treeFs] at ho
          split at ho
          · rename_i o' ho'
            rw [Option.ite_none_right_eq_some] at ho'
            obtain ⟨hc, ho'⟩ := ho'
            simp only [Bool.and_eq_true, beq_iff_eq] at hc
            obtain ⟨hof, htr⟩ := hc
            obtain ⟨hy, hyw⟩ := hg 0 g y rfl rfl
            have hs := treeT_size htr
            rw [HL.cellsOf hs, hof] at hy
            obtain ⟨r, q1, q2, q3, q6, q8⟩ := ih g.type htr fuel _ y hy
            obtain ⟨cs, q4, q5, q7, q9⟩ := ihg (o + L.size g.type) ys (by simpa using hyl) (fun i g' y' h1 h2 => hg (i + 1) g' y' (by simpa using h1) (by simpa using h2)) (by rw [ho']; exact ho)
            refine ⟨r ++ cs, ?_, ⟨r, cs, rfl, q2, q3, q5⟩, (fun hw => ⟨r, cs, rfl, q2, q6 (hyw hw), q7 hw⟩), by rw [bulkL_app]; simp only [List.map_cons, bulkWA]; omega⟩
            have := q1.append q4
            rwa [← List.drop_drop, List.take_append_drop] at this
          · cases ho
      obtain ⟨cs, q1, q2, q3, q9⟩ := key gs.toList 0 xs (by rw [hxl]; simp) hall h2
      rw [List.drop_zero] at q1
      refine ⟨cs, q1, by rw [q1.1, hl], ?_, fun hz => ?_, ?_⟩
      rotate_right
      · rw [hxe]
        simp only [bulkW]
        omega
      · simp only [OkD, hk]
        exact q2
      · simp only [SzD, hk]
        exact q3 (by rw [← hwd]; rw [hxe] at hz; exact hz)
    · cases ht

noncomputable def argD (L : Ly) (t : Nat) (cs : List D) : D := if L.agg t then .agg cs else cs.headD .nil

end

end Go.Lv

namespace Go.Lv
open Go Go.ChangeShapes Go.WideShapes Go.ChangeAt Go.RowKit

noncomputable def OkDs (L : Ly) : List Nat → List (List D) → Prop
  | [], [] => True
  | t :: ts, c :: cs => (OkD L 12 t c ∧ c.length = L.size t) ∧ OkDs L ts cs
  | _, _ => False
noncomputable def SzDs (L : Ly) : List Nat → List (List D) → Prop
  | t :: ts, c :: cs => SzD L 12 t c ∧ SzDs L ts cs
  | _, _ => True
noncomputable def argsD (L : Ly) : List Nat → List (List D) → List D
  | t :: ts, c :: cs => argD L t c :: argsD L ts cs
  | _, _ => []
noncomputable def parOK (P : Program) (L : Ly) (t : Nat) : Bool := treeT L 12 t && P.readableRec t && decide (t < P.types.size)

section
variable {P : Program} {L : Ly} {H : Type} {enc : TypeId × Value → H} {W : World}

noncomputable def GW (W : World) : Gh := ⟨fun _ => none, fun _ => 0, fun _ => none, fun _ => 0, stW W, fun _ => (0, 0)⟩

theorem imm_vcW {be : Nat → Option Nat} {st : Nat → Nat → Prop} {d : D} {v : Value} (h : Imm W be st d v) {G : Gh} (h1 : G.be = be) (h2 : G.st = st) (m : Mt) (p : Place) : VC W G m p d v := by
  subst h1; subst h2
  cases h with
  | int => exact .int _ _
  | bool => exact .bool _
  | str => exact .str _
  | nil => exact .nil
  | gptr k off b h => exact .gptr _ _ _ h
  | nilmap => exact .nilmap
  | map k b h => exact .map _ _ h
  | nilfn => exact .nilfn
  | fn f ds vs hl h => exact .fn _ _ _ hl h
  | nils a cap => exact .nils _ _
  | list xs b off cap sz vals h1 h2 h3 h4 h5 h6 h7 => exact .list xs b off cap sz vals h1 h2 h3 h4 h5 h6 h7

theorem okD_noagg {n t : Nat} {cs : List D} (h : OkD L n t cs) (ha : L.agg t = false) : ∃ c, cs = [c] ∧ (∀ es, c ≠ .agg es) ∧ ∀ es, c ≠ .tup es := by
  cases n with
  | zero => exact h.elim
  | succ n =>
    unfold OkD at h
    split at h
    · obtain ⟨i, rfl, _⟩ := h; exact ⟨_, rfl, fun _ e => (nomatch e), fun _ e => (nomatch e)⟩
    · obtain ⟨i, rfl⟩ := h; exact ⟨_, rfl, fun _ e => (nomatch e), fun _ e => (nomatch e)⟩
    · obtain ⟨i, rfl, _⟩ := h; exact ⟨_, rfl, fun _ e => (nomatch e), fun _ e => (nomatch e)⟩
    · obtain ⟨i, rfl, _⟩ := h; exact ⟨_, rfl, fun _ e => (nomatch e), fun _ e => (nomatch e)⟩
    · rename_i fs hk; simp [Ly.agg, hk] at ha
    · exact h.elim

theorem arg_vt (HL : LyOK P L) {t : Nat} {v : Value} {base : Nat} {d : DataW H} {ps : List MemPlace} (ht : treeT L 12 t = true) (hok : Value.okWide P W .any base t v) (h : DataW.Trod enc P W 0 (fun _ => true) true t v d ps) :
    ∃ cs, OkD L 12 t cs ∧ cs.length = L.size t ∧ (∀ m r, VT W (GW W) m r (argD L t cs) v) ∧ ((d.weights P t).all (· ≤ reachBytes) = true → SzD L 12 t cs) ∧ bulkL cs ≤ bulkW d := by
  obtain ⟨fuel, hf⟩ := h
  obtain ⟨cs, h1, h2, h3, hz, hbk⟩ := trod_okD HL 12 t ht fuel _ _ hf
  refine ⟨cs, h3, h2, fun m r => ?_, hz, hbk⟩
  have hund : ∃ u, P.underlying t = some u ∧ aggU u = L.agg t := by
    have hne : L.tk t ≠ .other := by intro e; unfold treeT at ht; rw [e] at ht; cases ht
    obtain ⟨dt, hdt, htk⟩ := tk_has hne
    obtain ⟨i, u, _, q2, q3, q4, _⟩ := HL t dt hdt
    refine ⟨u, q2, ?_⟩
    unfold Ly.agg
    rw [htk]
    cases hk : dt.k <;> rw [hk] at q3 <;> cases u <;> simp_all [tkOK, aggU, Tk.isAgg]
  obtain ⟨u, hu, hau⟩ := hund
  unfold argD
  cases ha : L.agg t with
  | true =>
    rw [ha] at hau
    obtain ⟨vs, rfl, _⟩ : ∃ cs, v = .agg cs ∧ True := by
      unfold Value.okWide at hok
      rw [hu] at hok
      cases u with
      | struct fs => obtain ⟨cs, e, _⟩ := hok; exact ⟨cs, e, trivial⟩
      | array n e => obtain ⟨cs, e, _⟩ := hok; exact ⟨cs, e, trivial⟩
      | _ => cases hau
    refine ⟨vs.toList, by simp, by rw [h1.1]; rfl, fun j c w hc hw => ?_⟩
    exact imm_vcW (h1.2 j c w hc hw) rfl rfl m _
  | false =>
    rw [ha] at hau
    obtain ⟨c, rfl, hc1, hc2⟩ := okD_noagg h3 ha
    have hv : v.cells.toList = [v] := by
      cases v with
      | agg cs =>
        exfalso
        unfold Value.okWide at hok
        rw [hu] at hok
        cases u <;> simp_all [Cell.okWide, Cell.ok, aggU]
      | _ => rfl
    rw [hv] at h1
    have hi := h1.2 0 c v rfl rfl
    have hvc := imm_vcW hi (G := GW W) rfl rfl m ⟨r, 0, 0⟩
    simp only [Bool.false_eq_true, if_false, List.headD_cons]
    cases c with
    | agg es => exact absurd rfl (hc1 es)
    | tup es => exact absurd rfl (hc2 es)
    | _ => exact hvc

theorem args_vtZ (HL : LyOK P L) : ∀ (ts : List Nat) (vs : List Value) (ds : List (DataW H)) (ps : List MemPlace) {base : Nat}, (∀ t, t ∈ ts → treeT L 12 t = true) → (∀ (j : Nat) t v, ts[j]? = some t → vs[j]? = some v → Value.okWide P W .any base t v) →
    DataW.TrodAll enc P W 0 (fun _ => true) true ts vs ds ps → ∃ css, OkDs L ts css ∧ (argsD L ts css).length = vs.length ∧ (∀ (j : Nat) (d : D) (v : Value), (argsD L ts css)[j]? = some d → vs[j]? = some v → ∀ m r, VT W (GW W) m r d v) ∧
      ((DataW.weightsEach P ts ds).all (· ≤ reachBytes) = true → SzDs L ts css) ∧ bulkLL css ≤ bulkWA ds
  | [], vs, ds, ps, base, _, _, h => by
    obtain ⟨rfl, rfl, rfl⟩ := trodAll_nil h
    exact ⟨[], trivial, rfl, (fun j d v hd => by simp [argsD] at hd), (fun _ => trivial), by simp [bulkLL]⟩
  | t :: ts, vs, ds, ps, base, ht, hok, h => by
    obtain ⟨v, vs', d, ds', p, q, rfl, rfl, rfl, h1, h2⟩ := trodAll_cons h
    obtain ⟨cs, c1, c2, c3, c4, c5⟩ := arg_vt HL (ht t (by simp)) (hok 0 t v rfl rfl) h1
    obtain ⟨css, d1, d2, d3, d4, d5⟩ := args_vtZ HL ts vs' ds' q (fun t' h' => ht t' (by simp [h'])) (fun j t' v' h1 h2 => hok (j + 1) t' v' (by simpa using h1) (by simpa using h2)) h2
    refine ⟨cs :: css, ⟨⟨c1, c2⟩, d1⟩, by simp [argsD, d2], fun j d' v' hd hv => ?_, (fun hz => ?_), by simp only [bulkLL, bulkWA]; omega⟩
    · cases j with
      | zero => simp [argsD] at hd hv; subst hd; subst hv; exact c3
      | succ j => simp [argsD] at hd hv; exact d3 j d' v' hd hv
    · rw [DataW.weightsEach, List.all_append, Bool.and_eq_true] at hz
      exact ⟨c4 hz.1, d4 hz.2⟩

theorem Rel.top {ds : List D} {vs : List Value} {n : Nat} (hl : ds.length = vs.length) (hn : vs.length ≤ n) (hv : ∀ (j : Nat) (d : D) (v : Value), ds[j]? = some d → vs[j]? = some v → ∀ m r, VT W (GW W) m r d v) :
    Rel ⟨n, 0, 0, W, GW W, []⟩ (GW W) (s0 0 ds []) (Frm n vs) W where
  size := by simp [Frm]; omega
  defers := rfl
  env t d ht := by
    have h1 : (num 0 ds).length = ds.length := by
      have : ∀ (k : Nat) (l : List D), (num k l).length = l.length := by
        intro k l; induction l generalizing k with
        | nil => rfl
        | cons a l ih => simp [num, ih]
      exact this 0 ds
    have ht' : lk t (num 0 ds) = some d := ht
    rw [lk_num, if_pos (Nat.zero_le _), Nat.sub_zero] at ht'
    have hlt : t < vs.length := by rw [← hl]; exact (List.getElem?_eq_some_iff.1 ht').1
    have e : (Frm n vs).tmps.getD t undef = vs[t] := by
      simp [Frm, Array.getD_eq_getD_getElem?, Array.getElem?_append, hlt]
    rw [e]
    exact hv t d _ ht' (List.getElem?_eq_getElem hlt) _ _
  loc t cs h := by simp [s0, lk_nil] at h
  sto k o h := by simp [s0] at h
  be k _ := rfl
  new b hb := ⟨rfl, fun e he => by have : b < W.heap.size := he; omega⟩
  stow b e _ := rfl
  std b e e' h _ := h
  old b hb _ := ⟨rfl, rfl, fun e h => h⟩
  os := rfl
  tape := rfl
  output := rfl
  grow := Nat.le_refl _
  ro := Nat.zero_le _
  rom := rfl
  be0 k h := rfl
  n0 := Nat.le_refl _
  la0 t h := by cases h

theorem trodAll_stays (hlaid : laidOutB P = true) {W' : World} (hb : Below W.heap.size W W') : ∀ (ts : List Nat) (vs : List Value) (ds : List (DataW H)) (ps : List MemPlace), (∀ t, t ∈ ts → P.readableRec t = true ∧ t < P.types.size) → (∀ x ∈ ps, x.block < W.heap.size) →
    DataW.TrodAll enc P W 0 (fun _ => true) true ts vs ds ps → DataW.TrodAll enc P W' 0 (fun b => decide (b < W.heap.size)) true ts vs ds ps
  | [], vs, ds, ps, _, _, h => by
    obtain ⟨rfl, rfl, rfl⟩ := trodAll_nil h
    rfl
  | t :: ts, vs, ds, ps, ht, hlt, h => by
    obtain ⟨v, vs', d, ds', p, q, rfl, rfl, rfl, h1, h2⟩ := trodAll_cons h
    refine ⟨p, q, Below.trod hlaid (ht t (by simp)).1 (ht t (by simp)).2 h1 hb (fun x hx => hlt x (by simp [hx])), trodAll_stays hlaid hb ts vs' ds' q (fun t' h' => ht t' (by simp [h'])) (fun x hx => hlt x (by simp [hx])) h2, rfl⟩

theorem row_callsZ (HL : LyOK P L) (hlaid : laidOutB P = true) {k : Nat} {fn : Func} {tb : Nat} {s : ChangeSpec} (hf : P.funcs[k]? = some fn) (hres : fn.resultTypes = #[tb]) (htb : L.tk tb = .bool) (hpar : fn.params.toList.all (parOK P L) = true) (hvars : s.vars = [])
    (hs : ∀ (H : Type) (ds : List (DataW H)), ds.length = fn.params.size → s.fn H ds = { results := [.lit (.bool true)], args := ds })
    (hT : ∀ css, OkDs L fn.params.toList css → SzDs L fn.params.toList css → Tri P k 0 (argsD L fn.params.toList css) [] (fun d _ => d = .bool true))
    (W : World) (base : Nat) (args : Array Value) (ds gs : List (DataW H)) (before : List MemPlace)
    (hval : ∀ (j : Nat) t v, fn.params[j]? = some t → args[j]? = some v → Value.okWide P W .any base t v)
    (hW : DataW.Whole enc P fn.params.toList s.vars false W args.toList ds gs before)
    (hZ : (DataW.weightsEach P (fn.params.toList ++ s.plain.varTypes P) (ds ++ gs)).all (· ≤ reachBytes) = true) :
    Calls P k args W fun e W' => ∃ v, e = .returned v ∧ s.post enc P fn false true false false W args v W' := by
  have hW' := hW
  obtain ⟨p, q, hA, hV, hpq, hfz, hnd⟩ := hW
  rw [hvars] at hV
  obtain ⟨rfl, rfl⟩ := trodVars_none hV
  have hpar' : ∀ t, t ∈ fn.params.toList → treeT L 12 t = true ∧ P.readableRec t = true ∧ t < P.types.size := fun t ht => by
    have := List.all_eq_true.1 hpar t ht
    simp only [parOK, Bool.and_eq_true, decide_eq_true_eq] at this
    exact ⟨this.1.1, this.1.2, this.2⟩
  have hZ' : (DataW.weightsEach P fn.params.toList ds).all (· ≤ reachBytes) = true := by
    have hv0 : s.plain.varTypes P = [] := by
      simp [DataSpec.varTypes, ChangeSpec.plain, hvars]
    rwa [hv0, List.append_nil, List.append_nil] at hZ
  obtain ⟨css, c1, c2, c3, c4, _⟩ := args_vtZ (base := base) HL fn.params.toList args.toList ds p (fun t ht => (hpar' t ht).1) (fun j t v h1 h2 => hval j t v (by simpa using h1) (by simpa using h2)) hA
  obtain ⟨fn', hf', hb, hlen, hro, hcall⟩ := hT css c1 (c4 hZ')
  have e : fn' = fn := by rw [hf] at hf'; exact (Option.some.inj hf').symm
  subst e
  have hstart := Rel.top (W := W) (n := fn'.ntmps) c2 (by rw [← c2]; exact hlen) c3
  have := hcall (GW W) W args.toList c2.symm hstart
  rw [Array.toArray_toList] at this
  refine this.mono fun e W' he => ?_
  cases e with
  | panicked c => exact he.elim
  | outgrown => exact he.elim
  | returned v =>
    obtain ⟨d, s', G', a', rfl, hR, hv⟩ := he
    have hvb : v = .bool true := inv_bool hv
    subst hvb
    refine ⟨_, rfl, ?_⟩
    have hlt := hW'.lt
    have hbelow : Below W.heap.size W W' := ⟨hR.os, hR.tape, hR.output, hR.grow, fun k hk => (hR.old k hk rfl).1⟩
    have hdl : ds.length = fn'.params.size := by
      have : ∀ (ts : List Nat) (vs : List Value) (ds : List (DataW H)) (ps : List MemPlace), DataW.TrodAll enc P W 0 (fun _ => true) true ts vs ds ps → ds.length = ts.length := by
        intro ts
        induction ts with
        | nil => intro vs ds ps h; obtain ⟨_, rfl, _⟩ := trodAll_nil h; rfl
        | cons t ts ih => intro vs ds ps h; obtain ⟨v, vs', d, ds', p, q, rfl, rfl, rfl, h1, h2⟩ := trodAll_cons h; simp [ih _ _ _ h2]
      simpa using this _ _ _ _ hA
    have hfn := hs H ds hdl
    refine ⟨ds, [], before, [], before, [], hW', ?_, ?_, ?_, ?_, fun h => by cases h⟩
    · rw [List.append_nil, hfn, hres]
      exact trodAll_mk1 ⟨1, by simp [DataW.trod, HL.bool htb, Value.cells]⟩
    · rw [List.append_nil, hfn]
      rw [hpq, List.append_nil]
      exact trodAll_stays hlaid hbelow _ _ _ _ (fun t ht => (hpar' t ht).2) (fun x hx => hlt x (by rw [hpq, List.append_nil]; exact hx)) hA
    · rw [hvars]
      rw [List.append_nil, hfn]
      rfl
    · refine ⟨hR.os, hR.output, fun i hi => ?_⟩
      rw [(hR.old i hi rfl).1]
      split <;> simp_all
end

end Go.Lv
