/-
  A28: all orders of a drawn region, walked.
-/
import Derived.Test.YtpfoccpolaggiaaA27
set_option linter.all false
namespace Go.Lv

section
variable {P : Program} {T : St} {X : Ctx} {G G' : Gh} {s s' s1 : DS} {a a' : Act} {w w' : World} {K K' : DS → Prop} {o : Oper} {ops : Array Oper} {Qc : Exit → Act → World → Prop}

theorem any_iff {α : Type} {p : α → Bool} {xs : Array α} : xs.any p = true ↔ ∃ x, x ∈ xs ∧ p x = true := by
  rw [← Array.any_toList, List.any_eq_true]
  constructor
  · rintro ⟨x, h1, h2⟩; exact ⟨x, Array.mem_toList_iff.1 h1, h2⟩
  · rintro ⟨x, h1, h2⟩; exact ⟨x, Array.mem_toList_iff.2 h1, h2⟩

theorem roV_noOwn {i : Nat} {d : D} (h : roV T ops s i = some d) : hasOwn d = false := by
  unfold roV at h
  split at h
  · cases h
  · split at h
    · cases h
    · simp only at h
      rw [Option.ite_none_right_eq_some] at h
      obtain ⟨_, h⟩ := h
      split at h
      · rw [Option.ite_none_right_eq_some] at h
        obtain ⟨_, h⟩ := h
        split at h
        · split at h
          · rw [Option.ite_none_left_eq_some] at h
            obtain ⟨h1, h2⟩ := h
            cases h2
            simpa using h1
          · cases h
        · cases h
      · cases h; rfl
      · cases h

theorem rdy_iff {L : List Nat} {k : Nat} (hk : k < ops.size) : rdy ops L k = true ↔ ∀ i, waits ops k i = true → i ∈ L := by
  unfold rdy waits
  rw [Array.getElem?_eq_getElem hk]
  simp only
  constructor
  · intro h i hi
    rw [any_iff] at hi
    obtain ⟨e, he, hq⟩ := hi
    simp only [Bool.and_eq_true, beq_iff_eq] at hq
    have := Array.all_eq_true_iff_forall_mem.1 h e he
    rw [hq.1] at this
    simp only [Bool.not_true, Bool.false_or, List.contains_iff_mem] at this
    rw [← hq.2]
    exact this
  · intro h
    refine Array.all_eq_true_iff_forall_mem.2 fun e he => ?_
    cases hb : Region.binds .any e with
    | false => rfl
    | true =>
      simp only [Bool.not_true, Bool.false_or, List.contains_iff_mem]
      refine h e.on (any_iff.2 ⟨e, he, ?_⟩)
      simp [hb]

theorem ready_iff {listed : Array Bool} (hs : listed.size = ops.size) {k : Nat} : k ∈ Region.ready .any ops listed ↔ k < ops.size ∧ listed.getD k true = false ∧ ∀ i, waits ops k i = true → listed.getD i false = true := by
  rw [mem_ready]
  constructor
  · rintro ⟨h1, o, ho, h2⟩
    have hk := (Array.getElem?_eq_some_iff.1 ho).1
    refine ⟨hk, h1, fun i hi => ?_⟩
    unfold waits at hi
    rw [ho] at hi
    simp only at hi
    rw [any_iff] at hi
    obtain ⟨e, he, hq⟩ := hi
    simp only [Bool.and_eq_true, beq_iff_eq] at hq
    rw [← hq.2]
    exact h2 e he hq.1
  · rintro ⟨hk, h1, h2⟩
    refine ⟨h1, ops[k], Array.getElem?_eq_getElem hk, fun e he hb => h2 e.on ?_⟩
    unfold waits
    rw [Array.getElem?_eq_getElem hk]
    refine any_iff.2 ⟨e, he, ?_⟩
    simp [hb]

/-- What is listed: L, without what is only read ahead. -/
structure Lst (ops : Array Oper) (L Pn : List Nat) (listed : Array Bool) : Prop where
  size : listed.size = ops.size
  iff : ∀ k, k < ops.size → (listed.getD k false = true ↔ k ∈ L ∧ k ∉ Pn)
  cl : ∀ k i, k < ops.size → listed.getD k false = true → waits ops k i = true → listed.getD i false = true

theorem getD_lt {listed : Array Bool} {k : Nat} (h : k < listed.size) (x y : Bool) : listed.getD k x = listed.getD k y := by simp [h]

noncomputable def cnt (listed : Array Bool) : Nat := (listed.toList.filter fun b => !b).length
theorem cnt_set {listed : Array Bool} {k : Nat} (h : k < listed.size) (hf : listed.getD k true = false) : cnt (listed.setIfInBounds k true) + 1 = cnt listed := by
  unfold cnt
  have key : ∀ (l : List Bool) (k : Nat), l[k]? = some false → ((l.set k true).filter fun b => !b).length + 1 = (l.filter fun b => !b).length := by
    intro l
    induction l with
    | nil => intro k h; simp at h
    | cons x r ih =>
      intro k h
      cases k with
      | zero => simp at h; subst h; simp
      | succ k =>
        simp at h
        have := ih k h
        cases x <;> simp [List.set] <;> omega
  have hx : listed.toList[k]? = some false := by
    simp [h] at hf
    simp [h, hf]
  have := key listed.toList k hx
  simpa using this

theorem wf_lt (h : wfK ops = true) {k i : Nat} (hk : k < ops.size) (hw : waits ops k i = true) : i < k := by
  simp only [wfK, Bool.and_eq_true] at h
  have hi : i < ops.size := by
    unfold waits at hw
    rw [Array.getElem?_eq_getElem hk] at hw
    simp only at hw
    rw [any_iff] at hw
    obtain ⟨e, he, hq⟩ := hw
    simp only [Bool.and_eq_true, beq_iff_eq] at hq
    have h3 := Array.all_eq_true_iff_forall_mem.1 (List.all_eq_true.1 h.2 ops[k] (by simp)) e he
    rw [hq.1] at h3
    simp at h3
    omega
  have := List.all_eq_true.1 (List.all_eq_true.1 h.1.1 k (List.mem_range.2 hk)) i (List.mem_range.2 hi)
  rw [hw] at this
  simpa using this

/-- If nothing can be done next, nothing is left. -/
theorem none_left (hwf : wfK ops = true) {L Pn : List Nat} {listed : Array Bool} (hl : Lst ops L Pn listed) (hr : Region.ready .any ops listed = []) : ∀ k, k < ops.size → k ∈ L ∧ k ∉ Pn := by
  intro k
  induction k using Nat.strongRecOn with
  | _ k ih =>
    intro hk
    refine Classical.byContradiction fun hn => ?_
    have hm : k ∈ Region.ready .any ops listed := (ready_iff hl.size).2 ⟨hk, ?_, fun i hi => ?_⟩
    · rw [hr] at hm; cases hm
    · rw [getD_lt (by rw [hl.size]; exact hk) true false]
      cases hg : listed.getD k false with
      | false => rfl
      | true => exact absurd ((hl.iff k hk).1 hg) hn
    · have hik := wf_lt hwf hk hi
      exact (hl.iff i (by omega)).2 (ih i hik (by omega))

theorem Lst.step {L Pn : List Nat} {listed : Array Bool} (hl : Lst ops L Pn listed) {i : Nat} (hi : i < ops.size) {L' Pn' : List Nat} (h1 : ∀ k, k ∈ L' ↔ k ∈ L ∨ k = i) (h2 : ∀ k, k ∈ Pn' ↔ k ∈ Pn ∧ k ≠ i) (hw : ∀ i', waits ops i i' = true → listed.getD i' false = true) : Lst ops L' Pn' (listed.setIfInBounds i true) where
  size := by simp [hl.size]
  cl := fun k i' hk hg hwk => by
    have up : ∀ x, listed.getD x false = true → (listed.setIfInBounds i true).getD x false = true := fun x hx => by
      by_cases e : x = i
      · subst e
        simp [hl.size, hi]
      · have : (listed.setIfInBounds i true).getD x false = listed.getD x false := by
          simp [Array.getElem?_setIfInBounds_ne (fun q => e q.symm)]
        rw [this]; exact hx
    by_cases e : k = i
    · subst e
      exact up _ (hw i' hwk)
    · have : (listed.setIfInBounds i true).getD k false = listed.getD k false := by
        simp [Array.getElem?_setIfInBounds_ne (fun q => e q.symm)]
      rw [this] at hg
      exact up _ (hl.cl k i' hk hg hwk)
  iff := fun k hk => by
    by_cases e : k = i
    · subst e
      have : (listed.setIfInBounds k true).getD k false = true := by simp [hl.size, hk]
      rw [this]
      simp [h1, h2]
    · have : (listed.setIfInBounds i true).getD k false = listed.getD k false := by
        simp [Array.getElem?_setIfInBounds_ne (fun q => e q.symm)]
      rw [this, hl.iff k hk, h1, h2]
      simp [e]

theorem alone_spec {i t : Nat} (h : aloneK ops i = true) (ht : dstOf ops i = some t) {k : Nat} (hk : k < ops.size) (hne : k ≠ i) : dstOf ops k ≠ some t ∧ (t ∈ looks ops k → waits ops k i = true) := by
  unfold aloneK at h
  rw [ht] at h
  have := List.all_eq_true.1 h k (List.mem_range.2 hk)
  simp only [Bool.or_eq_true, beq_iff_eq, hne, false_or, Bool.and_eq_true, bne_iff_ne, ne_eq, Bool.not_eq_true'] at this
  refine ⟨this.1, fun hm => ?_⟩
  rcases this.2 with q | q
  · have : (looks ops k).contains t = true := List.contains_iff_mem.2 hm
    rw [q] at this
    cases this
  · exact q

/-- A pending read is run. -/
theorem pick_pend (H : LyOK P T.L) (hX : Fits T X) (hwf : wfK ops = true) {L Pn : List Nat} {listed : Array Bool} (hl : Lst ops L Pn listed) (hp : Pend T ops L Pn s) {i : Nat} (hi : i ∈ Pn) (hri : i ∈ Region.ready .any ops listed) (hR : Rel X G (minus (slots ops Pn) s) a w) :
    ∃ a', (∀ K', K' a' w → wpOp P ops Qc i K' a w) ∧ Rel X G (minus (slots ops (Pn.filter (· != i))) s) a' w ∧ Lst ops L (Pn.filter (· != i)) (listed.setIfInBounds i true) ∧ Pend T ops L (Pn.filter (· != i)) s := by
  obtain ⟨hL, hrd, hal, t, d, h1, h2, h3⟩ := hp.ok i hi
  obtain ⟨hnl, hisz⟩ := roV_looks h2 h1
  obtain ⟨_, _, hw⟩ := (ready_iff hl.size).1 hri
  obtain ⟨v, hrun, hput⟩ := Rel.read (ops := ops) (Qc := Qc) H hX hR h1 h2 h3 (fun u hu => by
    obtain ⟨k, hk, hkd⟩ := mem_slots.1 hu
    by_cases e : k = i
    · subst e
      rw [h1] at hkd
      cases hkd
      exact hnl
    · intro hm
      have hkp := hp.ok k hk
      obtain ⟨_, _, halk, _⟩ := hkp
      have := (alone_spec halk hkd hisz (fun q => e q.symm)).2 hm
      have hk2 := hw k this
      have hksz : k < ops.size := by have := wf_lt hwf hisz this; omega
      exact ((hl.iff k hksz).1 hk2).2 hk) (mem_slots.2 ⟨i, hi, h1⟩)
  refine ⟨_, hrun, hput _ (fun u hu => ?_), hl.step hisz (fun k => ?_) (fun k => ?_) hw, ⟨fun k hk => hp.ok k ((List.mem_filter.1 hk).1), hp.pw.sublist List.filter_sublist⟩⟩
  · obtain ⟨k, hk, hkd⟩ := mem_slots.1 hu
    by_cases e : k = i
    · subst e
      rw [h1] at hkd
      cases hkd
      exact .inl rfl
    · exact .inr (mem_slots.2 ⟨k, List.mem_filter.2 ⟨hk, by simpa using e⟩, hkd⟩)
  · constructor
    · exact fun h => .inl h
    · rintro (h | rfl)
      · exact h
      · exact hL
  · simp [List.mem_filter]

theorem Sch.sound (H : LyOK P T.L) (hX : Fits T X) (hwf : wfK ops = true) (hQ : ∀ c a w, ¬ Qc (.panic c) a w) (hK : ∀ s' G' a' w', K s' → Rel X G' s' a' w' → Qc .normal a' w') :
    ∀ (f : Nat) (L V Pn : List Nat) (s : DS) (listed : Array Bool) (n : Nat) (G : Gh) (a : Act) (w : World), Sch P T ops f L V s K → Lst ops L Pn listed → Pend T ops L Pn s → (∀ i, i ∈ Pn → i ∈ V) → cnt listed ≤ n → Rel X G (minus (slots ops Pn) s) a w → wpAny P .any ops Qc n listed a w := by
  -- all is done, or read ahead
  have fin : ∀ (n : Nat) (L Pn : List Nat) (s : DS) (listed : Array Bool) (G : Gh) (a : Act) (w : World), (∀ k, k < ops.size → k ∈ L) → K s → Lst ops L Pn listed → Pend T ops L Pn s → cnt listed ≤ n → Rel X G (minus (slots ops Pn) s) a w → wpAny P .any ops Qc n listed a w := by
    intro n
    induction n with
    | zero =>
      intro L Pn s listed G a w hall hKs hl hp hc hR
      have hno : Region.ready .any ops listed = [] := by
        cases hr : Region.ready .any ops listed with
        | nil => rfl
        | cons i r =>
          obtain ⟨h1, h2, _⟩ := (ready_iff hl.size).1 (show i ∈ Region.ready .any ops listed by rw [hr]; simp)
          have := cnt_set (by rw [hl.size]; exact h1) h2
          omega
      have hleft := none_left hwf hl hno
      have hPn : Pn = [] := by
        cases Pn with
        | nil => rfl
        | cons i r =>
          obtain ⟨_, _, _, t, d, h1, h2, _⟩ := hp.ok i (by simp)
          exact absurd (by simp) (hleft i (roV_looks h2 h1).2).2
      subst hPn
      exact ⟨hno, hK s G a w hKs hR⟩
    | succ n ih =>
      intro L Pn s listed G a w hall hKs hl hp hc hR
      refine ⟨fun hno => ?_, fun i hi => ?_⟩
      · have hleft := none_left hwf hl hno
        have hPn : Pn = [] := by
          cases Pn with
          | nil => rfl
          | cons i r =>
            obtain ⟨_, _, _, t, d, h1, h2, _⟩ := hp.ok i (by simp)
            exact absurd (by simp) (hleft i (roV_looks h2 h1).2).2
        subst hPn
        exact hK s G a w hKs hR
      · obtain ⟨h1, h2, _⟩ := (ready_iff hl.size).1 hi
        have hcs := cnt_set (by rw [hl.size]; exact h1) h2
        have hiP : i ∈ Pn := by
          refine Classical.byContradiction fun hn => ?_
          have := (hl.iff i h1).2 ⟨hall i h1, hn⟩
          rw [getD_lt (by rw [hl.size]; exact h1) true false, this] at h2
          cases h2
        obtain ⟨a', q1, q2, q3, q4⟩ := pick_pend (Qc := Qc) H hX hwf hl hp hiP hi hR
        exact q1 _ (ih L _ s _ G a' w hall hKs q3 q4 (by omega) q2)
  intro f
  induction f with
  | zero =>
    intro L V Pn s listed n G a w h hl hp hV hc hR
    obtain ⟨hall, hKs⟩ := h
    exact fin n L Pn s listed G a w hall hKs hl hp hc hR
  | succ f ih =>
    intro L V Pn s listed n
    have weak : ∀ (Pn : List Nat) (s : DS) (listed : Array Bool) (n : Nat) (G : Gh) (a : Act) (w : World), (∃ L' V' s1, (∀ k, k ∈ L' ↔ k ∈ L) ∧ (∀ k, k ∈ V → k ∈ V') ∧ LeS s s1 ∧ stillV T ops V s s1 ∧ Sch P T ops f L' V' s1 K) → Lst ops L Pn listed → Pend T ops L Pn s → (∀ i, i ∈ Pn → i ∈ V) → cnt listed ≤ n → Rel X G (minus (slots ops Pn) s) a w → wpAny P .any ops Qc n listed a w := by
      intro Pn s listed n G a w ⟨L', V', s1, hL, hV', hle, hst, hsch⟩ hl hp hV hc hR
      refine ih L' V' Pn s1 listed n G a w hsch ⟨hl.size, fun k hk => by rw [hl.iff k hk, hL], hl.cl⟩ ⟨fun i hi => ?_, hp.pw⟩ (fun i hi => hV' i (hV i hi)) hc (hR.le (hle.minus _))
      obtain ⟨k1, k2, k3, t', d', k4, k5, k6⟩ := hp.ok i hi
      obtain ⟨_, hksz⟩ := roV_looks k5 k4
      obtain ⟨s5, s6⟩ := hst i (hV i hi) t' d' k4 k5 k6
      exact ⟨(hL i).2 k1, (rdy_iff hksz).2 fun i hi => (hL i).2 ((rdy_iff hksz).1 k2 i hi), k3, t', d', k4, s5, s6⟩
    induction n generalizing Pn s listed with
    | zero =>
      intro G a w h hl hp hV hc hR
      have hno : Region.ready .any ops listed = [] := by
        cases hr : Region.ready .any ops listed with
        | nil => rfl
        | cons i r =>
          obtain ⟨h1, h2, _⟩ := (ready_iff hl.size).1 (show i ∈ Region.ready .any ops listed by rw [hr]; simp)
          have := cnt_set (by rw [hl.size]; exact h1) h2
          omega
      have hleft := none_left hwf hl hno
      rcases h with ⟨hall, hKs⟩ | ⟨i, t, d, hiL, ht, _, _, _, hv, _⟩ | ⟨⟨j, hj, hjL⟩, _⟩ | hw
      · exact fin 0 L Pn s listed G a w hall hKs hl hp hc hR
      · exact absurd (hleft i (roV_looks hv ht).2).1 hiL
      · exact absurd (hleft j hj).1 hjL
      · exact weak Pn s listed 0 G a w hw hl hp hV hc hR
    | succ n ihn =>
      intro G a w h hl hp hV hc hR
      rcases h with ⟨hall, hKs⟩ | ⟨i, t, d, hiL, ht, hrd, hal, hno, hv, hrest⟩ | ⟨⟨j0, hj0, hj0L⟩, hall⟩ | hw
      · exact fin (n + 1) L Pn s listed G a w hall hKs hl hp hc hR
      · -- read ahead
        obtain ⟨hnl, hisz⟩ := roV_looks hv ht
        have hown : hasOwn d = false := roV_noOwn hv
        have hps := putS_m (d := d) hno hown
        have hiPn : i ∉ Pn := fun q => hiL (hp.ok i q).1
        refine ih (i :: L) (i :: V) (i :: Pn) (putS t d s) listed (n + 1) G a w hrest ⟨hl.size, fun k hk => ?_, hl.cl⟩ ⟨fun k hk => ?_, ?_⟩ (fun k hk => ?_) hc ?_
        · rw [hl.iff k hk]
          simp only [List.mem_cons, not_or]
          constructor
          · rintro ⟨q1, q2⟩
            exact ⟨.inr q1, fun e => hiL (e ▸ q1), q2⟩
          · rintro ⟨q1, q2, q3⟩
            exact ⟨q1.resolve_left q2, q3⟩
        · rcases List.mem_cons.1 hk with rfl | hk
          · refine ⟨by simp, (rdy_iff hisz).2 fun i hi => List.mem_cons_of_mem _ ((rdy_iff hisz).1 hrd i hi), hal, t, d, ht, ?_, ?_⟩
            · rw [roV_putS hnl hno hown]; exact hv
            · rw [hps]; show lk t (ins t d s.env) = _; rw [lk_ins, if_pos rfl]
          · obtain ⟨k1, k2, k3, t', d', k4, k5, k6⟩ := hp.ok k hk
            obtain ⟨_, hksz⟩ := roV_looks k5 k4
            have hki : k ≠ i := fun e => hiPn (e ▸ hk)
            obtain ⟨b1, b2⟩ := alone_spec hal ht hksz hki
            have htk : t ∉ looks ops k := fun hm => hiL ((rdy_iff hksz).1 k2 i (b2 hm))
            refine ⟨by simp [k1], (rdy_iff hksz).2 fun i hi => List.mem_cons_of_mem _ ((rdy_iff hksz).1 k2 i hi), k3, t', d', k4, ?_, ?_⟩
            · rw [roV_putS htk hno hown]; exact k5
            · rw [hps]
              show lk t' (ins t d s.env) = _
              rw [lk_ins, if_neg]
              · exact k6
              · rintro rfl
                exact b1 k4
        · rw [List.pairwise_cons]
          refine ⟨fun k hk => ?_, hp.pw⟩
          obtain ⟨k1, k2, k3, t', d', k4, k5, k6⟩ := hp.ok k hk
          obtain ⟨_, hksz⟩ := roV_looks k5 k4
          have hki : k ≠ i := fun e => hiPn (e ▸ hk)
          have hwk : waits ops k i = false := by
            cases hwk : waits ops k i with
            | false => rfl
            | true => exact absurd ((rdy_iff hksz).1 k2 i hwk) hiL
          refine ⟨fun e => hki e.symm, hwk, fun t' ht' hm => ?_⟩
          rw [ht] at ht'
          cases ht'
          rw [(alone_spec hal ht hksz hki).2 hm] at hwk
          cases hwk
        · rcases List.mem_cons.1 hk with rfl | hk
          · simp
          · exact List.mem_cons_of_mem _ (hV k hk)
        · rw [hps, slots_cons ht]
          refine hR.less _ _ (fun u e hu => ?_) (fun _ _ h => h)
          have hu' : lk u (delAll (t :: slots ops Pn) (ins t d s.env)) = some e := hu
          rw [lk_delAll, Option.ite_none_left_eq_some] at hu'
          obtain ⟨h1, h2⟩ := hu'
          simp only [List.mem_cons, not_or] at h1
          rw [lk_ins, if_neg h1.1] at h2
          show lk u (delAll (slots ops Pn) s.env) = some e
          rw [lk_delAll, if_neg h1.2]
          exact h2
      · -- one of those that are ready
        refine ⟨fun hno => absurd (none_left hwf hl hno j0 hj0).1 hj0L, fun j hj => ?_⟩
        obtain ⟨h1, h2, hw⟩ := (ready_iff hl.size).1 hj
        have hcs := cnt_set (by rw [hl.size]; exact h1) h2
        by_cases hjP : j ∈ Pn
        · obtain ⟨a', q1, q2, q3, q4⟩ := pick_pend (Qc := Qc) H hX hwf hl hp hjP hj hR
          exact q1 _ (ihn _ s _ G a' w (.inr (.inr (.inl ⟨⟨j0, hj0, hj0L⟩, hall⟩))) q3 q4 (fun i hi => hV i ((List.mem_filter.1 hi).1)) (by omega) q2)
        · have hjL : j ∉ L := fun hm => by
            have := (hl.iff j h1).2 ⟨hm, hjP⟩
            rw [getD_lt (by rw [hl.size]; exact h1) true false, this] at h2
            cases h2
          have hwl : ∀ i, waits ops j i = true → i ∈ L ∧ i ∉ Pn := fun i hi => (hl.iff i (by have := wf_lt hwf h1 hi; omega)).1 (hw i hi)
          have hrd : rdy ops L j = true := (rdy_iff h1).2 fun i hi => (hwl i hi).1
          have hst := hall j h1 hjL hrd
          obtain ⟨tvs, e1, r1⟩ := preex (ops := ops) H hX Pn [] (fun i hi => (hp.ok i hi).2.2.2) (hp.pw.imp fun h => h.2.2) (fun i hi u hu => by cases hu) (by rw [List.append_nil]; exact hR)
          have r1' : Rel X G s (puts a tvs) w := r1
          have hoj : ops[j]? = some ops[j] := Array.getElem?_eq_getElem h1
          have hns : ∀ cs b, ops[j].op ≠ .select cs b := by
            intro cs b
            simp only [wfK, Bool.and_eq_true] at hwf
            exact Region.noSelect_spec hwf.1.2 j ops[j] cs b hoj
          have hrun := stepOk.run (Qc := Qc) hst hX r1' (Kc := fun a' w' => ∃ s1 G1, (stillV T ops (dropB ops j V) s s1 ∧ Sch P T ops f (j :: L) (dropB ops j V) s1 K) ∧ Rel X G1 s1 a' w') (fun s' G' a' w' q1 q2 => ⟨s', G', q1, q2⟩)
          have hrun2 := wpOp_puts hoj hns hQ tvs (fun t ht => by
            rw [e1] at ht
            obtain ⟨i, hi, hid⟩ := mem_slots.1 ht
            have hij : j ≠ i := fun e => hjP (e ▸ hi)
            obtain ⟨_, _, hal, _⟩ := hp.ok i hi
            obtain ⟨b1, b2⟩ := alone_spec hal hid h1 hij
            refine ⟨fun hm => ?_, fun hd => ?_⟩
            · have : t ∈ looks ops j := by unfold looks; rw [hoj]; exact hm
              exact (hwl i (b2 this)).2 hi
            · apply b1
              unfold dstOf
              rw [hoj]
              exact hd) hrun
          refine wpOp_mono (fun a' w' hq => ?_) hrun2
          obtain ⟨s1, G1, ⟨hstill, hsch⟩, hR1⟩ := hq
          have hR2 := hR1.unputs
          rw [e1] at hR2
          have hbef : ∀ (ks S : List Nat), (∀ m, m ∈ S → m = j ∨ (m < ops.size ∧ listed.getD m false = true)) → ∀ m, m ∈ befF ops ks S → m = j ∨ (m < ops.size ∧ listed.getD m false = true) := by
            intro ks
            induction ks with
            | nil => intro S hS m hm; exact hS m hm
            | cons k r ihk =>
              intro S hS m hm
              refine ihk _ (fun m hm => ?_) m hm
              split at hm
              · rename_i hany
                rcases List.mem_cons.1 hm with e | hm
                · subst e
                  obtain ⟨x, hx, hxk⟩ := List.any_eq_true.1 hany
                  rcases hS x hx with e | ⟨hx1, hx2⟩
                  · subst e
                    exact .inr ⟨by have := wf_lt hwf h1 hxk; omega, hw _ hxk⟩
                  · exact .inr ⟨by have := wf_lt hwf hx1 hxk; omega, hl.cl x _ hx1 hx2 hxk⟩
                · exact hS m hm
              · exact hS m hm
          have hVf : ∀ i, i ∈ Pn → i ∈ dropB ops j V := fun i hi => by
            refine List.mem_filter.2 ⟨hV i hi, ?_⟩
            cases hwi : (befF ops (List.range j).reverse [j]).contains i with
            | false => rfl
            | true =>
              rcases hbef _ [j] (fun m hm => .inl (by simpa using hm)) i (List.contains_iff_mem.1 hwi) with e | ⟨q1, q2⟩
              · exact absurd hi (e ▸ hjP)
              · exact absurd hi ((hl.iff i q1).1 q2).2
          refine ih (j :: L) _ Pn s1 _ n G1 a' w' hsch (hl.step h1 (fun k => by simp [or_comm]) (fun k => ?_) hw) ⟨fun i hi => ?_, hp.pw⟩ hVf (by omega) hR2
          · constructor
            · exact fun hk => ⟨hk, fun e => hjP (e ▸ hk)⟩
            · exact fun hk => hk.1
          · obtain ⟨k1, k2, k3, t', d', k4, k5, k6⟩ := hp.ok i hi
            obtain ⟨_, hksz⟩ := roV_looks k5 k4
            obtain ⟨s5, s6⟩ := hstill i (hVf i hi) t' d' k4 k5 k6
            exact ⟨by simp [k1], (rdy_iff hksz).2 fun i hi => List.mem_cons_of_mem _ ((rdy_iff hksz).1 k2 i hi), k3, t', d', k4, s5, s6⟩
      · exact weak Pn s listed (n + 1) G a w hw hl hp hV hc hR

theorem Rel.drew (h : Rel X G s a w) {n : Nat} : Rel X G s a { w with drawn := n } where
  size := h.size
  defers := h.defers
  env := fun t d ht => (Keeps.vt (w := w) (G := G) (m := s.m) (w' := { w with drawn := n }) (G' := G) (m' := s.m) (kp := fun _ => True) { be := fun _ _ h => h, st := fun _ _ h => h, cell := fun _ _ _ _ _ => rfl, ep := Nat.le_refl _, rv := fun _ => Nat.le_refl _, al := fun _ => Nat.le_refl _, era := Nat.le_refl _, rd := fun _ _ _ h => ⟨h, fun _ _ => rfl⟩, pl := fun _ _ _ => rfl, la := fun _ _ => rfl, own := fun _ _ _ h => ⟨h, rfl, fun _ => ⟨rfl, rfl⟩⟩, opl := fun _ _ => rfl, mp := fun _ k b es clock _ hh => ⟨es, clock, hh, fun i x hx => ⟨x, hx, rfl⟩⟩ } (fun _ _ _ _ _ _ _ => trivial) (h.env t d ht))
  loc := fun t cs ht => by
    obtain ⟨h1, h2⟩ := h.loc t cs ht
    refine ⟨h1, Keeps.box (w := w) (G := G) (m := s.m) (w' := { w with drawn := n }) (G' := G) (m' := s.m) (kp := fun _ => True) { be := fun _ _ h => h, st := fun _ _ h => h, cell := fun _ _ _ _ _ => rfl, ep := Nat.le_refl _, rv := fun _ => Nat.le_refl _, al := fun _ => Nat.le_refl _, era := Nat.le_refl _, rd := fun _ _ _ h => ⟨h, fun _ _ => rfl⟩, pl := fun _ _ _ => rfl, la := fun _ _ => rfl, own := fun _ _ _ h => ⟨h, rfl, fun _ => ⟨rfl, rfl⟩⟩, opl := fun _ _ => rfl, mp := fun _ k b es clock _ hh => ⟨es, clock, hh, fun i x hx => ⟨x, hx, rfl⟩⟩ } (fun _ _ _ _ => trivial) (fun _ => ⟨rfl, rfl⟩) h2⟩
  sto := fun k o hk => by
    obtain ⟨b, h1, h2, h3, h4⟩ := h.sto k o hk
    have K : Keeps w G s.m { w with drawn := n } G s.m (fun _ => True) := { be := fun _ _ h => h, st := fun _ _ h => h, cell := fun _ _ _ _ _ => rfl, ep := Nat.le_refl _, rv := fun _ => Nat.le_refl _, al := fun _ => Nat.le_refl _, era := Nat.le_refl _, rd := fun _ _ _ h => ⟨h, fun _ _ => rfl⟩, pl := fun _ _ _ => rfl, la := fun _ _ => rfl, own := fun _ _ _ h => ⟨h, rfl, fun _ => ⟨rfl, rfl⟩⟩, opl := fun _ _ => rfl, mp := fun _ k b es clock _ hh => ⟨es, clock, hh, fun i x hx => ⟨x, hx, rfl⟩⟩ }
    refine ⟨b, h1, h2, h3, ?_⟩
    cases o with
    | map es => exact h4
    | box cs =>
      simp only [ObV] at h4 ⊢
      split <;> rename_i hr
      · rw [if_pos hr] at h4
        intro j d hd
        obtain ⟨u, h5, h6⟩ := h4 j d hd
        exact ⟨u, h5, K.imm h6⟩
      · rw [if_neg hr] at h4
        exact K.box (fun _ _ _ _ => trivial) (fun _ => ⟨rfl, rfl⟩) h4
  be := h.be
  new := h.new
  stow := h.stow
  std := h.std
  old := h.old
  os := h.os
  tape := h.tape
  output := h.output
  grow := h.grow
  ro := h.ro
  rom := h.rom
  be0 := h.be0
  n0 := h.n0
  la0 := h.la0

/-- A region whose order is drawn. -/
theorem Ok.draw {fu : Nat} (H : LyOK P T.L) (hm : P.follows .mixedOrders = true) {id : Nat} {Q : Ex → DS → Prop} (hwf : wfK ops = true) (h : Sch P T ops fu [] [] s (fun s' => Q .nx s')) : Ok P T (.region id ops true) s Q := by
  intro X G a w hX hR
  refine wp_region_any hm ?_
  refine Sch.sound (Qc := fun e a' w' => ∃ x s' G', e = Ex.to x ∧ Q x s' ∧ Rel X G' s' a' w') H hX hwf (fun c a w => ?_) (fun s' G' a' w' h1 h2 => ⟨.nx, s', G', rfl, h1, h2⟩) fu [] [] [] s _ ops.size G a _ h ⟨by simp, fun k hk => ?_, fun k i hk hg => ?_⟩ ⟨fun i hi => (nomatch hi), List.Pairwise.nil⟩ (fun i hi => (nomatch hi)) ?_ hR.drew
  · rintro ⟨x, s', G', h1, _⟩
    cases x <;> cases h1
  · simp [hk]
  · simp [hk] at hg
  · unfold cnt
    refine Nat.le_trans (List.length_filter_le _ _) ?_
    simp

/-! ### The rules for a schedule -/
variable {f : Nat} {L V : List Nat}
theorem Sch.done (h1 : ∀ k, k < ops.size → k ∈ L) (h2 : K s) : Sch P T ops f L V s K := by
  cases f with
  | zero => exact ⟨h1, h2⟩
  | succ f => exact .inl ⟨h1, h2⟩
/-- Reading operations, ahead. -/
noncomputable def aheadD (T : St) (ops : Array Oper) : List Nat → List Nat → List Nat → DS → Option (List Nat × List Nat × DS)
  | [], L, V, s => some (L, V, s)
  | i :: r, L, V, s => match dstOf ops i with
    | none => none
    | some t => if !L.contains i && rdy ops L i && aloneK ops i && !ownAt t s.env then
        match roV T ops s i with
        | some d => aheadD T ops r (i :: L) (i :: V) (putS t d s)
        | none => none
      else none
theorem Sch.ahead : ∀ {is : List Nat} {L V : List Nat} {s : DS} {f : Nat} {L' V' : List Nat} {s' : DS}, aheadD T ops is L V s = some (L', V', s') → Sch P T ops f L' V' s' K → Sch P T ops (f + is.length) L V s K
  | [], L, V, s, f, L', V', s', h, h2 => by
    simp [aheadD] at h
    obtain ⟨rfl, rfl, rfl⟩ := h
    exact h2
  | i :: r, L, V, s, f, L', V', s', h, h2 => by
    simp only [aheadD] at h
    split at h
    · cases h
    · rename_i t ht
      rw [Option.ite_none_right_eq_some] at h
      obtain ⟨hc, h⟩ := h
      simp only [Bool.and_eq_true, Bool.not_eq_true'] at hc
      split at h
      · rename_i d hd
        have := Sch.ahead h h2
        rw [List.length_cons, show f + (r.length + 1) = (f + r.length) + 1 by omega]
        refine .inr (.inl ⟨i, t, d, fun hm => ?_, ht, hc.1.1.2, hc.1.2, hc.2, hd, this⟩)
        have h5 := hc.1.1.1
        rw [List.contains_iff_mem.2 hm] at h5
        cases h5
      · cases h
/-- The one operation that can be next. -/
theorem Sch.step1 {j : Nat} (hj : j < ops.size) (hjL : j ∉ L) (hone : (List.range ops.size).all (fun k => L.contains k || k == j || !rdy ops L k) = true)
    (h : stepOk P T ops j s fun s1 => stillV T ops (dropB ops j V) s s1 ∧ Sch P T ops f (j :: L) (dropB ops j V) s1 K) : Sch P T ops (f + 1) L V s K := by
  refine .inr (.inr (.inl ⟨⟨j, hj, hjL⟩, fun k hk hkL hrd => ?_⟩))
  have := List.all_eq_true.1 hone k (List.mem_range.2 hk)
  simp only [Bool.or_eq_true, beq_iff_eq, Bool.not_eq_true', hrd, Bool.true_eq_false, or_false] at this
  rcases this with q | q
  · exact absurd (List.contains_iff_mem.1 q) hkL
  · subst q
    exact h
end

end Go.Lv
