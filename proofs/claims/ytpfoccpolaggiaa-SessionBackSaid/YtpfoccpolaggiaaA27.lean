/-
  A27: all orders of a drawn region.
-/
import Derived.Test.YtpfoccpolaggiaaA26
set_option linter.all false
namespace Go.Lv

noncomputable def minus (ts : List Nat) (s : DS) : DS := { s with env := delAll ts s.env }
theorem LeS.minus {s s1 : DS} (h : LeS s s1) (ts : List Nat) : LeS (Lv.minus ts s) (Lv.minus ts s1) := by
  refine { h with env := fun t d ht => ?_ }
  have ht' : lk t (delAll ts s1.env) = some d := ht
  rw [lk_delAll, Option.ite_none_left_eq_some] at ht'
  show lk t (delAll ts s.env) = some d
  rw [lk_delAll, if_neg ht'.1]
  exact h.env t d ht'.2
noncomputable def slots (ops : Array Oper) (Pn : List Nat) : List Nat := Pn.filterMap (dstOf ops)
noncomputable def puts (a : Act) : List (Nat × Value) → Act
  | [] => a
  | x :: r => (puts a r).put (some x.1) x.2

/-- Nothing waits for what comes behind it; no select. -/
noncomputable def wfK (ops : Array Oper) : Bool := ((List.range ops.size).all fun k => (List.range ops.size).all fun i => !waits ops k i || decide (i < k)) && Region.noSelect ops && (ops.toList.all fun o => o.after.all fun e => !Region.binds .any e || decide (e.on < ops.size))

section
variable {P : Program} {T : St} {X : Ctx} {G G' : Gh} {s s' s1 : DS} {a a' : Act} {w w' : World} {K K' : DS → Prop} {o : Oper} {ops : Array Oper} {Qc : Exit → Act → World → Prop}

theorem keep_ins (t : Nat) (d : D) (l : List (Nat × D)) : ∀ ts : List Nat, t ∉ ts → keep ts (ins t d l) = keep ts l
  | [], _ => rfl
  | u :: r, h => by
    simp only [List.mem_cons, not_or] at h
    simp only [keep, lk_ins]
    rw [if_neg (fun e => h.1 e.symm), keep_ins t d l r h.2]

theorem roV_looks {i t : Nat} {d : D} (h : roV T ops s i = some d) (ht : dstOf ops i = some t) : t ∉ looks ops i ∧ i < ops.size := by
  unfold roV at h
  unfold looks
  unfold dstOf at ht
  cases ho : ops[i]? with
  | none => rw [ho] at h; cases h
  | some o =>
    rw [ho] at h ht
    simp only [Option.bind_some] at ht
    simp only [ht] at h
    rw [Option.ite_none_right_eq_some] at h
    obtain ⟨hc, _⟩ := h
    simp only [Bool.and_eq_true, Bool.not_eq_true'] at hc
    refine ⟨fun hm => ?_, (Array.getElem?_eq_some_iff.1 ho).1⟩
    have := hc.2
    simp at this
    exact this hm

theorem wantD_env {e e' : DS} (h : e.env = e'.env) (o : Oper) : wantD ops e o = wantD ops e' o := by unfold wantD; rw [h]

theorem roV_putS {i t : Nat} {d : D} (ht : t ∉ looks ops i) (ho : ownAt t s.env = false) (hd : hasOwn d = false) : roV T ops (putS t d s) i = roV T ops s i := by
  unfold roV looks at *
  cases hoi : ops[i]? with
  | none => rfl
  | some o =>
    rw [hoi] at ht
    simp only at ht
    have e : ({ putS t d s with env := keep (o.looksAt ops) (putS t d s).env } : DS) = { s with env := keep (o.looksAt ops) s.env } := by
      simp only [putS, ho, hd, Bool.or_self, Bool.false_eq_true, if_false]
      rw [keep_ins t d s.env _ ht]
    simp only [e]

theorem putS_m {t : Nat} {d : D} (ho : ownAt t s.env = false) (hd : hasOwn d = false) : putS t d s = { s with env := ins t d s.env } := by
  simp only [putS, ho, hd, Bool.or_self, Bool.false_eq_true, if_false]


theorem puts_getD (a : Act) : ∀ (tvs : List (Nat × Value)) (u : Nat), u ∉ tvs.map (·.1) → (puts a tvs).tmps.getD u undef = a.tmps.getD u undef
  | [], u, _ => rfl
  | x :: r, u, h => by
    simp only [List.map_cons, List.mem_cons, not_or] at h
    have e : (puts a (x :: r)).tmps.getD u undef = (puts a r).tmps.getD u undef := by
      simp only [puts, Act.put, Array.getD_eq_getD_getElem?]
      rw [Array.getElem?_setIfInBounds_ne (fun e => h.1 e.symm)]
    rw [e, puts_getD a r u h.2]
theorem puts_size (a : Act) : ∀ (tvs : List (Nat × Value)), (puts a tvs).tmps.size = a.tmps.size ∧ (puts a tvs).defers = a.defers
  | [] => ⟨rfl, rfl⟩
  | x :: r => by
    obtain ⟨h1, h2⟩ := puts_size a r
    exact ⟨by simp [puts, Act.put, h1], by simp [puts, Act.put, h2]⟩

theorem Rel.unputs {tvs : List (Nat × Value)} (h : Rel X G s (puts a tvs) w) : Rel X G (minus (tvs.map (·.1)) s) a w := by
  have h' := h.less (delAll (tvs.map (·.1)) s.env) s.loc (fun t d ht => by
    rw [lk_delAll, Option.ite_none_left_eq_some] at ht
    exact ht.2) (fun _ _ h => h)
  exact { h' with
    size := by rw [← (puts_size a tvs).1]; exact h.size
    defers := by rw [← (puts_size a tvs).2]; exact h.defers
    env := fun t d ht => by
      have ht' : lk t (delAll (tvs.map (·.1)) s.env) = some d := ht
      rw [lk_delAll, Option.ite_none_left_eq_some] at ht'
      have := h.env t d ht'.2
      rw [puts_getD a tvs t ht'.1] at this
      exact this }

theorem wpOp_puts {j : Nat} {oj : Oper} (hj : ops[j]? = some oj) (hsj : ∀ cs b, oj.op ≠ .select cs b) (hQ : ∀ c a w, ¬ Qc (.panic c) a w) : ∀ (tvs : List (Nat × Value)) {Kc : Act → World → Prop} {a : Act}, (∀ t, t ∈ tvs.map (·.1) → t ∉ oj.looksAt ops ∧ oj.dst ≠ some t) → wpOp P ops Qc j Kc (puts a tvs) w →
    wpOp P ops Qc j (fun a' w' => Kc (puts a' tvs) w') a w
  | [], Kc, a, _, h => h
  | x :: r, Kc, a, hd, h => by
    have h1 := wpOp_put1 (t := x.1) (v := x.2) hj (hd x.1 (by simp)).1 (hd x.1 (by simp)).2 hsj (fun c a w hq => absurd hq (hQ _ _ _)) (a := puts a r) h
    exact wpOp_puts hj hsj hQ r (Kc := fun a' w' => Kc (a'.put (some x.1) x.2) w') (fun t ht => hd t (by simp only [List.map_cons, List.mem_cons]; exact .inr ht)) h1

/-- What is only read ahead. -/
structure Pend (T : St) (ops : Array Oper) (L Pn : List Nat) (s : DS) : Prop where
  ok : ∀ i, i ∈ Pn → i ∈ L ∧ rdy ops L i = true ∧ aloneK ops i = true ∧ ∃ t d, dstOf ops i = some t ∧ roV T ops s i = some d ∧ lk t s.env = some d
  pw : Pn.Pairwise fun k i => k ≠ i ∧ waits ops i k = false ∧ ∀ t, dstOf ops k = some t → t ∉ looks ops i

theorem slots_cons {i t : Nat} {Pn : List Nat} (h : dstOf ops i = some t) : slots ops (i :: Pn) = t :: slots ops Pn := by simp [slots, h]
theorem mem_slots {t : Nat} {Pn : List Nat} : t ∈ slots ops Pn ↔ ∃ i, i ∈ Pn ∧ dstOf ops i = some t := by simp [slots, List.mem_filterMap]

/-- One reading operation, run. -/
theorem Rel.read (H : LyOK P T.L) (hX : Fits T X) {ts : List Nat} {i t : Nat} {d : D} (hR : Rel X G (minus ts s) a w) (ht : dstOf ops i = some t) (hv : roV T ops s i = some d) (hl : lk t s.env = some d) (hlk : ∀ u, u ∈ ts → u ∉ looks ops i) (htt : t ∈ ts) :
    ∃ v, (∀ K', K' (a.put (some t) v) w → wpOp P ops Qc i K' a w) ∧ ∀ ts' : List Nat, (∀ u, u ∈ ts → u = t ∨ u ∈ ts') → Rel X G (minus ts' s) (a.put (some t) v) w := by
  have hdo : ∃ o, ops[i]? = some o ∧ ∀ u, u ∈ o.looksAt ops → ∀ e, lk u s.env = some e → lk u (minus ts s).env = some e := by
    unfold dstOf at ht
    cases ho : ops[i]? with
    | none => rw [ho] at ht; cases ht
    | some o =>
      refine ⟨o, rfl, fun u hu e he => ?_⟩
      show lk u (delAll ts s.env) = some e
      rw [lk_delAll, if_neg ?_]
      · exact he
      · intro hm
        have := hlk u hm
        unfold looks at this
        rw [ho] at this
        exact this hu
  obtain ⟨hown, htn, v, hvt, hrun⟩ := roV_run (Qc := Qc) H hX ht hv hdo ⟨rfl, rfl, rfl⟩ hR
  refine ⟨v, hrun, fun ts' hts => ?_⟩
  have hno : ownAt t (minus ts s).env = false := by
    unfold ownAt
    show (match lk t (delAll ts s.env) with | some d => hasOwn d | none => false) = false
    rw [lk_delAll, if_pos htt]
  have hp := hR.put (t := t) (d := d) (v := v) (by rw [← hX.n]; exact htn) (by
    rw [putS_m hno hown]
    exact hvt s.m rfl (fun _ => Nat.le_refl _) (fun _ => Nat.le_refl _) (Nat.le_refl _))
  rw [putS_m hno hown] at hp
  exact hp.less (delAll ts' s.env) s.loc (fun u e hu => by
    rw [lk_delAll, Option.ite_none_left_eq_some] at hu
    show lk u (ins t d (delAll ts s.env)) = some e
    rw [lk_ins]
    by_cases hut : u = t
    · subst hut
      rw [if_pos rfl, ← hl, hu.2]
    · rw [if_neg hut, lk_delAll, if_neg]
      · exact hu.2
      · intro hm
        rcases hts u hm with q | q
        · exact hut q
        · exact hu.1 q) (fun _ _ h => h)

theorem preex (H : LyOK P T.L) (hX : Fits T X) : ∀ (Pn R : List Nat), (∀ i, i ∈ Pn → ∃ t d, dstOf ops i = some t ∧ roV T ops s i = some d ∧ lk t s.env = some d) → Pn.Pairwise (fun k i => ∀ t, dstOf ops k = some t → t ∉ looks ops i) → (∀ i, i ∈ Pn → ∀ u, u ∈ R → u ∉ looks ops i) → Rel X G (minus (slots ops Pn ++ R) s) a w →
    ∃ tvs : List (Nat × Value), tvs.map (·.1) = slots ops Pn ∧ Rel X G (minus R s) (puts a tvs) w
  | [], R, _, _, _, hR => ⟨[], rfl, hR⟩
  | i :: B, R, hok, hpw, hRl, hR => by
    obtain ⟨t, d, h1, h2, h3⟩ := hok i (by simp)
    rw [List.pairwise_cons] at hpw
    have hnl := (roV_looks h2 h1).1
    obtain ⟨tvs, e1, r1⟩ := preex H hX B (t :: R) (fun k hk => hok k (by simp [hk])) hpw.2 (fun k hk u hu => by
      rcases List.mem_cons.1 hu with rfl | hu
      · exact hpw.1 k hk u h1
      · exact hRl k (by simp [hk]) u hu) (by
      refine hR.less _ _ (fun u e hu => ?_) (fun _ _ h => h)
      have hu' : lk u (delAll (slots ops B ++ (t :: R)) s.env) = some e := hu
      rw [lk_delAll, Option.ite_none_left_eq_some] at hu'
      show lk u (delAll (slots ops (i :: B) ++ R) s.env) = some e
      rw [lk_delAll, if_neg, hu'.2]
      rw [slots_cons h1]
      intro hm
      apply hu'.1
      simp only [List.cons_append, List.mem_cons, List.mem_append] at hm ⊢
      rcases hm with q | q | q
      · exact .inr (.inl q)
      · exact .inl q
      · exact .inr (.inr q))
    obtain ⟨v, _, q2⟩ := Rel.read (ops := ops) (Qc := fun _ _ _ => True) H hX r1 h1 h2 h3 (fun u hu => by
      rcases List.mem_cons.1 hu with rfl | hu
      · exact hnl
      · exact hRl i (by simp) u hu) (by simp)
    refine ⟨(t, v) :: tvs, by rw [slots_cons h1, List.map_cons, e1], q2 R fun u hu => ?_⟩
    rcases List.mem_cons.1 hu with q | q
    · exact .inl q
    · exact .inr q
end

end Go.Lv
