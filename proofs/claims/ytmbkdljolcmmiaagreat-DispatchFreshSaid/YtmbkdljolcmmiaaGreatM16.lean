/-
  Part 16 of the texts under the proof: an abstract run of loaded code on data, and what the functions do. No condition.
-/
import Derived.Test.YtmbkdljolcmmiaaGreatM15
import Derived.KernelRfl
set_option linter.all false
set_option maxRecDepth 100000
namespace Go.Lv.Se
open Go.Proofs Go.Lv

theorem hmixS : Tryz.prog.follows .mixedOrders = true := by kernel_rfl
abbrev E5 := Int × Int × Int × Int × Int
abbrev Tbs := List (Int × E5)
noncomputable def encE5 (e : E5) : D := .agg [.int .i64 e.1, .int .i64 e.2.1, .int .i64 e.2.2.1, .int .i64 e.2.2.2.1, .int .i64 e.2.2.2.2]
noncomputable def encG (m : Tbs) : List (D × D) := m.map fun x => (.int .i64 x.1, encE5 x.2)
noncomputable def stG (m : Tbs) : List Ob := [.map (encG m), .box [.map 0]]
theorem encG_split {l1 l2 : List (D × D)} {y : D × D} {m : Tbs} (h : encG m = l1 ++ y :: l2) : ∃ (m1 : Tbs) (k : Int) (e : E5) (m2 : Tbs), m = m1 ++ (k, e) :: m2 ∧ l1 = encG m1 ∧ y = (.int .i64 k, encE5 e) ∧ l2 = encG m2 := by
  obtain ⟨a, b, h1, h2, h3⟩ := List.map_eq_append_iff.1 h
  obtain ⟨x, c, h4, h5, h6⟩ := List.map_eq_cons_iff.1 h3
  obtain ⟨k, e⟩ := x
  exact ⟨a, k, e, c, by rw [h1, h4], h2.symm, h5.symm, h6.symm⟩
theorem sortI_eq {l l' : List Int} (h : l.Perm l') : sortI l = sortI l' :=
  List.Perm.eq_of_pairwise (le := fun x y => x ≤ y) (fun x y _ _ h1 h2 => by omega) (sortI_sorted _) (sortI_sorted _) (((sortI_perm _).trans h).trans (sortI_perm _).symm)

noncomputable def sSe (m : Tbs) (sz : Nat) (zs : List Int) : DS := ⟨[(0, .gptr 1 0), (3, .list (.own sz) (zs.map rowI)), (9, .lptr 9 0 0), (2, .list (.own 0) [])], [], stG m, mR 2⟩
theorem c_Sessions_0 (hC : TurnC Tryz.prog 58 sortI) (m : Tbs) (hm : m.length ≤ 1000) : Tri Tryz.prog 98 2 [.gptr 1 0] (stG m) (fun d l => d = .list (.own (if m.isEmpty = true then 0 else 1)) ((sortI (m.map Prod.fst)).map rowI) ∧ l = stG m) := by
  refine Tri.walk2 (L := LT) (c := {la := false, n := 21, ko := [2, 3], xf := [14, 20]}) [(58, 3, [])] [0, 3, 9, 2, 4] hLT hmixS Tryz.func98 rfl rfl ⟨rfl, rfl⟩ (by show 1 ≤ 21; decide) (by show 2 ≤ 2; decide) ?_
  show Ok _ _ _ _ _
  refine Ok.rangeBlk (t := 9) (k := 0) (es := encG m) (t10 := 10) (t11 := 11) (t12 := 12) (n2 := 4) hLT
    (fun l s => ∃ (m1 m2 : Tbs) (sz : Nat), l = encG m2 ∧ (m1 ++ m2).Perm m ∧ ((sz = 0 ∧ m1 = []) ∨ (sz = 1 ∧ m1 ≠ [])) ∧ s = sSe m sz (m1.map Prod.fst))
    rfl rfl rfl rfl rfl rfl rfl rfl rfl rfl rfl rfl rfl rfl rfl rfl rfl rfl rfl (by decide) (by decide) rfl (by show 2 ≤ 2; decide) (by show 0 < 2; decide) rfl (by show 9 < 21; decide) hmixS [(58, 3, [])] [0, 3, 9, 2, 4] [0, 3, 9, 2] [] ?_ ?_ ?_ ?_
  · refine And.intro rfl (And.intro rfl (And.intro rfl ?_))
    exact ⟨[], m, 0, rfl, by simp, .inl ⟨rfl, rfl⟩, rfl⟩
  · rintro l s ⟨m1, m2, sz, rfl, _, _, rfl⟩
    rfl
  · rintro l1 y l2 s ⟨m1, m2, sz, hl, hp, hsz, rfl⟩
    obtain ⟨n1, k, e, n2, rfl, rfl, rfl, rfl⟩ := encG_split hl.symm
    have hlen : m1.length + (n1.length + (n2.length + 1)) = m.length := by
      have := hp.length_eq
      simpa using this
    have hz : ((m1.map Prod.fst).map rowI) ++ [[.int .i64 k]] = ((m1 ++ [(k, e)]).map Prod.fst).map rowI := by simp [rowI]
    have hp' : (m1 ++ [(k, e)] ++ (n1 ++ n2)).Perm m := by
      refine List.Perm.trans ?_ hp
      simp only [List.append_assoc, List.singleton_append]
      exact List.Perm.append_left m1 List.perm_middle.symm
    have hsz' : sz = 0 ∨ sz = 1 := by rcases hsz with ⟨h, _⟩ | ⟨h, _⟩ <;> omega
    rcases hsz' with rfl | rfl
    · refine And.intro trivial ?_
      refine And.intro rfl (And.intro ?_ (And.intro rfl ?_))
      · show (((m1.map Prod.fst).map rowI).length + 1) * 8 ≤ 140737488355328
        simp only [List.length_map]
        omega
      refine And.intro rfl ?_
      refine ⟨m1 ++ [(k, e)], n1 ++ n2, 1, by simp [encG], hp', .inr ⟨rfl, by simp⟩, ?_⟩
      unfold sSe
      rw [← hz]
      rfl
    · refine And.intro trivial ?_
      refine And.intro rfl (And.intro ?_ (And.intro rfl ?_))
      · show (((m1.map Prod.fst).map rowI).length + 1) * 8 ≤ 140737488355328
        simp only [List.length_map]
        omega
      refine And.intro rfl ?_
      refine ⟨m1 ++ [(k, e)], n1 ++ n2, 1, by simp [encG], hp', .inr ⟨rfl, by simp⟩, ?_⟩
      unfold sSe
      rw [← hz]
      rfl
  · rintro s ⟨m1, m2, sz, hl, hp, hsz, rfl⟩
    have hm2 : m2 = [] := by
      cases m2 with
      | nil => rfl
      | cons x r => simp [encG] at hl
    subst hm2
    rw [List.append_nil] at hp
    have hs : sortI (m.map Prod.fst) = sortI (m1.map Prod.fst) := sortI_eq (hp.map Prod.fst).symm
    have hlen := hp.length_eq
    rw [hs]
    rcases hsz with ⟨rfl, rfl⟩ | ⟨rfl, hm1⟩
    · have hE : m.isEmpty = true := by
        have : m.length = 0 := by simpa using hlen.symm
        rw [List.length_eq_zero_iff.1 this]
        rfl
      refine OpOk.turn (zs := []) hC rfl rfl rfl rfl (fun _ => ?_) (fun h => absurd rfl h)
      exact And.intro (by rw [hE]; rfl) rfl
    · have hE : m.isEmpty = false := by
        cases m with
        | nil => exact absurd (List.length_eq_zero_iff.1 (show m1.length = 0 by simpa using hlen)) hm1
        | cons x r => rfl
      refine OpOk.turn (zs := m1.map Prod.fst) hC rfl rfl rfl rfl (fun h => ?_) (fun h => ⟨⟨rfl, rfl⟩, rfl, by simp only [List.length_map]; omega, ?_⟩)
      · exact absurd h (by simpa using hm1)
      · exact And.intro (by rw [hE]; rfl) rfl
theorem nrUp {k k' : Nat} (h : k ≤ k') {d : D} (hd : NR k d) : NR k' d := by
  induction hd with
  | gptr j o hj => exact .gptr _ _ (Nat.lt_of_lt_of_le hj h)
  | map j hj => exact .map _ (Nat.lt_of_lt_of_le hj h)
  | fn f ds _ ih => exact .fn _ _ ih
  | list q xs _ ih => exact .list _ _ ih
  | agg cs _ ih => exact .agg _ ih
  | tup cs _ ih => exact .tup _ ih
  | int k n => exact .int _ _
  | bool b => exact .bool _
  | str s => exact .str _
  | nil => exact .nil
  | nilmap => exact .nilmap
  | nilfn => exact .nilfn
  | dead => exact .dead
noncomputable def rho2 (p b : Nat) : Nat → Nat := fun i => if i = 0 then p else b
theorem back2 {p b : Nat} {sto : List Ob} {es es' : List (D × D)} (hp : sto[p]? = some (.map es)) (hb : sto[b]? = some (.box [.map p])) (hne : p ≠ b) :
    backSto (rho2 p b) 2 sto [.map es', .box [.map 0]] = sto.set p (.map es') := by
  show ((sto.set p (.map es')).set b (.box [.map (extR (rho2 p b) 2 sto.length 0)])) ++ [] = _
  rw [List.append_nil]
  have : extR (rho2 p b) 2 sto.length 0 = p := rfl
  rw [this]
  apply List.ext_getElem?
  intro i
  rw [List.getElem?_set]
  split
  · rename_i h
    subst h
    have hlt := (List.getElem?_eq_some_iff.1 hb).1
    rw [if_pos (by rw [List.length_set]; exact hlt), List.getElem?_set_ne hne, hb]
  · rfl
theorem set_self {sto : List Ob} {p : Nat} {o : Ob} (h : sto[p]? = some o) : sto.set p o = sto := by
  apply List.ext_getElem?
  intro i
  rw [List.getElem?_set]
  split
  · rename_i e
    subst e
    rw [if_pos (List.getElem?_eq_some_iff.1 h).1, h]
  · rfl
theorem Tri.tabRO {f : Nat} {m : Tbs} {args : List D} {R : D → Prop} (h : Tri Tryz.prog f 2 (.gptr 1 0 :: args) (stG m) (fun d l => R d ∧ l = stG m)) (ha : args.all cellsOK = true) (hn : nrBL 0 args = true) (hd : ∀ d, R d → partsOK d = true ∧ nrB 0 d = true)
    {r p b : Nat} {sto : List Ob} (hr : r ≤ sto.length) (hp : sto[p]? = some (.map (encG m))) (hb : sto[b]? = some (.box [.map p])) (hne : p ≠ b) (hpr : p < r) (hbr : b < r) : Tri Tryz.prog f r (.gptr b 0 :: args) sto (fun d l => R d ∧ l = sto) := by
  have := Tri.ren (r := r) (sto := sto) (rho2 p b) h (fun i j hi hj e => by
      match i, j, hi, hj with
      | 0, 0, _, _ => rfl
      | 1, 1, _, _ => rfl
      | 0, 1, _, _ => exact absurd (show p = b from e) hne
      | 1, 0, _, _ => exact absurd (show b = p from e).symm hne
      | i + 2, _, hi, _ => exact absurd hi (by show ¬ i + 2 < 2; omega)
      | _, j + 2, _, hj => exact absurd hj (by show ¬ j + 2 < 2; omega)) (fun i o hi => by
      match i, hi with
      | 0, hi => simp [stG] at hi; subst hi; exact hp
      | 1, hi => simp [stG] at hi; subst hi; exact hb
      | i + 2, hi => simp [stG] at hi) (fun i hi => by
      match i, hi with
      | 0, _ => exact ⟨fun _ => hpr, fun _ => by omega⟩
      | 1, _ => exact ⟨fun _ => hbr, fun _ => by omega⟩
      | i + 2, hi => exact absurd hi (by show ¬ i + 2 < 2; omega)) hr (by show (true && args.all cellsOK) = true; rw [ha]; rfl) (fun x hx => by
      rcases List.mem_cons.1 hx with e | hx
      · rw [e]; exact .gptr _ _ (by show 1 < 2; omega)
      · exact nrUp (Nat.zero_le _) (nrBL_nr hn x hx)) (fun o ho => by
      rcases List.mem_cons.1 ho with e | ho
      · rw [e]; exact trivial
      · have : o = .box [.map 0] := by simpa using ho
        rw [this]
        exact nrO_nr (k := 2) rfl) rfl (fun d l ⟨h1, h2⟩ => by subst h2; exact ⟨(hd _ h1).1, rfl⟩)
  rw [show renL (rho2 p b) (.gptr 1 0 :: args) = .gptr b 0 :: args by show D.gptr b 0 :: renL (rho2 p b) args = _; rw [renL_id _ hn]] at this
  refine this.mono fun d l ⟨d1, l1, ⟨h1, h2⟩, h3, h4⟩ => ?_
  subst h2
  refine ⟨by rw [h3, renD_id _ (hd _ h1).2]; exact h1, ?_⟩
  rw [h4]
  exact (back2 hp hb hne).trans (set_self hp)

noncomputable def keysG : List (D × D) → Option Tbs
  | [] => some []
  | (.int .i64 k, .agg [.int .i64 a, .int .i64 b, .int .i64 c, .int .i64 d, .int .i64 e]) :: r => (keysG r).map fun l => (k, a, b, c, d, e) :: l
  | _ => none
theorem keysG_is : ∀ {es : List (D × D)} {m : Tbs}, keysG es = some m → es = encG m
  | [], m, h => by cases h; rfl
  | (k, v) :: r, m, h => by
    unfold keysG at h
    split at h
    · rename_i e; cases e
    · rename_i e
      cases e
      obtain ⟨l, hl, rfl⟩ := Option.map_eq_some_iff.1 h
      rw [keysG_is hl]
      rfl
    · cases h
noncomputable def sessSp : Caller := fun r _ args sto => match args with
  | [.gptr b 0] => match sto[b]? with
    | some (.box [.map p]) => match sto[p]? with
      | some (.map es) => match keysG es with
        | some m => if (Nat.ble m.length 1000 && Nat.ble r sto.length) && (Nat.blt p r && (Nat.blt b r && !(Nat.beq p b))) then .ok (.list (.own (if m.isEmpty = true then 0 else 1)) ((sortI (m.map Prod.fst)).map rowI), sto) else .no [50]
        | none => .no [51]
      | _ => .no [52]
    | _ => .no [53]
  | _ => .no [54]
theorem nrBLL_Is : ∀ l : List Int, nrBLL 0 (l.map rowI) = true
  | [] => rfl
  | b :: r => by
    show (nrBL 0 (rowI b) && nrBLL 0 (r.map rowI)) = true
    rw [nrBLL_Is r]
    rfl
theorem sessSp_ok (hC : TurnC Tryz.prog 58 sortI) {r f' : Nat} {args : List D} {sto : List Ob} {d : D} {sto' : List Ob} (h : sessSp r f' args sto = .ok (d, sto')) : Tri Tryz.prog 98 r args sto (fun d' l => d' = d ∧ l = sto') ∧ Pre r sto sto' := by
  unfold sessSp at h
  split at h
  · rename_i b
    split at h
    · rename_i p hb
      split at h
      · rename_i es hp
        split at h
        · rename_i m hm
          split at h
          · rename_i hg
            cases h
            simp only [Bool.and_eq_true, Bool.not_eq_true', Nat.ble_eq, Nat.blt_eq] at hg
            obtain ⟨⟨h1, h2⟩, h3, h4, h5⟩ := hg
            have hne : p ≠ b := fun e => by rw [e] at h5; simp at h5
            rw [keysG_is hm] at hp
            exact ⟨Tri.tabRO (args := []) (c_Sessions_0 hC m h1) rfl rfl (fun d hd => by subst hd; exact ⟨rfl, nrBLL_Is _⟩) h2 hp hb hne h3 h4, Pre.refl _ _⟩
          · cases h
        · cases h
      · cases h
    · cases h
  · cases h
end Go.Lv.Se
