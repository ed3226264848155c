/-
  Chapter 18: Copy.
-/
import Derived.Test.YtpfoccpolaggiaaW6
set_option linter.all false
set_option maxRecDepth 100000
namespace Go.Lv
open Go.Proofs

theorem getT_none {k : Int} : ∀ {m : Tbl}, k ∉ m.map Prod.fst → getT k m = none
  | [], _ => rfl
  | x :: r, h => by
    simp only [List.map_cons, List.mem_cons, not_or] at h
    unfold getT
    rw [if_neg h.1, getT_none h.2]
theorem setT_new {k : Int} {e : Ent} : ∀ {m : Tbl}, k ∉ m.map Prod.fst → setT k e m = m ++ [(k, e)]
  | [], _ => rfl
  | x :: r, h => by
    simp only [List.map_cons, List.mem_cons, not_or] at h
    unfold setT
    rw [if_neg h.1, setT_new h.2]
    rfl
noncomputable def st2 (m m1 : Tbl) : List Ob := [.map (encT m), .box [.map 0], .map (encT m1), .box [.map 2]]
noncomputable def sC (m m1 : Tbl) : DS := ⟨[(0, .gptr 1 0), (3, .gptr 3 0), (11, .lptr 11 0 0), (2, .nil)], [], st2 m m1, mR 2⟩
set_option maxHeartbeats 4000000 in
theorem t22 (m : Tbl) (hnd : keysND m) : Tri Try.prog 22 2 [.gptr 1 0] (stT m) (fun d l => ∃ m1, d = .gptr 3 0 ∧ l = st2 m m1 ∧ m1.Perm m) := by
  refine Tri.walk2 (L := LT) (c := {n := 24, ko := [2]}) [] [0, 2, 3, 4, 5, 11] hLT hmix Try.func22 rfl rfl ⟨rfl, rfl⟩ (by show 1 ≤ 24; decide) (by show 2 ≤ 2; decide) ?_
  refine ⟨rfl, Nat.le_refl 2, (t10R (r := 2) (sto := stT m) (Nat.le_refl 2)).mono ?_⟩
  rintro d l' ⟨rfl, rfl⟩
  refine ⟨rfl, fun k hk => List.getElem?_append_left (show k < (stT m).length from hk), rfl, ?_⟩
  show Ok _ _ _ _ _
  refine Ok.rangeBlk (t := 11) (k := 0) (es := encT m) (t10 := 12) (t11 := 13) (t12 := 14) (n2 := 4) hLT
    (fun l s => ∃ (m1 m2 : Tbl), l = encT m2 ∧ (m1 ++ m2).Perm m ∧ s = sC m m1)
    rfl rfl rfl rfl rfl rfl rfl rfl rfl rfl rfl rfl rfl rfl rfl rfl rfl rfl rfl (by decide) (by decide) rfl (by show 2 ≤ 2; decide) (by show 0 < 2; decide) rfl (by show 11 < 24; decide) hmix [] [0, 2, 3, 4, 5, 11] [0, 3, 11, 2] [] ?_ ?_ ?_ ?_
  · refine And.intro rfl (And.intro rfl (And.intro rfl ?_))
    exact ⟨[], m, rfl, by simp, rfl⟩
  · rintro l s ⟨m1, m2, rfl, _, rfl⟩
    rfl
  · rintro l1 y l2 s ⟨m1, m2, hl, hp, rfl⟩
    obtain ⟨n1, k, e, n2, rfl, rfl, rfl, rfl⟩ := encT_split hl.symm
    have hk : k ∉ m1.map Prod.fst := by
      have hnd' : ((m1 ++ (n1 ++ (k, e) :: n2)).map Prod.fst).Nodup := (hp.map Prod.fst).nodup_iff.2 hnd
      rw [List.map_append, List.nodup_append] at hnd'
      intro h
      exact hnd'.2.2 k h k (by simp) rfl
    have hp' : (m1 ++ [(k, e)] ++ (n1 ++ n2)).Perm m := by
      refine List.Perm.trans ?_ hp
      simp only [List.append_assoc, List.singleton_append]
      exact List.Perm.append_left m1 List.perm_middle.symm
    refine ⟨⟨63, [0, 1, 2, 4, 0, 0, 63], [1, 3, 7, 15, 16, 32, 127]⟩, by kernel_rfl, ?_⟩
    refine And.intro ?_ trivial
    refine And.intro ⟨Nat.le_refl 2, rfl, rfl⟩ ?_
    refine Exists.intro (encT (setT k e m1)) ?_
    refine And.intro (setEnt k e m1) ?_
    refine And.intro trivial ?_
    rw [setT_new hk]
    exact And.intro rfl ⟨m1 ++ [(k, e)], n1 ++ n2, by simp [encT], hp', rfl⟩
  · rintro s ⟨m1, m2, hl, hp, rfl⟩
    have hm2 : m2 = [] := by
      cases m2 with
      | nil => rfl
      | cons x r => simp [encT] at hl
    subst hm2
    rw [List.append_nil] at hp
    exact ⟨m1, rfl, rfl, hp⟩
end Go.Lv
