/-
  A29: a table of types is checked against a program's.
-/
import Derived.Test.YtpfoccpolaggiaaA28
set_option linter.all false
namespace Go.Lv

noncomputable def zE : D → D → Bool
  | .int k n, .int k' n' => k == k' && n == n'
  | .bool a, .bool b => a == b
  | .str a, .str b => a.data.toList.isEmpty && b.data.toList.isEmpty
  | .nil, .nil => true
  | .nilmap, .nilmap => true
  | .nilfn, .nilfn => true
  | .list (.own 0) [], .list (.own 0) [] => true
  | _, _ => false
noncomputable def zEL : List D → List D → Bool
  | [], [] => true
  | a :: x, b :: y => zE a b && zEL x y
  | _, _ => false
theorem zE_eq {a b : D} (h : zE a b = true) : a = b := by
  unfold zE at h
  split at h <;> first | rfl | (simp at h; done) | skip
  · simp at h; obtain ⟨rfl, rfl⟩ := h; rfl
  · simp at h; subst h; rfl
  · rename_i a b
    simp only [Bool.and_eq_true, List.isEmpty_iff] at h
    obtain ⟨⟨x⟩⟩ := a
    obtain ⟨⟨y⟩⟩ := b
    obtain ⟨rfl, rfl⟩ := h
    rfl
theorem zEL_eq : ∀ {x y : List D}, zEL x y = true → x = y
  | [], [], _ => rfl
  | [], _ :: _, h => by simp [zEL] at h
  | _ :: _, [], h => by simp [zEL] at h
  | a :: x, b :: y, h => by
    simp only [zEL, Bool.and_eq_true] at h
    rw [zE_eq h.1, zEL_eq h.2]

noncomputable def aggU : TypeDesc → Bool
  | .array _ _ | .struct _ => true
  | _ => false
noncomputable def aggV : Value → Bool
  | .agg _ => true
  | _ => false
noncomputable def tdChk (P : Program) (t : Nat) (d : Td) : Bool :=
  match P.info? t, P.underlying t with
  | some i, some u => tkOK d.k u && (d.k.isAgg == aggU u) && i.size == d.size && i.bytes == d.bytes &&
    (d.zero.length != d.size || match i.zero with
      | some z => (match dOfL z.cells.toList with | some l => zEL l d.zero | none => false) && (d.k.isAgg == aggV z)
      | none => false)
  | _, _ => false
noncomputable def lyChk (P : Program) : Nat → Ly → Bool
  | _, [] => true
  | t, d :: r => tdChk P t d && lyChk P (t + 1) r

theorem lyChk_get {P : Program} : ∀ {L : Ly} {k : Nat}, lyChk P k L = true → ∀ (t : Nat) (d : Td), L[t]? = some d → tdChk P (k + t) d = true
  | [], k, _, t, d, h => by simp at h
  | x :: r, k, hc, 0, d, h => by
    simp only [lyChk, Bool.and_eq_true] at hc
    simp at h
    subst h
    exact hc.1
  | x :: r, k, hc, t + 1, d, h => by
    simp only [lyChk, Bool.and_eq_true] at hc
    have := lyChk_get hc.2 t d (by simpa using h)
    rwa [show k + 1 + t = k + (t + 1) by omega] at this

theorem LyOK.of_chk {P : Program} {L : Ly} (hc : lyChk P 0 L = true) (he : ∀ t d, L[t]? = some d → d.eq = true → EqT P t d.ks) : LyOK P L := by
  intro t d h
  have := lyChk_get hc t d h
  rw [Nat.zero_add] at this
  unfold tdChk at this
  split at this
  · rename_i i u hi hu
    simp only [Bool.and_eq_true, beq_iff_eq, Bool.or_eq_true, bne_iff_ne, ne_eq] at this
    obtain ⟨⟨⟨⟨h1, h2⟩, h3⟩, h4⟩, h5⟩ := this
    refine ⟨i, u, hi, hu, h1, fun ha n e => ?_, h3, h4, fun hl => ?_, he t d h⟩
    · rw [ha] at h2
      refine ⟨fun e => by rw [e] at h2; simp [aggU] at h2, fun fs e => by rw [e] at h2; simp [aggU] at h2⟩
    · rcases h5 with h5 | h5
      · exact absurd hl h5
      · split at h5
        · rename_i z hz
          simp only [Bool.and_eq_true, beq_iff_eq] at h5
          obtain ⟨h6, h7⟩ := h5
          split at h6
          · rename_i l hd
            refine ⟨z, hz, by rw [hd, zEL_eq h6], ?_⟩
            rw [h7]
            cases z <;> simp [aggV]
          · cases h6
        · cases h5
  · cases this

end Go.Lv
