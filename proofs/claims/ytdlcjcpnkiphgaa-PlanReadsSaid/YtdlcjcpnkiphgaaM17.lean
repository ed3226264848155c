/-
  Part 17 of the texts under the proof: an abstract run of loaded code on data, and what the functions do. No condition.
-/
import Derived.Test.YtdlcjcpnkiphgaaM16
set_option linter.all false
set_option maxRecDepth 100000
namespace Go.Lv
open Go.Proofs

theorem plnR_szP (bs : List Int) (s : Rd) : szP (plnR bs s).2 := by
  have h := plnR_szQ bs s
  exact ⟨by have := h.len; omega, fun r hr => by have := h.st r hr; omega⟩
set_option maxHeartbeats 4000000 in
theorem l8 (bs : List Int) (hb : bs.length ≤ 140737488351232) : Tri Try.prog 8 0 [.list .imm (bs.map rowB)] [] (fun d l => d = .bool true) := by
  refine Tri.walk2 (L := LT) (c := {n := 39, ko := [2], xf := [10, 18]}) [] [0, 2, 3, 4, 5, 6, 7] hLT hmix Try.func8 rfl rfl ⟨rfl, rfl⟩ (by show 1 ≤ 39; decide) (by first | exact Nat.zero_le _ | exact Nat.le_refl _ | decide) ?_
  refine ⟨rfl, (by first | exact Nat.zero_le _ | decide), (c_draybook_Roomy_byte 93 bs hb (r := 0) (sto := []) (Nat.le_refl 0)).mono ?_⟩
  rintro d l ⟨rfl, rfl⟩
  refine ⟨rfl, fun _ _ => rfl, rfl, ?_⟩
  refine And.intro ⟨by omega, by rw [List.length_map, List.length_map, roomy_len]; omega⟩ (And.intro (Nat.zero_le _) (And.intro (of_decide_eq_true rfl) (And.intro (allLenB' _) ?_)))
  refine ⟨rfl, Nat.zero_le _, ?_⟩
  have e : List.take (((bs.map rowB).length : Int).toNat - 0) (List.drop 0 ((roomy 93 bs).map rowB)) = bs.map rowB := by
    rw [List.drop_zero, Int.toNat_natCast, List.length_map, Nat.sub_zero, ← List.map_take]
    unfold roomy
    rw [List.take_left]
  rw [e]
  refine (c_plan_Decode_0 bs hb).mono ?_
  rintro d l ⟨rfl, rfl⟩
  have cd := c_drayref9_Decode_0 bs hb
  have hz := plnR_szP bs ⟨0, 0, 0⟩
  have hi := c_draybook_Intact_byte_0 93 bs hb
  unfold decD at cd ⊢
  by_cases h0 : decE bs = 0
  · rw [if_pos h0] at cd ⊢
    have hro := c_draykeep_Routes_0 _ _ hz hz
    rw [decide_eq_true rfl] at hro
    refine ⟨rfl, fun _ _ => rfl, rfl, ?_⟩
    refine ⟨rfl, (by first | exact Nat.zero_le _ | decide), (cd).mono ?_⟩
    rintro d l ⟨rfl, rfl⟩
    refine ⟨rfl, fun _ _ => rfl, rfl, ?_⟩
    repeat (first | refine And.intro (fun _ => ?_) (fun h => Bool.noConfusion h) | refine And.intro (fun h => Bool.noConfusion h) (fun _ => ?_))
    refine ⟨rfl, (by first | exact Nat.zero_le _ | decide), (hro).mono ?_⟩
    rintro d l ⟨rfl, rfl⟩
    refine ⟨rfl, fun _ _ => rfl, rfl, ?_⟩
    repeat (first | refine And.intro (fun _ => ?_) (fun h => Bool.noConfusion h) | refine And.intro (fun h => Bool.noConfusion h) (fun _ => ?_))
    refine ⟨rfl, (by first | exact Nat.zero_le _ | decide), (hi).mono ?_⟩
    rintro d l ⟨rfl, rfl⟩
    refine ⟨rfl, fun _ _ => rfl, rfl, ?_⟩
    repeat (first | refine And.intro (fun _ => ?_) (fun h => Bool.noConfusion h) | refine And.intro (fun h => Bool.noConfusion h) (fun _ => ?_))
    refine ⟨rfl, (by first | exact Nat.zero_le _ | decide), (tRuns).mono ?_⟩
    rintro d l ⟨rfl, rfl⟩
    refine ⟨rfl, fun _ _ => rfl, rfl, ?_⟩
    exact rfl
  · rw [if_neg h0] at cd ⊢
    have hro := c_draykeep_Routes_0 [] [] ⟨by simp, by simp⟩ ⟨by simp, by simp⟩
    rw [decide_eq_true rfl] at hro
    refine ⟨rfl, fun _ _ => rfl, rfl, ?_⟩
    refine ⟨rfl, (by first | exact Nat.zero_le _ | decide), (cd).mono ?_⟩
    rintro d l ⟨rfl, rfl⟩
    refine ⟨rfl, fun _ _ => rfl, rfl, ?_⟩
    refine And.intro (fun _ => ?_) (fun h => absurd rfl (of_decide_eq_false h))
    repeat (first | refine And.intro (fun _ => ?_) (fun h => Bool.noConfusion h) | refine And.intro (fun h => Bool.noConfusion h) (fun _ => ?_))
    refine ⟨rfl, (by first | exact Nat.zero_le _ | decide), (hro).mono ?_⟩
    rintro d l ⟨rfl, rfl⟩
    refine ⟨rfl, fun _ _ => rfl, rfl, ?_⟩
    repeat (first | refine And.intro (fun _ => ?_) (fun h => Bool.noConfusion h) | refine And.intro (fun h => Bool.noConfusion h) (fun _ => ?_))
    refine ⟨rfl, (by first | exact Nat.zero_le _ | decide), (hi).mono ?_⟩
    rintro d l ⟨rfl, rfl⟩
    refine ⟨rfl, fun _ _ => rfl, rfl, ?_⟩
    repeat (first | refine And.intro (fun _ => ?_) (fun h => Bool.noConfusion h) | refine And.intro (fun h => Bool.noConfusion h) (fun _ => ?_))
    refine ⟨rfl, (by first | exact Nat.zero_le _ | decide), (tRuns).mono ?_⟩
    rintro d l ⟨rfl, rfl⟩
    refine ⟨rfl, fun _ _ => rfl, rfl, ?_⟩
    exact rfl
end Go.Lv
