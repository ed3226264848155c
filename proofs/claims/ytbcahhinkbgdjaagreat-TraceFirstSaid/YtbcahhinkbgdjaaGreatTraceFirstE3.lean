/-
  Part 3 of the texts under the proof: an abstract run of loaded code on data, and what the functions do. No condition.
-/
import Derived.Test.YtbcahhinkbgdjaaGreatTraceFirstE2
import Derived.JoinedCond
set_option linter.all false
set_option maxRecDepth 100000
namespace Go.Lv
open Go Go.ChangeShapes Go.WideShapes Go.ChangeAt Go.RowKit

section
variable {P : Program} {L : Ly} {H : Type} {enc : TypeId × Value → H} {W : World}
end

end Go.Lv

namespace Go.Lv
open Go

section
variable {P : Program} {T : St} {X : Ctx} {G : Gh} {s : DS} {a : Act} {w : World} {M : Ms} {Q : Ex → DS → Prop}
end
end Go.Lv

namespace Go.Lv
open Go.Proofs

theorem hmix : Tryz.prog.follows .mixedOrders = true := by kernel_rfl
theorem row_at {α : Type} {f : α → List D} (l : List α) {i : Nat} (hi : i < l.length) : (l.map f)[((i : Nat) : Int).toNat]? = some (f l[i]) := by
  rw [Int.toNat_natCast, List.getElem?_map, List.getElem?_eq_getElem hi]
  rfl
theorem wrap_succ {i n : Nat} (hi : i < n) (hn : n ≤ 1000000000000000) : IntKind.i64.wrap ((i : Int) + 1) = ((i + 1 : Nat) : Int) := by
  rw [wrap64 (by omega) (by omega)]
  omega
theorem row_at' {α : Type} (f : α → List D) (l : List α) {n : Int} {i : Nat} (h : n = (i : Int)) (hi : i < l.length) : (l.map f)[n.toNat]? = some (f l[i]) := by
  rw [h]
  exact row_at l hi
theorem nd_true {p : Prop} [Decidable p] (h : (!decide p) = true) : ¬ p := by simpa using h
theorem nd_false {p : Prop} [Decidable p] (h : (!decide p) = false) : p := by simpa using h
theorem wrapU (z : Int) : IntKind.u64.wrap z = z % 18446744073709551616 := by simp [IntKind.wrap, IntKind.bits, IntKind.signed]
noncomputable def rowB (z : Int) : List D := [.int .u8 z]
theorem allLenB (bs : List Int) : allLen 1 (bs.map rowB) = true := by
  simp [allLen, rowB]
theorem nrBLL_B : ∀ bs : List Int, nrBLL 0 (bs.map rowB) = true
  | [] => rfl
  | b :: r => by
    show (nrBL 0 (rowB b) && nrBLL 0 (r.map rowB)) = true
    rw [nrBLL_B r]
    rfl
theorem nrBL_B {bs : List Int} {d : D} (hd : nrB 0 d = true) : nrBL 0 [.list .imm (bs.map rowB), d] = true := by
  show (nrBLL 0 (bs.map rowB) && (nrB 0 d && true)) = true
  rw [nrBLL_B, hd]
  rfl
theorem NR.up {k k' : Nat} (h : k ≤ k') {d : D} (hd : NR k d) : NR k' d := by
  induction hd with
  | gptr j o hj => exact .gptr _ _ (Nat.lt_of_lt_of_le hj h)
  | map j hj => exact .map _ (Nat.lt_of_lt_of_le hj h)
  | fn f ds _ ih => exact .fn _ _ ih
  | list q xs _ ih => exact .list _ _ ih
  | agg cs _ ih => exact .agg _ ih
  | tup cs _ ih => exact .tup _ ih
  | int k n => exact .int _ _
  | bool b => exact .bool _
  | str s => exact .str _
  | nil => exact .nil
  | nilmap => exact .nilmap
  | nilfn => exact .nilfn
  | dead => exact .dead
theorem Tri.one {f : Nat} {o : Ob} {R : D → List Ob → Prop} (h : Tri Tryz.prog f 0 [.gptr 0 0] [o] R) (ho : nrO 0 o = true) (hbx : ([o].drop 0).all boxOK = true)
    (hok : ∀ d l, R d l → partsOK d = true ∧ (l.drop 0).all boxOK = true) {r b : Nat} {sto : List Ob} (hr : r ≤ b) (hb : sto[b]? = some o) (hid : ∀ ρ, renO ρ o = o) :
    Tri Tryz.prog f r [.gptr b 0] sto (fun d l => ∃ d' l', R d' l' ∧ d = renD (extR (fun _ => b) 1 sto.length) d' ∧ l = backSto (fun _ => b) 1 sto l') := by
  have hlt : b < sto.length := (List.getElem?_eq_some_iff.1 hb).1
  exact Tri.ren (r := r) (sto := sto) (fun _ => b) h (fun i j hi hj e => by
      have hi : i < 1 := hi
      have hj : j < 1 := hj
      omega) (fun i o' hi => by
      match i, hi with
      | 0, hi =>
        have : o' = o := by simpa using hi.symm
        rw [this, hid]
        exact hb
      | i + 1, hi => simp at hi) (fun i hi => ⟨fun h => absurd h (Nat.not_lt_zero _), fun h => by have : b < r := h; omega⟩) (by omega) rfl (fun x hx => by
      have : x = .gptr 0 0 := by simpa using hx
      rw [this]
      exact .gptr _ _ (by show 0 < 1; omega)) (fun o' ho' => by
      have : o' = o := by simpa using ho'
      rw [this]
      have h := nrO_nr (k := 0) ho
      cases o with
      | box cs => exact fun d hd => (h d hd).up (Nat.zero_le _)
      | map es => trivial) hbx hok
end Go.Lv

namespace Go.Lv
open Go.Proofs

theorem c_wire_again_0 (bs : List Int) (hb : bs.length ≤ 140737488354000) (k : Int) (h1 : 0 ≤ k) (h2 : k ≤ 1000) :
    Tri Tryz.prog 30 0 [.list .imm (bs.map rowB), .int .i64 k] [] (fun d l => d = .list (.own 1) (bs.map rowB) ∧ l = []) := by
  refine Tri.walk2 (L := LT) (c := {la := false, n := 14, ko := [4, 5], xf := [11]}) [] [0, 1, 4, 5] hLT hmix Tryz.func30 rfl rfl ⟨rfl, rfl⟩ (by show 2 ≤ 14; decide) (Nat.le_refl _) ?_
  have hw : IntKind.i64.wrap (((bs.map rowB).length : Int) + k) = (bs.length : Int) + k := by
    rw [List.length_map, wrap64 (by omega) (by omega)]
  refine And.intro ?_ ?_
  · show 0 ≤ 0 ∧ (0 : Int) ≤ IntKind.i64.wrap (((bs.map rowB).length : Int) + k) ∧ IntKind.i64.wrap (((bs.map rowB).length : Int) + k) * (1 : Nat) ≤ 2 * (140737488355328 : Nat) ∧ IntKind.i64.wrap (((bs.map rowB).length : Int) + k) ≤ 9223372036854775807 ∧ 0 < 1
    rw [hw]
    omega
  refine And.intro trivial ?_
  refine And.intro rfl (And.intro ?_ (And.intro ?_ ?_))
  · show (0 + (bs.map rowB).length) * 1 ≤ 140737488355328
    simp only [List.length_map]
    omega
  · simp [allLen, rowB]
    intro a _
    rfl
  exact And.intro rfl rfl
end Go.Lv

namespace Go.Lv
open Go.Proofs

noncomputable def stR (fa fw : Int) (bs : List Int) (p : Int) : List Ob := [.box [.int .i64 fa, .int .i64 fw, .list .imm (bs.map rowB), .int .i64 p]]
theorem c_wire_Reader_fail (fa fw p a e : Int) (bs : List Int) : Tri Tryz.prog 56 0 [.gptr 0 0, .int .i64 a, .int .i64 e] (stR fa fw bs p) (fun d l => d = .tup [] ∧ l = stR a e bs a) := by
  refine Tri.walk2 (L := LT) (c := {la := false, n := 16}) [] [0, 1, 2] hLT hmix Tryz.func56 rfl rfl ⟨rfl, rfl⟩ (by show 3 ≤ 16; decide) (Nat.zero_le _) ?_
  exact And.intro rfl rfl
theorem c_api_Fault_Good_0 (fa fw : Int) : Tri Tryz.prog 21 0 [.agg [.int .i64 fa, .int .i64 fw]] [] (fun d l => d = .bool (decide (fw = 0)) ∧ l = []) := by
  refine Tri.walk2 (L := LT) (c := {la := false, n := 6, ko := [2]}) [] [1, 2] hLT hmix Tryz.func21 rfl rfl ⟨rfl, rfl⟩ (by show 1 ≤ 6; decide) (Nat.zero_le _) ?_
  refine And.intro (fun h => And.intro (by rw [h]) rfl) (fun h => And.intro (by rw [h]) rfl)
noncomputable def zagU (u : Int) : Int := IntKind.i64.wrap (BitVec.ofInt IntKind.i64.bits (IntKind.i64.wrap (u.fdiv (2 ^ min (Int.toNat 1) IntKind.u64.bits))) ^^^ BitVec.ofInt IntKind.i64.bits (IntKind.i64.wrap (0 - IntKind.i64.wrap (IntKind.u64.wrap (BitVec.ofInt IntKind.u64.bits u &&& BitVec.ofInt IntKind.u64.bits 1).toNat)))).toNat
theorem c_wire_zag_0 (u : Int) : Tri Tryz.prog 71 0 [.int .u64 u] [] (fun d l => d = .int .i64 (zagU u) ∧ l = []) := by
  refine Tri.walk2 (L := LT) (c := {la := false, n := 11, ko := [2]}) [] [0, 2] hLT hmix Tryz.func71 rfl rfl ⟨rfl, rfl⟩ (by show 1 ≤ 11; decide) (Nat.zero_le _) ?_
  exact And.intro rfl rfl
noncomputable def grp (c : Int) : Int := IntKind.u64.wrap (IntKind.u8.wrap (BitVec.ofInt IntKind.u8.bits c &&& BitVec.ofInt IntKind.u8.bits 127).toNat)
noncomputable def orU (u c : Int) (k : Nat) : Int := IntKind.u64.wrap (BitVec.ofInt IntKind.u64.bits u ||| BitVec.ofInt IntKind.u64.bits (IntKind.u64.wrap (grp c * 2 ^ min (7 * k) IntKind.u64.bits))).toNat
noncomputable def numL : List Int → Nat → Int → Nat → Int × Int × Nat
  | [], _, _, _ => (3, 0, 0)
  | c :: r, k, u, p => if (k : Int) = 9 ∧ c > 1 then (4, 0, 0) else if c ≥ 128 then numL r (k + 1) (orU u c k) (p + 1) else if c = 0 ∧ (k : Int) > 0 then (4, 0, 0) else (0, zagU (orU u c k), p + 1)
theorem numL_bad {c u : Int} {r : List Int} {k p : Nat} (h : (k : Int) = 9 ∧ c > 1) : numL (c :: r) k u p = (4, 0, 0) := by simp only [numL]; rw [if_pos h]
theorem numL_more {c u : Int} {r : List Int} {k p : Nat} (h : ¬ ((k : Int) = 9 ∧ c > 1)) (hc : c ≥ 128) : numL (c :: r) k u p = numL r (k + 1) (orU u c k) (p + 1) := by simp only [numL]; rw [if_neg h, if_pos hc]
theorem numL_zero {c u : Int} {r : List Int} {k p : Nat} (h : ¬ ((k : Int) = 9 ∧ c > 1)) (hc : ¬ c ≥ 128) (h0 : c = 0) (h4 : (k : Int) > 0) : numL (c :: r) k u p = (4, 0, 0) := by simp only [numL]; rw [if_neg h, if_neg hc, if_pos ⟨h0, h4⟩]
theorem numL_ok {c u : Int} {r : List Int} {k p : Nat} (h : ¬ ((k : Int) = 9 ∧ c > 1)) (hc : ¬ c ≥ 128) (h4 : ¬ (c = 0 ∧ (k : Int) > 0)) : numL (c :: r) k u p = (0, zagU (orU u c k), p + 1) := by simp only [numL]; rw [if_neg h, if_neg hc, if_neg h4]
noncomputable def outN (fa fw from' : Int) (bs : List Int) (x : Int × Int × Nat) : List Ob := if x.1 = 0 then stR fa fw bs x.2.2 else stR from' x.1 bs from'
theorem sh_ask {x b : Int} {k : Nat} {kk : IntKind} (hb : b = 7 * (k : Int)) : binD LT 108 .shl (.int .u64 x) (.int kk b) = some (.int .u64 (IntKind.u64.wrap (x * 2 ^ min (7 * k) IntKind.u64.bits))) := by
  subst hb
  show (if (7 * (k : Int)) < 0 then none else some (D.int .u64 (IntKind.u64.wrap (x * 2 ^ min (7 * (k : Int)).toNat IntKind.u64.bits)))) = _
  rw [if_neg (by omega)]
  have : (7 * (k : Int)).toNat = 7 * k := by omega
  rw [this]
noncomputable def sN (fa fw from' : Int) (bs : List Int) (k : Nat) (u : Int) (p : Nat) : DS := ⟨[(0, .gptr 0 0), (1, .int .i64 from'), (5, .int .u64 u), (6, .int .i64 (k : Int)), (4, .int .i64 0)], [], stR fa fw bs p, mR 0⟩
set_option maxHeartbeats 4000000 in
theorem c_wire_Reader_num (fa fw from' : Int) (bs : List Int) (hb : bs.length ≤ 140737488351232) (p : Nat) (hp : p ≤ bs.length) :
    Tri Tryz.prog 53 0 [.gptr 0 0, .int .i64 from'] (stR fa fw bs p) (fun d l => d = .int .i64 (numL (bs.drop p) 0 0 p).2.1 ∧ l = outN fa fw from' bs (numL (bs.drop p) 0 0 p)) := by
  refine Tri.walk2 (L := LT) (c := {la := false, n := 71, ko := [4], fs := [56]}) [(56, 1, [])] [0, 1, 4, 5, 6, 7, 19, 38, 59, 65] hLT hmix Tryz.func53 rfl rfl ⟨rfl, rfl⟩ (by show 2 ≤ 71; decide) (Nat.zero_le _) ?_
  show Ok _ _ _ _ _
  refine Ok.loopN hLT hmix [(56, 1, [])] [0, 1, 4, 5, 6, 7, 19, 38, 59, 65] [0, 1, 5, 6, 4] [] (fun n s => ∃ (k : Nat) (u : Int) (q : Nat), n = bs.length - q ∧ q ≤ bs.length ∧ k ≤ 9 ∧ numL (bs.drop q) k u q = numL (bs.drop p) 0 0 p ∧ s = sN fa fw from' bs k u q) (n := bs.length - p) ⟨0, 0, p, rfl, hp, by omega, rfl, rfl⟩ ?_
  rintro n s ⟨k, u, q, rfl, hq, hk, hnum, rfl⟩
  rw [← hnum]
  refine ⟨⟨1023, [0, 1, 2, 4, 0, 16, 32, 64, 128, 264], [1, 3, 7, 15, 16, 48, 112, 240, 496, 1023]⟩, by kernel_rfl, ?_⟩
  refine And.intro (fun h1 => ?_) (fun h1 => ?_)
  · have h1 : ((q : Nat) : Int) ≥ ((bs.map rowB).length : Int) := of_decide_eq_true h1
    rw [List.length_map] at h1
    have hd : bs.drop q = [] := List.drop_eq_nil_of_le (by omega)
    refine ⟨rfl, Nat.le_refl 0, (c_wire_Reader_fail fa fw q from' 3 bs).mono ?_⟩
    rintro d l ⟨rfl, rfl⟩
    refine ⟨rfl, fun k hk => absurd hk (Nat.not_lt_zero k), rfl, ?_⟩
    rw [hd]
    exact And.intro rfl rfl
  · have h1 : ¬ ((q : Nat) : Int) ≥ ((bs.map rowB).length : Int) := of_decide_eq_false h1
    rw [List.length_map] at h1
    have hq1 : q < bs.length := by omega
    have hd : bs.drop q = bs[q] :: bs.drop (q + 1) := List.drop_eq_getElem_cons hq1
    have hrow := row_at (f := rowB) bs hq1
    have hw : IntKind.i64.wrap ((q : Int) + 1) = ((q + 1 : Nat) : Int) := wrap_succ hq1 (by omega)
    have hwk : IntKind.i64.wrap ((k : Int) + 1) = ((k + 1 : Nat) : Int) := wrap_succ (n := 10) (by omega) (by omega)
    rw [hd]
    generalize bs[q] = c at hrow
    refine ⟨⟨2047, [0, 1, 2, 4, 0, 16, 32, 64, 136, 256, 1023], [1, 3, 7, 15, 16, 48, 112, 240, 511, 1023, 2047]⟩, by kernel_rfl, ?_⟩
    refine ⟨bs.map rowB, rowB c, rfl, by omega, hrow, rfl, (by show 0 < 1; decide), ?_⟩
    refine And.intro rfl ?_
    refine And.intro ?_ trivial
    refine And.intro trivial ?_
    have hB : IntKind.u64.wrap (IntKind.i64.wrap (7 * (k : Int))) = 7 * (k : Int) := by
      rw [wrap64 (by omega) (by omega), wrapU]
      omega
    refine And.intro (fun h2 => ?_) (fun h2 => ?_)
    · have h2 : (k : Int) = 9 := of_decide_eq_true h2
      refine And.intro (fun h3 => ?_) (fun h3 => ?_)
      · have h3 : c > 1 := of_decide_eq_true h3
        refine ⟨rfl, Nat.le_refl 0, (c_wire_Reader_fail fa fw q from' 4 bs).mono ?_⟩
        rintro d l ⟨rfl, rfl⟩
        refine ⟨rfl, fun k hk => absurd hk (Nat.not_lt_zero k), rfl, ?_⟩
        rw [numL_bad ⟨h2, h3⟩]
        exact And.intro rfl rfl
      · have h3 : ¬ c > 1 := of_decide_eq_false h3
        have hbad : ¬ ((k : Int) = 9 ∧ c > 1) := fun h => h3 h.2
        refine Exists.intro _ (And.intro (sh_ask (x := grp c) hB) ?_)
        refine And.intro (fun hc => ?_) (fun hc => ?_)
        · have hc : c ≥ 128 := of_decide_eq_true hc
          have hk9 : k + 1 ≤ 9 := by
            rcases Nat.lt_or_ge k 9 with h | h
            · omega
            · exact absurd ⟨by omega, by omega⟩ hbad
          refine ⟨bs.length - (q + 1), by omega, k + 1, orU u c k, q + 1, rfl, by omega, hk9, (numL_more hbad hc).symm, ?_⟩
          unfold sN stR
          rw [← hwk, ← hw]
          rfl
        · have hc : ¬ c ≥ 128 := of_decide_eq_false hc
          refine And.intro (fun h0 => ?_) (fun h0 => ?_)
          · have h0 : c = 0 := of_decide_eq_true h0
            refine And.intro (fun h4 => ?_) (fun h4 => ?_)
            · have h4 : (k : Int) > 0 := of_decide_eq_true h4
              refine ⟨rfl, Nat.le_refl 0, (c_wire_Reader_fail fa fw (IntKind.i64.wrap ((q : Int) + 1)) from' 4 bs).mono ?_⟩
              rintro d l ⟨rfl, rfl⟩
              refine ⟨rfl, fun k hk => absurd hk (Nat.not_lt_zero k), rfl, ?_⟩
              rw [numL_zero hbad hc h0 h4]
              exact And.intro rfl rfl
            · have h4 : ¬ (k : Int) > 0 := of_decide_eq_false h4
              refine ⟨rfl, Nat.zero_le 1, ((c_wire_zag_0 (orU u c k)).pure rfl rfl rfl rfl (r := 1) (sto := stR fa fw bs (IntKind.i64.wrap ((q : Int) + 1))) (Nat.le_refl 1)).mono ?_⟩
              rintro d l ⟨rfl, rfl⟩
              refine ⟨rfl, fun _ _ => rfl, rfl, ?_⟩
              rw [numL_ok hbad hc (fun h => h4 h.2)]
              refine And.intro rfl ?_
              rw [hw]
              rfl
          · have h0 : ¬ c = 0 := of_decide_eq_false h0
            refine ⟨rfl, Nat.zero_le 1, ((c_wire_zag_0 (orU u c k)).pure rfl rfl rfl rfl (r := 1) (sto := stR fa fw bs (IntKind.i64.wrap ((q : Int) + 1))) (Nat.le_refl 1)).mono ?_⟩
            rintro d l ⟨rfl, rfl⟩
            refine ⟨rfl, fun _ _ => rfl, rfl, ?_⟩
            rw [numL_ok hbad hc (fun h => h0 h.1)]
            refine And.intro rfl ?_
            rw [hw]
            rfl
    · have h2 : ¬ (k : Int) = 9 := of_decide_eq_false h2
      have hbad : ¬ ((k : Int) = 9 ∧ c > 1) := fun h => h2 h.1
      refine Exists.intro _ (And.intro (sh_ask (x := grp c) hB) ?_)
      refine And.intro (fun hc => ?_) (fun hc => ?_)
      · have hc : c ≥ 128 := of_decide_eq_true hc
        have hk9 : k + 1 ≤ 9 := by
          rcases Nat.lt_or_ge k 9 with h | h
          · omega
          · exact absurd ⟨by omega, by omega⟩ hbad
        refine ⟨bs.length - (q + 1), by omega, k + 1, orU u c k, q + 1, rfl, by omega, hk9, (numL_more hbad hc).symm, ?_⟩
        unfold sN stR
        rw [← hwk, ← hw]
        rfl
      · have hc : ¬ c ≥ 128 := of_decide_eq_false hc
        refine And.intro (fun h0 => ?_) (fun h0 => ?_)
        · have h0 : c = 0 := of_decide_eq_true h0
          refine And.intro (fun h4 => ?_) (fun h4 => ?_)
          · have h4 : (k : Int) > 0 := of_decide_eq_true h4
            refine ⟨rfl, Nat.le_refl 0, (c_wire_Reader_fail fa fw (IntKind.i64.wrap ((q : Int) + 1)) from' 4 bs).mono ?_⟩
            rintro d l ⟨rfl, rfl⟩
            refine ⟨rfl, fun k hk => absurd hk (Nat.not_lt_zero k), rfl, ?_⟩
            rw [numL_zero hbad hc h0 h4]
            exact And.intro rfl rfl
          · have h4 : ¬ (k : Int) > 0 := of_decide_eq_false h4
            refine ⟨rfl, Nat.zero_le 1, ((c_wire_zag_0 (orU u c k)).pure rfl rfl rfl rfl (r := 1) (sto := stR fa fw bs (IntKind.i64.wrap ((q : Int) + 1))) (Nat.le_refl 1)).mono ?_⟩
            rintro d l ⟨rfl, rfl⟩
            refine ⟨rfl, fun _ _ => rfl, rfl, ?_⟩
            rw [numL_ok hbad hc (fun h => h4 h.2)]
            refine And.intro rfl ?_
            rw [hw]
            rfl
        · have h0 : ¬ c = 0 := of_decide_eq_false h0
          refine ⟨rfl, Nat.zero_le 1, ((c_wire_zag_0 (orU u c k)).pure rfl rfl rfl rfl (r := 1) (sto := stR fa fw bs (IntKind.i64.wrap ((q : Int) + 1))) (Nat.le_refl 1)).mono ?_⟩
          rintro d l ⟨rfl, rfl⟩
          refine ⟨rfl, fun _ _ => rfl, rfl, ?_⟩
          rw [numL_ok hbad hc (fun h => h0 h.1)]
          refine And.intro rfl ?_
          rw [hw]
          rfl
structure Rd where
  fa : Int
  fw : Int
  p : Nat
noncomputable def stRd (bs : List Int) (s : Rd) : List Ob := stR s.fa s.fw bs s.p
theorem numL_pos : ∀ (l : List Int) (k : Nat) (u : Int) (p : Nat), (numL l k u p).2.2 ≤ p + l.length
  | [], k, u, p => by simp [numL]
  | c :: r, k, u, p => by
    unfold numL
    split
    · simp
    · split
      · have := numL_pos r (k + 1) (orU u c k) (p + 1)
        simp only [List.length_cons]
        omega
      · split
        · simp
        · simp only [List.length_cons]
          omega
noncomputable def numRd (bs : List Int) (s : Rd) : Int × Rd := if s.fw = 0 then ((numL (bs.drop s.p) 0 0 s.p).2.1, if (numL (bs.drop s.p) 0 0 s.p).1 = 0 then ⟨s.fa, s.fw, (numL (bs.drop s.p) 0 0 s.p).2.2⟩ else ⟨s.p, (numL (bs.drop s.p) 0 0 s.p).1, s.p⟩) else (0, s)
theorem numRd_pos {bs : List Int} {s : Rd} (h : s.p ≤ bs.length) : (numRd bs s).2.p ≤ bs.length := by
  unfold numRd
  split
  · have := numL_pos (bs.drop s.p) 0 0 s.p
    rw [List.length_drop] at this
    simp only
    split
    · show (numL (bs.drop s.p) 0 0 s.p).2.2 ≤ bs.length
      omega
    · exact h
  · exact h
theorem outN_rd (bs : List Int) (s : Rd) (h : s.fw = 0) : outN s.fa s.fw (s.p : Int) bs (numL (bs.drop s.p) 0 0 s.p) = stRd bs (numRd bs s).2 := by
  unfold outN numRd stRd
  rw [if_pos h]
  simp only
  split <;> rfl
theorem c_wire_Reader_Num (bs : List Int) (hb : bs.length ≤ 140737488351232) (s : Rd) (hp : s.p ≤ bs.length) :
    Tri Tryz.prog 36 0 [.gptr 0 0] (stRd bs s) (fun d l => d = .int .i64 (numRd bs s).1 ∧ l = stRd bs (numRd bs s).2) := by
  refine Tri.walk2 (L := LT) (c := {la := false, n := 19, ko := [2]}) [(53, 1, [])] [0, 2, 12] hLT hmix Tryz.func36 rfl rfl ⟨rfl, rfl⟩ (by show 1 ≤ 19; decide) (Nat.zero_le _) ?_
  refine And.intro (fun h => by cases h) (fun _ => ?_)
  refine ⟨rfl, Nat.zero_le 1, ((c_api_Fault_Good_0 s.fa s.fw).pure rfl rfl rfl rfl (r := 1) (sto := stRd bs s) (Nat.le_refl 1)).mono ?_⟩
  rintro d l ⟨hd, rfl⟩
  by_cases hf : s.fw = 0
  · rw [decide_eq_true hf] at hd
    subst hd
    refine ⟨rfl, fun _ _ => rfl, rfl, ?_⟩
    refine ⟨rfl, Nat.le_refl 0, (c_wire_Reader_num s.fa s.fw (s.p : Int) bs hb s.p hp).mono ?_⟩
    rintro d l ⟨rfl, rfl⟩
    refine ⟨rfl, fun k hk => absurd hk (Nat.not_lt_zero k), ?_, ?_⟩
    · rw [outN_rd bs s hf]; rfl
    rw [outN_rd bs s hf]
    refine And.intro ?_ rfl
    unfold numRd
    rw [if_pos hf]
  · rw [decide_eq_false hf] at hd
    subst hd
    refine ⟨rfl, fun _ _ => rfl, rfl, ?_⟩
    have : numRd bs s = (0, s) := by unfold numRd; rw [if_neg hf]
    rw [this]
    exact And.intro rfl rfl
theorem c_wire_Read_0 (bs : List Int) (hb : bs.length ≤ 140737488351232) : Tri Tryz.prog 35 0 [.list .imm (bs.map rowB)] [] (fun d l => d = .gptr 0 0 ∧ l = stRd bs ⟨0, 0, 0⟩) := by
  refine Tri.walk2 (L := LT) (c := {la := false, n := 7, ko := [2], gl := [6]}) [] [0, 2] hLT hmix Tryz.func35 rfl rfl ⟨rfl, rfl⟩ (by show 1 ≤ 7; decide) (Nat.zero_le _) ?_
  refine ⟨rfl, Nat.le_refl 0, (c_wire_again_0 bs (by omega) 0 (by omega) (by omega)).mono ?_⟩
  rintro d l ⟨rfl, rfl⟩
  refine ⟨rfl, fun _ _ => rfl, rfl, ?_⟩
  exact And.intro rfl rfl
noncomputable def endRd (bs : List Int) (s : Rd) : Int × Rd := if s.fw = 0 ∧ s.p < bs.length then (5, ⟨s.p, 5, s.p⟩) else (s.fw, s)
theorem c_wire_Reader_End (bs : List Int) (s : Rd) :
    Tri Tryz.prog 39 0 [.gptr 0 0] (stRd bs s) (fun d l => d = .int .i64 (endRd bs s).1 ∧ l = stRd bs (endRd bs s).2) := by
  refine Tri.walk2 (L := LT) (c := {la := false, n := 33, ko := [2]}) [(56, 1, [])] [0, 2, 4, 21] hLT hmix Tryz.func39 rfl rfl ⟨rfl, rfl⟩ (by show 1 ≤ 33; decide) (Nat.zero_le _) ?_
  refine And.intro (fun h => by cases h) (fun _ => ?_)
  refine ⟨⟨131071, [0, 1, 2, 4, 8, 16, 32, 96, 160, 288, 32, 1056, 2080, 4128, 8224, 16928, 32800], [1, 3, 7, 15, 31, 63, 127, 255, 511, 1023, 1087, 3135, 7231, 15423, 31807, 65535, 131071]⟩, by kernel_rfl, ?_⟩
  refine And.intro ?_ trivial
  refine ⟨rfl, Nat.zero_le 1, ((c_api_Fault_Good_0 s.fa s.fw).pure rfl rfl rfl rfl (r := 1) (sto := stRd bs s) (Nat.le_refl 1)).mono ?_⟩
  rintro d l ⟨hd, rfl⟩
  unfold endRd
  by_cases hf : s.fw = 0
  · rw [decide_eq_true hf] at hd
    subst hd
    refine ⟨rfl, fun _ _ => rfl, rfl, ?_⟩
    refine And.intro trivial ?_
    refine And.intro (fun _ => ?_) (fun h => by cases h)
    refine And.intro (fun h => ?_) (fun h => ?_)
    · have h : ((s.p : Nat) : Int) < ((bs.map rowB).length : Int) := of_decide_eq_true h
      rw [List.length_map] at h
      refine And.intro (fun _ => ?_) (fun h => by cases h)
      refine ⟨rfl, Nat.le_refl 0, (c_wire_Reader_fail s.fa s.fw s.p s.p 5 bs).mono ?_⟩
      rintro d l ⟨rfl, rfl⟩
      refine ⟨rfl, fun k hk => absurd hk (Nat.not_lt_zero k), rfl, ?_⟩
      rw [if_pos ⟨hf, by omega⟩]
      exact And.intro rfl rfl
    · have h : ¬ ((s.p : Nat) : Int) < ((bs.map rowB).length : Int) := of_decide_eq_false h
      rw [List.length_map] at h
      refine And.intro (fun h => by cases h) (fun _ => ?_)
      rw [if_neg (fun q => h (by omega))]
      exact And.intro rfl rfl
  · rw [decide_eq_false hf] at hd
    subst hd
    refine ⟨rfl, fun _ _ => rfl, rfl, ?_⟩
    refine And.intro trivial ?_
    rw [if_neg (fun q => hf q.1)]
    refine And.intro (fun h => by cases h) (fun _ => ?_)
    refine And.intro (fun h => by cases h) (fun _ => ?_)
    exact And.intro rfl rfl
theorem numL_err : ∀ (l : List Int) (k : Nat) (u : Int) (p : Nat), (numL l k u p).1 ≠ 0 → (numL l k u p).2.1 = 0
  | [], k, u, p, _ => rfl
  | c :: r, k, u, p, h => by
    unfold numL at h ⊢
    split at h
    · rename_i hb
      rw [if_pos hb]
    · rename_i hb
      rw [if_neg hb]
      split at h
      · rename_i hc
        rw [if_pos hc]
        exact numL_err r _ _ _ h
      · rename_i hc
        rw [if_neg hc]
        split at h
        · rename_i h0
          rw [if_pos h0]
        · exact absurd rfl h
theorem ofInt64 {z : Int} (h0 : 0 ≤ z) (h1 : z < 18446744073709551616) : (BitVec.ofInt 64 z).toNat = z.toNat := by
  rw [BitVec.toNat_ofInt]
  omega
theorem zag_form {w u : Int} (hw0 : 0 ≤ w) (hw1 : w < 18446744073709551616) (hu : w / 2 = u) : zagU w = IntKind.i64.wrap ((BitVec.ofInt 64 (IntKind.i64.wrap u) ^^^ BitVec.ofInt 64 (IntKind.i64.wrap (0 - IntKind.i64.wrap (IntKind.u64.wrap (w % 2))))).toNat : Int) := by
  have hf : w.fdiv (2 ^ min (Int.toNat 1) IntKind.u64.bits) = u := by
    rw [show (2 : Int) ^ min (Int.toNat 1) IntKind.u64.bits = 2 by decide, Int.fdiv_eq_ediv_of_nonneg _ (by omega), hu]
  have ha : (((BitVec.ofInt 64 w &&& BitVec.ofInt 64 1).toNat : Nat) : Int) = w % 2 := by
    rw [BitVec.toNat_and, ofInt64 hw0 hw1, show (BitVec.ofInt 64 1).toNat = 1 by decide, Nat.and_one_is_mod]
    omega
  show IntKind.i64.wrap ((BitVec.ofInt 64 (IntKind.i64.wrap (w.fdiv (2 ^ min (Int.toNat 1) IntKind.u64.bits))) ^^^ BitVec.ofInt 64 (IntKind.i64.wrap (0 - IntKind.i64.wrap (IntKind.u64.wrap ((BitVec.ofInt 64 w &&& BitVec.ofInt 64 1).toNat : Int))))).toNat : Int) = _
  rw [hf, ha]
theorem zag_nonneg {u : Int} (h0 : 0 ≤ u) (h1 : u < 9223372036854775808) : zagU (2 * u) = u := by
  have e : IntKind.i64.wrap (0 - IntKind.i64.wrap (IntKind.u64.wrap 0)) = 0 := by decide +kernel
  have eu : IntKind.i64.wrap u = u := wrap64 (by omega) (by omega)
  rw [zag_form (u := u) (by omega) (by omega) (by omega), show 2 * u % 2 = 0 by omega, e, eu, show BitVec.ofInt 64 0 = 0#64 by decide, BitVec.xor_zero, ofInt64 h0 (by omega), wrap64 (by omega) (by omega)]
  omega
theorem zag_neg {u : Int} (h0 : 0 ≤ u) (h1 : u < 9223372036854775808) : zagU (2 * u + 1) = -u - 1 := by
  have e : IntKind.i64.wrap (0 - IntKind.i64.wrap (IntKind.u64.wrap 1)) = -1 := by decide +kernel
  have eu : IntKind.i64.wrap u = u := wrap64 (by omega) (by omega)
  rw [zag_form (u := u) (by omega) (by omega) (by omega), show (2 * u + 1) % 2 = 1 by omega, e, eu, show BitVec.ofInt 64 (-1) = BitVec.allOnes 64 by decide, BitVec.xor_allOnes, BitVec.toNat_not, ofInt64 h0 (by omega), IntKind.wrap_i64]
  omega
end Go.Lv

namespace Go.Lv
open Go.Proofs

noncomputable def xrdO (bs : List Int) (s : Rd) : Ob := .box [.list .imm (bs.map rowB), .int .i64 (s.p : Int), .int .i64 s.fa, .int .i64 s.fw]
noncomputable def stX (bs : List Int) (s : Rd) : List Ob := [xrdO bs s]
noncomputable def xn (n : Int) : Int := IntKind.i64.wrap (BitVec.ofInt IntKind.i64.bits (if IntKind.i64.signed then -1 else IntKind.i64.max) ^^^ BitVec.ofInt IntKind.i64.bits n).toNat
noncomputable def hf (u : Int) : Int := IntKind.i64.wrap (u.fdiv (2 ^ min (Int.toNat 1) IntKind.u64.bits))
noncomputable def odd1 (u : Int) : Int := IntKind.u64.wrap (BitVec.ofInt IntKind.u64.bits u &&& BitVec.ofInt IntKind.u64.bits 1).toNat
theorem odd1_eq {u : Int} (h0 : 0 ≤ u) (h1 : u < 18446744073709551616) : odd1 u = u % 2 := by
  unfold odd1
  have e : ((BitVec.ofInt 64 u &&& BitVec.ofInt 64 1).toNat : Int) = u % 2 := by
    rw [BitVec.toNat_and, ofInt64 h0 h1, show (BitVec.ofInt 64 1).toNat = 1 by decide, Nat.and_one_is_mod]
    omega
  show IntKind.u64.wrap ((BitVec.ofInt 64 u &&& BitVec.ofInt 64 1).toNat : Int) = _
  rw [e, wrapU]
  omega
theorem hf_eq {u : Int} (h0 : 0 ≤ u) (h1 : u < 18446744073709551616) : hf u = u / 2 := by
  unfold hf
  rw [show (2 : Int) ^ min (Int.toNat 1) IntKind.u64.bits = 2 by decide, Int.fdiv_eq_ediv_of_nonneg _ (by omega), wrap64 (by omega) (by omega)]
theorem zag_odd {u : Int} (h0 : 0 ≤ u) (h1 : u < 18446744073709551616) (h : odd1 u = 1) : xn (hf u) = zagU u := by
  rw [odd1_eq h0 h1] at h
  have hu : u = 2 * (u / 2) + 1 := by omega
  have hz : zagU u = -(u / 2) - 1 := by
    conv => lhs; rw [hu]
    exact zag_neg (by omega) (by omega)
  rw [hz, hf_eq h0 h1]
  show IntKind.i64.wrap ((BitVec.ofInt 64 (-1) ^^^ BitVec.ofInt 64 (u / 2)).toNat : Int) = _
  rw [show BitVec.ofInt 64 (-1) = BitVec.allOnes 64 by decide, BitVec.allOnes_xor, BitVec.toNat_not, ofInt64 (by omega) (by omega), IntKind.wrap_i64]
  omega
theorem zag_even {u : Int} (h0 : 0 ≤ u) (h1 : u < 18446744073709551616) (h : ¬ odd1 u = 1) : hf u = zagU u := by
  rw [odd1_eq h0 h1] at h
  have hu : u = 2 * (u / 2) := by omega
  have hz : zagU u = u / 2 := by
    conv => lhs; rw [hu]
    exact zag_nonneg (by omega) (by omega)
  rw [hz, hf_eq h0 h1]
theorem orU_range (u c : Int) (k : Nat) : 0 ≤ orU u c k ∧ orU u c k < 18446744073709551616 := by
  unfold orU
  rw [wrapU]
  omega
noncomputable def sM (bs : List Int) (p k : Nat) (u : Int) : DS := ⟨[(0, .list .imm (bs.map rowB)), (1, .int .i64 (p : Int)), (7, .int .u64 u), (8, .int .i64 (k : Int)), (4, .int .i64 0), (5, .int .i64 0), (6, .int .i64 0)], [], [], mR 0⟩
noncomputable def tupN (x : Int × Int × Nat) : D := .tup [.int .i64 x.2.1, .int .i64 (x.2.2 : Int), .int .i64 x.1]
set_option maxHeartbeats 4000000 in
theorem c_drayref3_number_0 (bs : List Int) (hb : bs.length ≤ 140737488351232) (p : Nat) (hp : p ≤ bs.length) :
    Tri Tryz.prog 57 0 [.list .imm (bs.map rowB), .int .i64 (p : Int)] [] (fun d l => d = tupN (numL (bs.drop p) 0 0 p) ∧ l = []) := by
  refine Tri.walk2 (L := LT) (c := {la := false, n := 62, ko := [4, 5, 6], fs := [39]}) [] [0, 1, 4, 5, 6, 7, 8, 9, 10, 12, 20, 32, 42, 48, 54] hLT hmix Tryz.func57 rfl rfl ⟨rfl, rfl⟩ (by show 2 ≤ 62; decide) (Nat.le_refl _) ?_
  show Ok _ _ _ _ _
  refine Ok.loopN hLT hmix [] [0, 1, 4, 5, 6, 7, 8, 9, 10, 12, 20, 32, 42, 48, 54] [0, 1, 7, 8, 4, 5, 6] [] (fun n s => ∃ (k : Nat) (u : Int), n = 10 - k ∧ k ≤ 9 ∧ p + k ≤ bs.length ∧ numL (bs.drop (p + k)) k u (p + k) = numL (bs.drop p) 0 0 p ∧ s = sM bs p k u) (n := 10) ⟨0, 0, rfl, by omega, hp, rfl, rfl⟩ ?_
  rintro n s ⟨k, u, rfl, hk, hq, hnum, rfl⟩
  rw [← hnum]
  have hwq : IntKind.i64.wrap ((p : Int) + (k : Int)) = ((p + k : Nat) : Int) := by
    rw [wrap64 (by omega) (by omega)]
    omega
  refine And.intro (fun h0 => ?_) (fun h0 => absurd (of_decide_eq_false h0) (by simp only [Decidable.not_not]; show (k : Int) < 10; omega))
  refine And.intro (fun h1 => ?_) (fun h1 => ?_)
  · have h1 : IntKind.i64.wrap ((p : Int) + (k : Int)) ≥ ((bs.map rowB).length : Int) := of_decide_eq_true h1
    rw [List.length_map, hwq] at h1
    have hd : bs.drop (p + k) = [] := List.drop_eq_nil_of_le (by omega)
    rw [hd]
    exact And.intro rfl rfl
  · have h1 : ¬ IntKind.i64.wrap ((p : Int) + (k : Int)) ≥ ((bs.map rowB).length : Int) := of_decide_eq_false h1
    rw [List.length_map, hwq] at h1
    have hq1 : p + k < bs.length := by omega
    have hd : bs.drop (p + k) = bs[p + k] :: bs.drop (p + k + 1) := List.drop_eq_getElem_cons hq1
    have hrow := row_at (f := rowB) bs hq1
    rw [← hwq] at hrow
    have hwk : IntKind.i64.wrap ((k : Int) + 1) = ((k + 1 : Nat) : Int) := wrap_succ (n := 10) (by omega) (by omega)
    have hw1 : IntKind.i64.wrap (IntKind.i64.wrap ((p : Int) + (k : Int)) + 1) = ((p + k + 1 : Nat) : Int) := by
      rw [hwq]
      exact wrap_succ hq1 (by omega)
    rw [hd]
    generalize bs[p + k] = c at hrow
    refine ⟨bs.map rowB, rowB c, rfl, by rw [hwq]; omega, hrow, rfl, (by show 0 < 1; decide), ?_⟩
    have hB : IntKind.i64.wrap (7 * (k : Int)) = 7 * (k : Int) := wrap64 (by omega) (by omega)
    have hend : ¬ ((k : Int) = 9 ∧ c > 1) → ¬ c ≥ 128 → ¬ (c = 0 ∧ (k : Int) > 0) → ∀ v : Int, v = zagU (orU u c k) → D.tup [.int .i64 v, .int .i64 (IntKind.i64.wrap (IntKind.i64.wrap ((p : Int) + (k : Int)) + 1)), .int .i64 0] = tupN (numL (c :: bs.drop (p + k + 1)) k u (p + k)) := fun q1 q2 q3 v hv => by
      rw [numL_ok q1 q2 q3, hv, hw1]
      rfl
    obtain ⟨ho0, ho1⟩ := orU_range u c k
    refine And.intro (fun h2 => ?_) (fun h2 => ?_)
    · have h2 : (k : Int) = 9 := of_decide_eq_true h2
      refine And.intro (fun h3 => ?_) (fun h3 => ?_)
      · have h3 : c > 1 := of_decide_eq_true h3
        rw [numL_bad ⟨h2, h3⟩]
        exact And.intro rfl rfl
      · have h3 : ¬ c > 1 := of_decide_eq_false h3
        have hbad : ¬ ((k : Int) = 9 ∧ c > 1) := fun h => h3 h.2
        refine Exists.intro _ (And.intro (sh_ask (x := grp c) hB) ?_)
        refine And.intro (fun hc => ?_) (fun hc => ?_)
        · have hc : c ≥ 128 := of_decide_eq_true hc
          exact absurd hc (by omega)
        · have hc : ¬ c ≥ 128 := of_decide_eq_false hc
          refine And.intro (fun h0 => ?_) (fun h0 => ?_)
          · have h0 : c = 0 := of_decide_eq_true h0
            refine And.intro (fun h4 => ?_) (fun h4 => ?_)
            · have h4 : (k : Int) > 0 := of_decide_eq_true h4
              rw [numL_zero hbad hc h0 h4]
              exact And.intro rfl rfl
            · have h4 : ¬ (k : Int) > 0 := of_decide_eq_false h4
              exact absurd h4 (by omega)
          · have h0 : ¬ c = 0 := of_decide_eq_false h0
            refine And.intro (fun h5 => ?_) (fun h5 => ?_)
            · exact And.intro (hend hbad hc (fun h => h0 h.1) _ (zag_odd ho0 ho1 (of_decide_eq_true h5))) rfl
            · exact And.intro (hend hbad hc (fun h => h0 h.1) _ (zag_even ho0 ho1 (of_decide_eq_false h5))) rfl
    · have h2 : ¬ (k : Int) = 9 := of_decide_eq_false h2
      have hbad : ¬ ((k : Int) = 9 ∧ c > 1) := fun h => h2 h.1
      refine Exists.intro _ (And.intro (sh_ask (x := grp c) hB) ?_)
      refine And.intro (fun hc => ?_) (fun hc => ?_)
      · have hc : c ≥ 128 := of_decide_eq_true hc
        refine ⟨10 - (k + 1), by omega, k + 1, orU u c k, rfl, by omega, by omega, (numL_more hbad hc).symm, ?_⟩
        unfold sM
        rw [← hwk]
        rfl
      · have hc : ¬ c ≥ 128 := of_decide_eq_false hc
        refine And.intro (fun h0 => ?_) (fun h0 => ?_)
        · have h0 : c = 0 := of_decide_eq_true h0
          refine And.intro (fun h4 => ?_) (fun h4 => ?_)
          · have h4 : (k : Int) > 0 := of_decide_eq_true h4
            rw [numL_zero hbad hc h0 h4]
            exact And.intro rfl rfl
          · have h4 : ¬ (k : Int) > 0 := of_decide_eq_false h4
            refine And.intro (fun h5 => ?_) (fun h5 => ?_)
            · exact And.intro (hend hbad hc (fun h => h4 h.2) _ (zag_odd ho0 ho1 (of_decide_eq_true h5))) rfl
            · exact And.intro (hend hbad hc (fun h => h4 h.2) _ (zag_even ho0 ho1 (of_decide_eq_false h5))) rfl
        · have h0 : ¬ c = 0 := of_decide_eq_false h0
          refine And.intro (fun h5 => ?_) (fun h5 => ?_)
          · exact And.intro (hend hbad hc (fun h => h0 h.1) _ (zag_odd ho0 ho1 (of_decide_eq_true h5))) rfl
          · exact And.intro (hend hbad hc (fun h => h0 h.1) _ (zag_even ho0 ho1 (of_decide_eq_false h5))) rfl
theorem c_drayref3_number (bs : List Int) (hb : bs.length ≤ 140737488351232) (p : Nat) (hp : p ≤ bs.length) {r : Nat} {sto : List Ob} (hr : r ≤ sto.length) :
    Tri Tryz.prog 57 r [.list .imm (bs.map rowB), .int .i64 (p : Int)] sto (fun d l => d = tupN (numL (bs.drop p) 0 0 p) ∧ l = sto) :=
  (c_drayref3_number_0 bs hb p hp).pure rfl (nrBL_B rfl) rfl rfl hr
theorem c_drayref3_Reader_wrong (bs : List Int) (s : Rd) (e : Int) : Tri Tryz.prog 58 0 [.gptr 0 0, .int .i64 e] (stX bs s) (fun d l => d = .tup [] ∧ l = stX bs ⟨s.p, e, s.p⟩) := by
  refine Tri.walk2 (L := LT) (c := {la := false, n := 15}) [] [0, 1] hLT hmix Tryz.func58 rfl rfl ⟨rfl, rfl⟩ (by show 2 ≤ 15; decide) (Nat.zero_le _) ?_
  exact And.intro rfl rfl
set_option maxHeartbeats 2000000 in
theorem c_drayref3_Reader_Num (bs : List Int) (hb : bs.length ≤ 140737488351232) (s : Rd) (hp : s.p ≤ bs.length) :
    Tri Tryz.prog 43 0 [.gptr 0 0] (stX bs s) (fun d l => d = .int .i64 (numRd bs s).1 ∧ l = stX bs (numRd bs s).2) := by
  refine Tri.walk2 (L := LT) (c := {la := false, n := 34, ko := [2]}) [(58, 1, [])] [0, 2, 3, 4, 5, 10, 25] hLT hmix Tryz.func43 rfl rfl ⟨rfl, rfl⟩ (by show 1 ≤ 34; decide) (Nat.zero_le _) ?_
  unfold numRd
  refine And.intro (fun h0 => ?_) (fun h0 => ?_)
  · rw [if_neg (nd_true h0)]
    exact And.intro rfl rfl
  · have h0 : s.fw = 0 := nd_false h0
    rw [if_pos h0]
    refine ⟨⟨65535, [0, 1, 2, 4, 0, 16, 32, 64, 136, 256, 512, 512, 512, 2047, 12287, 32767], [1, 3, 7, 15, 16, 48, 112, 240, 511, 1023, 2047, 3071, 5119, 10239, 28671, 65535]⟩, by kernel_rfl, ?_⟩
    refine And.intro ?_ trivial
    refine ⟨rfl, Nat.zero_le 1, (c_drayref3_number bs hb s.p hp (r := 1) (sto := stX bs s) (Nat.le_refl 1)).mono ?_⟩
    rintro d l ⟨rfl, rfl⟩
    refine ⟨rfl, fun _ _ => rfl, rfl, ?_⟩
    have he := numL_err (bs.drop s.p) 0 0 s.p
    generalize numL (bs.drop s.p) 0 0 s.p = x at he
    obtain ⟨e, n, q⟩ := x
    refine And.intro trivial ?_
    refine And.intro ?_ trivial
    refine And.intro (And.intro ⟨rfl, rfl⟩ (And.intro ⟨rfl, rfl⟩ trivial)) ?_
    refine And.intro ?_ trivial
    refine And.intro (And.intro ⟨rfl, rfl⟩ trivial) ?_
    refine And.intro ?_ trivial
    refine And.intro trivial ?_
    refine And.intro (fun h1 => ?_) (fun h1 => ?_)
    rotate_left
    · have h1 : e = 0 := nd_false h1
      rw [if_pos h1]
      exact And.intro rfl rfl
    · have h1 : ¬ e = 0 := nd_true h1
      rw [if_neg h1]
      have : n = 0 := he h1
      refine ⟨rfl, Nat.le_refl 0, (c_drayref3_Reader_wrong bs s e).mono ?_⟩
      rintro d l ⟨rfl, rfl⟩
      refine ⟨rfl, fun k hk => absurd hk (Nat.not_lt_zero k), rfl, ?_⟩
      exact And.intro (by rw [this]) rfl
theorem c_drayref3_Read_0 (bs : List Int) (hb : bs.length ≤ 140737488351232) : Tri Tryz.prog 42 0 [.list .imm (bs.map rowB)] [] (fun d l => d = .gptr 0 0 ∧ l = stX bs ⟨0, 0, 0⟩) := by
  refine Tri.walk2 (L := LT) (c := {la := false, n := 8, ko := [2], gl := [7]}) [] [0, 2] hLT hmix Tryz.func42 rfl rfl ⟨rfl, rfl⟩ (by show 1 ≤ 8; decide) (Nat.zero_le _) ?_
  refine And.intro trivial (And.intro rfl (And.intro ?_ (And.intro (allLenB bs) ?_)))
  · show (0 + (bs.map rowB).length) * 1 ≤ 140737488355328
    simp only [List.length_map]
    omega
  exact And.intro rfl rfl
end Go.Lv

namespace Go.Lv
open Go.Proofs

noncomputable def flgRd (bs : List Int) (s : Rd) : Bool × Rd :=
  if s.fw = 0 then match bs[s.p]? with
    | none => (false, ⟨s.p, 3, s.p⟩)
    | some c => if c > 1 then (false, ⟨s.p, 4, s.p⟩) else (decide (c = 1), ⟨s.fa, s.fw, s.p + 1⟩)
  else (false, s)
theorem flgRd_pos {bs : List Int} {s : Rd} (h : s.p ≤ bs.length) : (flgRd bs s).2.p ≤ bs.length := by
  unfold flgRd
  split
  · split
    · exact h
    · rename_i c hc
      have := (List.getElem?_eq_some_iff.1 hc).1
      split
      · exact h
      · show s.p + 1 ≤ bs.length
        omega
  · exact h
theorem flgRd_bad {bs : List Int} {s : Rd} (h : ¬ s.fw = 0) : flgRd bs s = (false, s) := by unfold flgRd; rw [if_neg h]
theorem flgRd_end {bs : List Int} {s : Rd} (h : s.fw = 0) (hp : bs.length ≤ s.p) : flgRd bs s = (false, ⟨s.p, 3, s.p⟩) := by
  unfold flgRd
  rw [if_pos h, List.getElem?_eq_none hp]
theorem flgRd_at {bs : List Int} {s : Rd} (h : s.fw = 0) (hp : s.p < bs.length) : flgRd bs s = if bs[s.p] > 1 then (false, ⟨s.p, 4, s.p⟩) else (decide (bs[s.p] = 1), ⟨s.fa, s.fw, s.p + 1⟩) := by
  unfold flgRd
  rw [if_pos h, List.getElem?_eq_getElem hp]
set_option maxHeartbeats 4000000 in
theorem c_wire_Reader_Flag (bs : List Int) (hb : bs.length ≤ 140737488351232) (s : Rd) (hp : s.p ≤ bs.length) :
    Tri Tryz.prog 55 0 [.gptr 0 0] (stRd bs s) (fun d l => d = .bool (flgRd bs s).1 ∧ l = stRd bs (flgRd bs s).2) := by
  refine Tri.walk2 (L := LT) (c := {n := 57, ko := [2]}) [(56,1,[])] [0, 2, 3, 13, 23, 41] hLT hmix Tryz.func55 rfl rfl ⟨rfl, rfl⟩ (by show 1 ≤ 57; decide) (by first | exact Nat.zero_le _ | exact Nat.le_refl _ | exact Nat.le_succ 1 | decide) ?_
  repeat (first | refine And.intro (fun _ => ?_) (fun h => Bool.noConfusion h) | refine And.intro (fun h => Bool.noConfusion h) (fun _ => ?_))
  refine ⟨rfl, Nat.zero_le 1, ((c_api_Fault_Good_0 s.fa s.fw).pure rfl rfl rfl rfl (r := 1) (sto := stRd bs s) (Nat.le_refl 1)).mono ?_⟩
  rintro d l ⟨hd, rfl⟩
  by_cases hf : s.fw = 0
  rotate_left
  · rw [decide_eq_false hf] at hd
    subst hd
    refine ⟨rfl, fun _ _ => rfl, rfl, ?_⟩
    rw [flgRd_bad hf]
    exact And.intro rfl rfl
  rw [decide_eq_true hf] at hd
  subst hd
  refine ⟨rfl, fun _ _ => rfl, rfl, ?_⟩
  repeat (first | refine And.intro (fun _ => ?_) (fun h => Bool.noConfusion h) | refine And.intro (fun h => Bool.noConfusion h) (fun _ => ?_))
  refine ⟨⟨1023, [0, 1, 2, 4, 0, 16, 32, 64, 128, 264], [1, 3, 7, 15, 16, 48, 112, 240, 496, 1023]⟩, by kernel_rfl, ?_⟩
  refine And.intro (fun h1 => ?_) (fun h1 => ?_)
  · have h1 : ((s.p : Nat) : Int) ≥ ((bs.map rowB).length : Int) := of_decide_eq_true h1
    rw [List.length_map] at h1
    rw [flgRd_end hf (by omega)]
    refine ⟨rfl, Nat.le_refl 0, (c_wire_Reader_fail s.fa s.fw s.p s.p 3 bs).mono ?_⟩
    rintro d l ⟨rfl, rfl⟩
    refine ⟨rfl, fun k hk => absurd hk (Nat.not_lt_zero k), rfl, ?_⟩
    exact And.intro rfl rfl
  · have h1 : ¬ ((s.p : Nat) : Int) ≥ ((bs.map rowB).length : Int) := of_decide_eq_false h1
    rw [List.length_map] at h1
    have hp1 : s.p < bs.length := by omega
    have hw := wrap_succ hp1 (by omega)
    rw [flgRd_at hf hp1]
    refine ⟨⟨2047, [0, 1, 2, 4, 0, 16, 32, 64, 136, 256, 1023], [1, 3, 7, 15, 16, 48, 112, 240, 511, 1023, 2047]⟩, by kernel_rfl, ?_⟩
    refine ⟨(bs).map rowB, rowB ((bs)[s.p]'(by omega)), rfl, by omega, row_at' rowB (bs) (by omega) (by omega), rfl, of_decide_eq_true rfl, ?_⟩
    refine And.intro rfl ?_
    refine And.intro ?_ trivial
    refine And.intro (by repeat (first | exact trivial | refine And.intro ⟨rfl, rfl⟩ ?_ | refine And.intro ⟨_, _, rfl, by omega, row_at' _ _ rfl (by omega), rfl, of_decide_eq_true rfl, And.intro rfl (And.intro rfl rfl)⟩ ?_)) ?_
    generalize bs[s.p] = c
    refine And.intro (fun h2 => ?_) (fun h2 => ?_)
    · have h2 : c > 1 := of_decide_eq_true h2
      rw [if_pos h2]
      refine ⟨rfl, Nat.le_refl 0, (c_wire_Reader_fail s.fa s.fw s.p s.p 4 bs).mono ?_⟩
      rintro d l ⟨rfl, rfl⟩
      refine ⟨rfl, fun k hk => absurd hk (Nat.not_lt_zero k), rfl, ?_⟩
      exact And.intro rfl rfl
    · have h2 : ¬ c > 1 := of_decide_eq_false h2
      rw [if_neg h2]
      refine And.intro (fun h3 => ?_) (fun h3 => ?_)
      · refine And.intro (by rw [h3]) ?_
        rw [hw]
        rfl
      · refine And.intro (by rw [h3]) ?_
        rw [hw]
        rfl
set_option maxHeartbeats 4000000 in
theorem c_drayref3_Reader_Flag (bs : List Int) (hb : bs.length ≤ 140737488351232) (s : Rd) (hp : s.p ≤ bs.length) :
    Tri Tryz.prog 60 0 [.gptr 0 0] (stX bs s) (fun d l => d = .bool (flgRd bs s).1 ∧ l = stX bs (flgRd bs s).2) := by
  refine Tri.walk2 (L := LT) (c := {n := 44, ko := [2]}) [(58,1,[])] [0, 2, 3, 8, 18, 32] hLT hmix Tryz.func60 rfl rfl ⟨rfl, rfl⟩ (by show 1 ≤ 44; decide) (by first | exact Nat.zero_le _ | exact Nat.le_refl _ | exact Nat.le_succ 1 | decide) ?_
  refine And.intro (fun h0 => ?_) (fun h0 => ?_)
  · rw [flgRd_bad (nd_true h0)]
    exact And.intro rfl rfl
  have hf : s.fw = 0 := nd_false h0
  refine ⟨⟨1023, [0, 1, 2, 4, 0, 16, 32, 64, 128, 264], [1, 3, 7, 15, 16, 48, 112, 240, 496, 1023]⟩, by kernel_rfl, ?_⟩
  refine And.intro (fun h1 => ?_) (fun h1 => ?_)
  · have h1 : ((s.p : Nat) : Int) ≥ ((bs.map rowB).length : Int) := of_decide_eq_true h1
    rw [List.length_map] at h1
    rw [flgRd_end hf (by omega)]
    refine ⟨rfl, Nat.le_refl 0, (c_drayref3_Reader_wrong bs s 3).mono ?_⟩
    rintro d l ⟨rfl, rfl⟩
    refine ⟨rfl, fun k hk => absurd hk (Nat.not_lt_zero k), rfl, ?_⟩
    exact And.intro rfl rfl
  · have h1 : ¬ ((s.p : Nat) : Int) ≥ ((bs.map rowB).length : Int) := of_decide_eq_false h1
    rw [List.length_map] at h1
    have hp1 : s.p < bs.length := by omega
    have hw := wrap_succ hp1 (by omega)
    rw [flgRd_at hf hp1]
    refine ⟨⟨2047, [0, 1, 2, 4, 0, 16, 32, 64, 136, 256, 1023], [1, 3, 7, 15, 16, 48, 112, 240, 511, 1023, 2047]⟩, by kernel_rfl, ?_⟩
    refine ⟨(bs).map rowB, rowB ((bs)[s.p]'(by omega)), rfl, by omega, row_at' rowB (bs) (by omega) (by omega), rfl, of_decide_eq_true rfl, ?_⟩
    refine And.intro rfl ?_
    refine And.intro ?_ trivial
    refine And.intro (by repeat (first | exact trivial | refine And.intro ⟨rfl, rfl⟩ ?_ | refine And.intro ⟨_, _, rfl, by omega, row_at' _ _ rfl (by omega), rfl, of_decide_eq_true rfl, And.intro rfl (And.intro rfl rfl)⟩ ?_)) ?_
    generalize bs[s.p] = c
    refine And.intro (fun h2 => ?_) (fun h2 => ?_)
    · have h2 : c > 1 := of_decide_eq_true h2
      rw [if_pos h2]
      refine ⟨rfl, Nat.le_refl 0, (c_drayref3_Reader_wrong bs s 4).mono ?_⟩
      rintro d l ⟨rfl, rfl⟩
      refine ⟨rfl, fun k hk => absurd hk (Nat.not_lt_zero k), rfl, ?_⟩
      exact And.intro rfl rfl
    · have h2 : ¬ c > 1 := of_decide_eq_false h2
      rw [if_neg h2]
      refine And.intro (fun h3 => ?_) (fun h3 => ?_)
      · refine And.intro (by rw [h3]) ?_
        rw [hw]
        rfl
      · refine And.intro (by rw [h3]) ?_
        rw [hw]
        rfl
set_option maxHeartbeats 4000000 in
theorem c_drayref3_Reader_End (bs : List Int) (s : Rd) :
    Tri Tryz.prog 46 0 [.gptr 0 0] (stX bs s) (fun d l => d = .int .i64 (endRd bs s).1 ∧ l = stX bs (endRd bs s).2) := by
  refine Tri.walk2 (L := LT) (c := {n := 26, ko := [2]}) [(58,1,[])] [0, 2, 19] hLT hmix Tryz.func46 rfl rfl ⟨rfl, rfl⟩ (by show 1 ≤ 26; decide) (by first | exact Nat.zero_le _ | exact Nat.le_refl _ | exact Nat.le_succ 1 | decide) ?_
  refine ⟨⟨131071, [0, 1, 2, 4, 8, 16, 32, 96, 160, 288, 32, 1056, 2080, 4128, 8224, 16928, 32800], [1, 3, 7, 15, 31, 63, 127, 255, 511, 1023, 1087, 3135, 7231, 15423, 31807, 65535, 131071]⟩, by kernel_rfl, ?_⟩
  unfold endRd
  refine And.intro (fun h0 => ?_) (fun h0 => ?_)
  · have h0 : s.fw = 0 := of_decide_eq_true h0
    repeat (first | refine And.intro (fun _ => ?_) (fun h => Bool.noConfusion h) | refine And.intro (fun h => Bool.noConfusion h) (fun _ => ?_))
    refine And.intro (fun h1 => ?_) (fun h1 => ?_)
    · have h1 : ((s.p : Nat) : Int) < ((bs.map rowB).length : Int) := of_decide_eq_true h1
      rw [List.length_map] at h1
      repeat (first | refine And.intro (fun _ => ?_) (fun h => Bool.noConfusion h) | refine And.intro (fun h => Bool.noConfusion h) (fun _ => ?_))
      rw [if_pos ⟨h0, by omega⟩]
      refine ⟨rfl, Nat.le_refl 0, (c_drayref3_Reader_wrong bs s 5).mono ?_⟩
      rintro d l ⟨rfl, rfl⟩
      refine ⟨rfl, fun k hk => absurd hk (Nat.not_lt_zero k), rfl, ?_⟩
      exact And.intro rfl rfl
    · have h1 : ¬ ((s.p : Nat) : Int) < ((bs.map rowB).length : Int) := of_decide_eq_false h1
      rw [List.length_map] at h1
      repeat (first | refine And.intro (fun _ => ?_) (fun h => Bool.noConfusion h) | refine And.intro (fun h => Bool.noConfusion h) (fun _ => ?_))
      rw [if_neg (fun h => h1 (by omega))]
      exact And.intro rfl rfl
  · have h0 : ¬ s.fw = 0 := of_decide_eq_false h0
    repeat (first | refine And.intro (fun _ => ?_) (fun h => Bool.noConfusion h) | refine And.intro (fun h => Bool.noConfusion h) (fun _ => ?_))
    rw [if_neg (fun h => h0 h.1)]
    exact And.intro rfl rfl
end Go.Lv

namespace Go.Lv
open Go.Proofs

structure Cmd where
  k : Int
  o0 : Int
  o1 : Int
  o2 : Int
  o3 : Int
  o4 : Int
  o5 : Int
  o6 : Int
  o7 : Int
  o8 : Int
  o9 : Int
  d0 : Int
  d1 : Int
  d2 : Int
  d3 : Int
  d4 : Int
  d5 : Bool
  id : Int
  cnt : Int
  deriving DecidableEq
structure Req where
  ses : Int
  seq : Int
  c : Cmd
  deriving DecidableEq
structure Evt where
  kind : Int
  node : Int
  q : Req
  why : Int
  st : Int
  dr : Int
  tm : Int
  deriving DecidableEq
noncomputable def rowCm (c : Cmd) : List D := [.int .i64 c.k, .int .i64 c.o0, .int .i64 c.o1, .int .i64 c.o2, .int .i64 c.o3, .int .i64 c.o4, .int .i64 c.o5, .int .i64 c.o6, .int .i64 c.o7, .int .i64 c.o8, .int .i64 c.o9, .int .i64 c.d0, .int .i64 c.d1, .int .i64 c.d2, .int .i64 c.d3, .int .i64 c.d4, .bool c.d5, .int .i64 c.id, .int .i64 c.cnt]
noncomputable def rowQ (q : Req) : List D := .int .i64 q.ses :: .int .i64 q.seq :: rowCm q.c
noncomputable def zeroC : Cmd := ⟨0, 0, 0, 0, 0, 0, 0, 0, 0, 0, 0, 0, 0, 0, 0, 0, false, 0, 0⟩
noncomputable def zeroQ : Req := ⟨0, 0, zeroC⟩
noncomputable def formE (e : Evt) : Prop := 1 ≤ e.kind ∧ e.kind ≤ 3 ∧ 1 ≤ e.q.ses ∧ e.q.ses ≤ 1000000 ∧ 1 ≤ e.q.seq ∧ e.q.seq ≤ 1099511627776
noncomputable instance (e : Evt) : Decidable (formE e) := by unfold formE; infer_instance
end Go.Lv

namespace Go.Lv
open Go.Proofs

noncomputable def siV (bs : List Int) (s : Rd) : Int × Int × Int × Int := ((numRd bs s).1, (numRd bs (numRd bs s).2).1, (numRd bs (numRd bs (numRd bs s).2).2).1, (numRd bs (numRd bs (numRd bs (numRd bs s).2).2).2).1)
noncomputable def siN (bs : List Int) (s : Rd) : Rd := (numRd bs (numRd bs (numRd bs (numRd bs s).2).2).2).2
noncomputable def row4 (x : Int × Int × Int × Int) : List D := [.int .i64 x.1, .int .i64 x.2.1, .int .i64 x.2.2.1, .int .i64 x.2.2.2]
theorem siN_pos {bs : List Int} {s : Rd} (h : s.p ≤ bs.length) : (siN bs s).p ≤ bs.length := numRd_pos (numRd_pos (numRd_pos (numRd_pos h)))

set_option maxHeartbeats 4000000 in
theorem c_command_site (bs : List Int) (hb : bs.length ≤ 140737488351232) (s : Rd) (hp : s.p ≤ bs.length) : Tri Tryz.prog 54 0 [.gptr 0 0] (stRd bs s) (fun d l => d = .agg (row4 (siV bs s)) ∧ l = stRd bs (siN bs s)) := by
  refine Tri.walk2 (L := LT) (c := {n := 19, kb := [2]}) [(36,1,[])] [0, 2, 3] hLT hmix Tryz.func54 rfl rfl ⟨rfl, rfl⟩ (by show 1 ≤ 19; decide) (by first | exact Nat.zero_le _ | exact Nat.le_refl _ | exact Nat.le_succ 1 | decide) ?_
  unfold siV siN
  have c1 := c_wire_Reader_Num bs hb s hp
  have p1 := numRd_pos hp
  generalize numRd bs s = x1 at c1 p1 ⊢
  obtain ⟨v1, s1⟩ := x1
  replace p1 : s1.p ≤ bs.length := p1
  refine ⟨rfl, Nat.le_refl 0, (c1).mono ?_⟩
  rintro d l ⟨rfl, rfl⟩
  refine ⟨rfl, fun k hk => absurd hk (Nat.not_lt_zero k), rfl, ?_⟩
  have c2 := c_wire_Reader_Num bs hb s1 p1
  have p2 := numRd_pos p1
  generalize numRd bs s1 = x2 at c2 p2 ⊢
  obtain ⟨v2, s2⟩ := x2
  replace p2 : s2.p ≤ bs.length := p2
  refine ⟨rfl, Nat.le_refl 0, (c2).mono ?_⟩
  rintro d l ⟨rfl, rfl⟩
  refine ⟨rfl, fun k hk => absurd hk (Nat.not_lt_zero k), rfl, ?_⟩
  have c3 := c_wire_Reader_Num bs hb s2 p2
  have p3 := numRd_pos p2
  generalize numRd bs s2 = x3 at c3 p3 ⊢
  obtain ⟨v3, s3⟩ := x3
  replace p3 : s3.p ≤ bs.length := p3
  refine ⟨rfl, Nat.le_refl 0, (c3).mono ?_⟩
  rintro d l ⟨rfl, rfl⟩
  refine ⟨rfl, fun k hk => absurd hk (Nat.not_lt_zero k), rfl, ?_⟩
  have c4 := c_wire_Reader_Num bs hb s3 p3
  have p4 := numRd_pos p3
  generalize numRd bs s3 = x4 at c4 p4 ⊢
  obtain ⟨v4, s4⟩ := x4
  replace p4 : s4.p ≤ bs.length := p4
  refine ⟨rfl, Nat.le_refl 0, (c4).mono ?_⟩
  rintro d l ⟨rfl, rfl⟩
  refine ⟨rfl, fun k hk => absurd hk (Nat.not_lt_zero k), rfl, ?_⟩
  exact And.intro rfl rfl

set_option maxHeartbeats 4000000 in
theorem c_drayref15_site (bs : List Int) (hb : bs.length ≤ 140737488351232) (s : Rd) (hp : s.p ≤ bs.length) : Tri Tryz.prog 59 0 [.gptr 0 0] (stX bs s) (fun d l => d = .agg (row4 (siV bs s)) ∧ l = stX bs (siN bs s)) := by
  refine Tri.walk2 (L := LT) (c := {n := 19, kb := [2]}) [(43,1,[])] [0, 2, 3] hLT hmix Tryz.func59 rfl rfl ⟨rfl, rfl⟩ (by show 1 ≤ 19; decide) (by first | exact Nat.zero_le _ | exact Nat.le_refl _ | exact Nat.le_succ 1 | decide) ?_
  unfold siV siN
  have c1 := c_drayref3_Reader_Num bs hb s hp
  have p1 := numRd_pos hp
  generalize numRd bs s = x1 at c1 p1 ⊢
  obtain ⟨v1, s1⟩ := x1
  replace p1 : s1.p ≤ bs.length := p1
  refine ⟨rfl, Nat.le_refl 0, (c1).mono ?_⟩
  rintro d l ⟨rfl, rfl⟩
  refine ⟨rfl, fun k hk => absurd hk (Nat.not_lt_zero k), rfl, ?_⟩
  have c2 := c_drayref3_Reader_Num bs hb s1 p1
  have p2 := numRd_pos p1
  generalize numRd bs s1 = x2 at c2 p2 ⊢
  obtain ⟨v2, s2⟩ := x2
  replace p2 : s2.p ≤ bs.length := p2
  refine ⟨rfl, Nat.le_refl 0, (c2).mono ?_⟩
  rintro d l ⟨rfl, rfl⟩
  refine ⟨rfl, fun k hk => absurd hk (Nat.not_lt_zero k), rfl, ?_⟩
  have c3 := c_drayref3_Reader_Num bs hb s2 p2
  have p3 := numRd_pos p2
  generalize numRd bs s2 = x3 at c3 p3 ⊢
  obtain ⟨v3, s3⟩ := x3
  replace p3 : s3.p ≤ bs.length := p3
  refine ⟨rfl, Nat.le_refl 0, (c3).mono ?_⟩
  rintro d l ⟨rfl, rfl⟩
  refine ⟨rfl, fun k hk => absurd hk (Nat.not_lt_zero k), rfl, ?_⟩
  have c4 := c_drayref3_Reader_Num bs hb s3 p3
  have p4 := numRd_pos p3
  generalize numRd bs s3 = x4 at c4 p4 ⊢
  obtain ⟨v4, s4⟩ := x4
  replace p4 : s4.p ≤ bs.length := p4
  refine ⟨rfl, Nat.le_refl 0, (c4).mono ?_⟩
  rintro d l ⟨rfl, rfl⟩
  refine ⟨rfl, fun k hk => absurd hk (Nat.not_lt_zero k), rfl, ?_⟩
  exact And.intro rfl rfl

end Go.Lv

namespace Go.Lv
open Go.Proofs

noncomputable def oN (bs : List Int) (s : Rd) : Rd := siN bs (siN bs (numRd bs (numRd bs s).2).2)
noncomputable def dN (bs : List Int) (s : Rd) : Rd := (flgRd bs (numRd bs (numRd bs (numRd bs (numRd bs (numRd bs s).2).2).2).2).2).2
noncomputable def isOrd (d : D) : Prop := ∃ o0 o1 o2 o3 o4 o5 o6 o7 o8 o9, d = .agg [.int .i64 o0, .int .i64 o1, .int .i64 o2, .int .i64 o3, .int .i64 o4, .int .i64 o5, .int .i64 o6, .int .i64 o7, .int .i64 o8, .int .i64 o9]
noncomputable def isDr (d : D) : Prop := ∃ d0 d1 d2 d3 d4 d5, d = .agg [.int .i64 d0, .int .i64 d1, .int .i64 d2, .int .i64 d3, .int .i64 d4, .bool d5]

set_option maxHeartbeats 4000000 in
theorem c_command_GetOrder (bs : List Int) (hb : bs.length ≤ 140737488351232) (s : Rd) (hp : s.p ≤ bs.length) : Tri Tryz.prog 37 0 [.gptr 0 0] (stRd bs s) (fun d l => isOrd d ∧ l = stRd bs (oN bs s)) := by
  refine Tri.walk2 (L := LT) (c := {n := 24, kb := [2]}) [(36,1,[]),(54,1,[])] [0, 2, 3, 21] hLT hmix Tryz.func37 rfl rfl ⟨rfl, rfl⟩ (by show 1 ≤ 24; decide) (by first | exact Nat.zero_le _ | exact Nat.le_refl _ | exact Nat.le_succ 1 | decide) ?_
  unfold oN
  have c1 := c_wire_Reader_Num bs hb s hp
  have p1 := numRd_pos hp
  generalize numRd bs s = x1 at c1 p1 ⊢
  obtain ⟨v1, s1⟩ := x1
  replace p1 : s1.p ≤ bs.length := p1
  refine ⟨rfl, Nat.le_refl 0, (c1).mono ?_⟩
  rintro d l ⟨rfl, rfl⟩
  refine ⟨rfl, fun k hk => absurd hk (Nat.not_lt_zero k), rfl, ?_⟩
  have c2 := c_wire_Reader_Num bs hb s1 p1
  have p2 := numRd_pos p1
  generalize numRd bs s1 = x2 at c2 p2 ⊢
  obtain ⟨v2, s2⟩ := x2
  replace p2 : s2.p ≤ bs.length := p2
  refine ⟨rfl, Nat.le_refl 0, (c2).mono ?_⟩
  rintro d l ⟨rfl, rfl⟩
  refine ⟨rfl, fun k hk => absurd hk (Nat.not_lt_zero k), rfl, ?_⟩
  have c3 := c_command_site bs hb s2 p2
  have p3 := siN_pos p2
  generalize siV bs s2 = v3 at c3
  generalize siN bs s2 = s3 at c3 p3 ⊢
  obtain ⟨w31, w32, w33, w34⟩ := v3
  refine ⟨rfl, Nat.le_refl 0, (c3).mono ?_⟩
  rintro d l ⟨rfl, rfl⟩
  refine ⟨rfl, fun k hk => absurd hk (Nat.not_lt_zero k), rfl, ?_⟩
  have c4 := c_command_site bs hb s3 p3
  have p4 := siN_pos p3
  generalize siV bs s3 = v4 at c4
  generalize siN bs s3 = s4 at c4 p4 ⊢
  obtain ⟨w41, w42, w43, w44⟩ := v4
  refine ⟨rfl, Nat.le_refl 0, (c4).mono ?_⟩
  rintro d l ⟨rfl, rfl⟩
  refine ⟨rfl, fun k hk => absurd hk (Nat.not_lt_zero k), rfl, ?_⟩
  repeat (first | refine And.intro (fun _ => ?_) (fun h => Bool.noConfusion h) | refine And.intro (fun h => Bool.noConfusion h) (fun _ => ?_))
  refine ⟨rfl, Nat.zero_le 1, ((c_api_Fault_Good_0 s4.fa s4.fw).pure rfl rfl rfl rfl (r := 1) (sto := stRd bs s4) (Nat.le_refl 1)).mono ?_⟩
  rintro d l ⟨hd, rfl⟩
  by_cases hf : s4.fw = 0
  · rw [decide_eq_true hf] at hd
    subst hd
    refine ⟨rfl, fun _ _ => rfl, rfl, ?_⟩
    repeat (first | refine And.intro (fun _ => ?_) (fun h => Bool.noConfusion h) | refine And.intro (fun h => Bool.noConfusion h) (fun _ => ?_))
    exact And.intro ⟨_, _, _, _, _, _, _, _, _, _, rfl⟩ rfl
  · rw [decide_eq_false hf] at hd
    subst hd
    refine ⟨rfl, fun _ _ => rfl, rfl, ?_⟩
    repeat (first | refine And.intro (fun _ => ?_) (fun h => Bool.noConfusion h) | refine And.intro (fun h => Bool.noConfusion h) (fun _ => ?_))
    exact And.intro ⟨_, _, _, _, _, _, _, _, _, _, rfl⟩ rfl

set_option maxHeartbeats 4000000 in
theorem c_command_GetDriver (bs : List Int) (hb : bs.length ≤ 140737488351232) (s : Rd) (hp : s.p ≤ bs.length) : Tri Tryz.prog 38 0 [.gptr 0 0] (stRd bs s) (fun d l => isDr d ∧ l = stRd bs (dN bs s)) := by
  refine Tri.walk2 (L := LT) (c := {n := 32, kb := [2]}) [(36,1,[]),(55,1,[])] [0, 2, 3, 29] hLT hmix Tryz.func38 rfl rfl ⟨rfl, rfl⟩ (by show 1 ≤ 32; decide) (by first | exact Nat.zero_le _ | exact Nat.le_refl _ | exact Nat.le_succ 1 | decide) ?_
  unfold dN
  have c1 := c_wire_Reader_Num bs hb s hp
  have p1 := numRd_pos hp
  generalize numRd bs s = x1 at c1 p1 ⊢
  obtain ⟨v1, s1⟩ := x1
  replace p1 : s1.p ≤ bs.length := p1
  refine ⟨rfl, Nat.le_refl 0, (c1).mono ?_⟩
  rintro d l ⟨rfl, rfl⟩
  refine ⟨rfl, fun k hk => absurd hk (Nat.not_lt_zero k), rfl, ?_⟩
  have c2 := c_wire_Reader_Num bs hb s1 p1
  have p2 := numRd_pos p1
  generalize numRd bs s1 = x2 at c2 p2 ⊢
  obtain ⟨v2, s2⟩ := x2
  replace p2 : s2.p ≤ bs.length := p2
  refine ⟨rfl, Nat.le_refl 0, (c2).mono ?_⟩
  rintro d l ⟨rfl, rfl⟩
  refine ⟨rfl, fun k hk => absurd hk (Nat.not_lt_zero k), rfl, ?_⟩
  have c3 := c_wire_Reader_Num bs hb s2 p2
  have p3 := numRd_pos p2
  generalize numRd bs s2 = x3 at c3 p3 ⊢
  obtain ⟨v3, s3⟩ := x3
  replace p3 : s3.p ≤ bs.length := p3
  refine ⟨rfl, Nat.le_refl 0, (c3).mono ?_⟩
  rintro d l ⟨rfl, rfl⟩
  refine ⟨rfl, fun k hk => absurd hk (Nat.not_lt_zero k), rfl, ?_⟩
  have c4 := c_wire_Reader_Num bs hb s3 p3
  have p4 := numRd_pos p3
  generalize numRd bs s3 = x4 at c4 p4 ⊢
  obtain ⟨v4, s4⟩ := x4
  replace p4 : s4.p ≤ bs.length := p4
  refine ⟨rfl, Nat.le_refl 0, (c4).mono ?_⟩
  rintro d l ⟨rfl, rfl⟩
  refine ⟨rfl, fun k hk => absurd hk (Nat.not_lt_zero k), rfl, ?_⟩
  have c5 := c_wire_Reader_Num bs hb s4 p4
  have p5 := numRd_pos p4
  generalize numRd bs s4 = x5 at c5 p5 ⊢
  obtain ⟨v5, s5⟩ := x5
  replace p5 : s5.p ≤ bs.length := p5
  refine ⟨rfl, Nat.le_refl 0, (c5).mono ?_⟩
  rintro d l ⟨rfl, rfl⟩
  refine ⟨rfl, fun k hk => absurd hk (Nat.not_lt_zero k), rfl, ?_⟩
  have c6 := c_wire_Reader_Flag bs hb s5 p5
  have p6 := flgRd_pos p5
  generalize flgRd bs s5 = x6 at c6 p6 ⊢
  obtain ⟨v6, s6⟩ := x6
  replace p6 : s6.p ≤ bs.length := p6
  refine ⟨rfl, Nat.le_refl 0, (c6).mono ?_⟩
  rintro d l ⟨rfl, rfl⟩
  refine ⟨rfl, fun k hk => absurd hk (Nat.not_lt_zero k), rfl, ?_⟩
  repeat (first | refine And.intro (fun _ => ?_) (fun h => Bool.noConfusion h) | refine And.intro (fun h => Bool.noConfusion h) (fun _ => ?_))
  refine ⟨rfl, Nat.zero_le 1, ((c_api_Fault_Good_0 s6.fa s6.fw).pure rfl rfl rfl rfl (r := 1) (sto := stRd bs s6) (Nat.le_refl 1)).mono ?_⟩
  rintro d l ⟨hd, rfl⟩
  by_cases hf : s6.fw = 0
  · rw [decide_eq_true hf] at hd
    subst hd
    refine ⟨rfl, fun _ _ => rfl, rfl, ?_⟩
    repeat (first | refine And.intro (fun _ => ?_) (fun h => Bool.noConfusion h) | refine And.intro (fun h => Bool.noConfusion h) (fun _ => ?_))
    exact And.intro ⟨_, _, _, _, _, _, rfl⟩ rfl
  · rw [decide_eq_false hf] at hd
    subst hd
    refine ⟨rfl, fun _ _ => rfl, rfl, ?_⟩
    repeat (first | refine And.intro (fun _ => ?_) (fun h => Bool.noConfusion h) | refine And.intro (fun h => Bool.noConfusion h) (fun _ => ?_))
    exact And.intro ⟨_, _, _, _, _, _, rfl⟩ rfl

set_option maxHeartbeats 4000000 in
theorem c_drayref15_GetOrder (bs : List Int) (hb : bs.length ≤ 140737488351232) (s : Rd) (hp : s.p ≤ bs.length) : Tri Tryz.prog 44 0 [.gptr 0 0] (stX bs s) (fun d l => isOrd d ∧ l = stX bs (oN bs s)) := by
  refine Tri.walk2 (L := LT) (c := {n := 23, kb := [2]}) [(43,1,[]),(59,1,[])] [0, 2, 3, 20] hLT hmix Tryz.func44 rfl rfl ⟨rfl, rfl⟩ (by show 1 ≤ 23; decide) (by first | exact Nat.zero_le _ | exact Nat.le_refl _ | exact Nat.le_succ 1 | decide) ?_
  unfold oN
  have c1 := c_drayref3_Reader_Num bs hb s hp
  have p1 := numRd_pos hp
  generalize numRd bs s = x1 at c1 p1 ⊢
  obtain ⟨v1, s1⟩ := x1
  replace p1 : s1.p ≤ bs.length := p1
  refine ⟨rfl, Nat.le_refl 0, (c1).mono ?_⟩
  rintro d l ⟨rfl, rfl⟩
  refine ⟨rfl, fun k hk => absurd hk (Nat.not_lt_zero k), rfl, ?_⟩
  have c2 := c_drayref3_Reader_Num bs hb s1 p1
  have p2 := numRd_pos p1
  generalize numRd bs s1 = x2 at c2 p2 ⊢
  obtain ⟨v2, s2⟩ := x2
  replace p2 : s2.p ≤ bs.length := p2
  refine ⟨rfl, Nat.le_refl 0, (c2).mono ?_⟩
  rintro d l ⟨rfl, rfl⟩
  refine ⟨rfl, fun k hk => absurd hk (Nat.not_lt_zero k), rfl, ?_⟩
  have c3 := c_drayref15_site bs hb s2 p2
  have p3 := siN_pos p2
  generalize siV bs s2 = v3 at c3
  generalize siN bs s2 = s3 at c3 p3 ⊢
  obtain ⟨w31, w32, w33, w34⟩ := v3
  refine ⟨rfl, Nat.le_refl 0, (c3).mono ?_⟩
  rintro d l ⟨rfl, rfl⟩
  refine ⟨rfl, fun k hk => absurd hk (Nat.not_lt_zero k), rfl, ?_⟩
  have c4 := c_drayref15_site bs hb s3 p3
  have p4 := siN_pos p3
  generalize siV bs s3 = v4 at c4
  generalize siN bs s3 = s4 at c4 p4 ⊢
  obtain ⟨w41, w42, w43, w44⟩ := v4
  refine ⟨rfl, Nat.le_refl 0, (c4).mono ?_⟩
  rintro d l ⟨rfl, rfl⟩
  refine ⟨rfl, fun k hk => absurd hk (Nat.not_lt_zero k), rfl, ?_⟩
  repeat (first | refine And.intro (fun _ => ?_) (fun h => Bool.noConfusion h) | refine And.intro (fun h => Bool.noConfusion h) (fun _ => ?_))
  refine And.intro (fun h1 => ?_) (fun h1 => ?_)
  · exact And.intro ⟨_, _, _, _, _, _, _, _, _, _, rfl⟩ rfl
  · exact And.intro ⟨_, _, _, _, _, _, _, _, _, _, rfl⟩ rfl

set_option maxHeartbeats 4000000 in
theorem c_drayref15_GetDriver (bs : List Int) (hb : bs.length ≤ 140737488351232) (s : Rd) (hp : s.p ≤ bs.length) : Tri Tryz.prog 45 0 [.gptr 0 0] (stX bs s) (fun d l => isDr d ∧ l = stX bs (dN bs s)) := by
  refine Tri.walk2 (L := LT) (c := {n := 31, kb := [2]}) [(43,1,[]),(60,1,[])] [0, 2, 3, 28] hLT hmix Tryz.func45 rfl rfl ⟨rfl, rfl⟩ (by show 1 ≤ 31; decide) (by first | exact Nat.zero_le _ | exact Nat.le_refl _ | exact Nat.le_succ 1 | decide) ?_
  unfold dN
  have c1 := c_drayref3_Reader_Num bs hb s hp
  have p1 := numRd_pos hp
  generalize numRd bs s = x1 at c1 p1 ⊢
  obtain ⟨v1, s1⟩ := x1
  replace p1 : s1.p ≤ bs.length := p1
  refine ⟨rfl, Nat.le_refl 0, (c1).mono ?_⟩
  rintro d l ⟨rfl, rfl⟩
  refine ⟨rfl, fun k hk => absurd hk (Nat.not_lt_zero k), rfl, ?_⟩
  have c2 := c_drayref3_Reader_Num bs hb s1 p1
  have p2 := numRd_pos p1
  generalize numRd bs s1 = x2 at c2 p2 ⊢
  obtain ⟨v2, s2⟩ := x2
  replace p2 : s2.p ≤ bs.length := p2
  refine ⟨rfl, Nat.le_refl 0, (c2).mono ?_⟩
  rintro d l ⟨rfl, rfl⟩
  refine ⟨rfl, fun k hk => absurd hk (Nat.not_lt_zero k), rfl, ?_⟩
  have c3 := c_drayref3_Reader_Num bs hb s2 p2
  have p3 := numRd_pos p2
  generalize numRd bs s2 = x3 at c3 p3 ⊢
  obtain ⟨v3, s3⟩ := x3
  replace p3 : s3.p ≤ bs.length := p3
  refine ⟨rfl, Nat.le_refl 0, (c3).mono ?_⟩
  rintro d l ⟨rfl, rfl⟩
  refine ⟨rfl, fun k hk => absurd hk (Nat.not_lt_zero k), rfl, ?_⟩
  have c4 := c_drayref3_Reader_Num bs hb s3 p3
  have p4 := numRd_pos p3
  generalize numRd bs s3 = x4 at c4 p4 ⊢
  obtain ⟨v4, s4⟩ := x4
  replace p4 : s4.p ≤ bs.length := p4
  refine ⟨rfl, Nat.le_refl 0, (c4).mono ?_⟩
  rintro d l ⟨rfl, rfl⟩
  refine ⟨rfl, fun k hk => absurd hk (Nat.not_lt_zero k), rfl, ?_⟩
  have c5 := c_drayref3_Reader_Num bs hb s4 p4
  have p5 := numRd_pos p4
  generalize numRd bs s4 = x5 at c5 p5 ⊢
  obtain ⟨v5, s5⟩ := x5
  replace p5 : s5.p ≤ bs.length := p5
  refine ⟨rfl, Nat.le_refl 0, (c5).mono ?_⟩
  rintro d l ⟨rfl, rfl⟩
  refine ⟨rfl, fun k hk => absurd hk (Nat.not_lt_zero k), rfl, ?_⟩
  have c6 := c_drayref3_Reader_Flag bs hb s5 p5
  have p6 := flgRd_pos p5
  generalize flgRd bs s5 = x6 at c6 p6 ⊢
  obtain ⟨v6, s6⟩ := x6
  replace p6 : s6.p ≤ bs.length := p6
  refine ⟨rfl, Nat.le_refl 0, (c6).mono ?_⟩
  rintro d l ⟨rfl, rfl⟩
  refine ⟨rfl, fun k hk => absurd hk (Nat.not_lt_zero k), rfl, ?_⟩
  repeat (first | refine And.intro (fun _ => ?_) (fun h => Bool.noConfusion h) | refine And.intro (fun h => Bool.noConfusion h) (fun _ => ?_))
  refine And.intro (fun h1 => ?_) (fun h1 => ?_)
  · exact And.intro ⟨_, _, _, _, _, _, rfl⟩ rfl
  · exact And.intro ⟨_, _, _, _, _, _, rfl⟩ rfl

end Go.Lv

namespace Go.Lv
open Go.Proofs

noncomputable def bsOf (b : ByteArray) : List Int := b.data.toList.map fun x => (x.toNat : Int)
theorem bytesRows_of (b : ByteArray) : bytesRows b = (bsOf b).map rowB := by
  unfold bytesRows bsOf
  rw [List.map_map]
  rfl
theorem bsOf_len (b : ByteArray) : (bsOf b).length = b.size := by simp [bsOf]
noncomputable def nmS (k : Int) : Bool × Bool × Bool × Bool × Bool := if k = 1 then (true, false, false, false, true) else if k = 2 ∨ k = 4 ∨ k = 7 then (false, false, true, false, true) else if k = 3 then (false, true, false, false, true) else if k = 5 then (false, false, true, true, true) else if k = 6 then (false, false, false, true, true) else (false, false, false, false, false)
noncomputable def nmD (x : Bool × Bool × Bool × Bool × Bool) : D := .tup [.bool x.1, .bool x.2.1, .bool x.2.2.1, .bool x.2.2.2.1, .bool x.2.2.2.2]
set_option maxHeartbeats 4000000 in
theorem c_command_named_0 (k : Int) : Tri Tryz.prog 17 0 [.int .i64 k] [] (fun d l => d = nmD (nmS k) ∧ l = []) := by
  refine Tri.walk2 (L := LT) (c := {n := 20, ko := [2, 3, 4, 5, 6]}) [] [0, 2, 3, 4, 5, 6, 7, 8, 10, 14, 16, 18] hLT hmix Tryz.func17 rfl rfl ⟨rfl, rfl⟩ (by show 1 ≤ 20; decide) (by first | exact Nat.zero_le _ | exact Nat.le_refl _ | exact Nat.le_succ 1 | decide) ?_
  unfold nmS
  refine And.intro (fun h1 => ?_) (fun h1 => ?_)
  · rw [if_pos (of_decide_eq_true h1)]
    exact And.intro rfl rfl
  rw [if_neg (of_decide_eq_false h1)]
  refine And.intro (fun h2 => ?_) (fun h2 => ?_)
  · rw [if_pos (.inl (of_decide_eq_true h2))]
    exact And.intro rfl rfl
  refine And.intro (fun h4 => ?_) (fun h4 => ?_)
  · rw [if_pos (.inr (.inl (of_decide_eq_true h4)))]
    exact And.intro rfl rfl
  refine And.intro (fun h7 => ?_) (fun h7 => ?_)
  · rw [if_pos (.inr (.inr (of_decide_eq_true h7)))]
    exact And.intro rfl rfl
  rw [if_neg (by rintro (q | q | q); exact of_decide_eq_false h2 q; exact of_decide_eq_false h4 q; exact of_decide_eq_false h7 q)]
  refine And.intro (fun h3 => ?_) (fun h3 => ?_)
  · rw [if_pos (of_decide_eq_true h3)]
    exact And.intro rfl rfl
  rw [if_neg (of_decide_eq_false h3)]
  refine And.intro (fun h5 => ?_) (fun h5 => ?_)
  · rw [if_pos (of_decide_eq_true h5)]
    exact And.intro rfl rfl
  rw [if_neg (of_decide_eq_false h5)]
  refine And.intro (fun h6 => ?_) (fun h6 => ?_)
  · rw [if_pos (of_decide_eq_true h6)]
    exact And.intro rfl rfl
  rw [if_neg (of_decide_eq_false h6)]
  exact And.intro rfl rfl
theorem c_command_named (k : Int) {r : Nat} {sto : List Ob} (hr : r ≤ sto.length) : Tri Tryz.prog 17 r [.int .i64 k] sto (fun d l => d = nmD (nmS k) ∧ l = sto) :=
  (c_command_named_0 k).pure rfl rfl rfl rfl hr
noncomputable def zRd : Rd := ⟨0, 0, 0⟩
noncomputable def finN (bs : List Int) (k : Int) (s : Rd) : Rd := if k = 1 then oN bs s else if k = 3 then dN bs s else if k = 5 then (numRd bs (numRd bs s).2).2 else (numRd bs s).2
noncomputable def decE (bs : List Int) : Int := if (numRd bs (numRd bs (numRd bs zRd).2).2).2.fw = 0 ∧ ((numRd bs (numRd bs (numRd bs zRd).2).2).1 < 1 ∨ (numRd bs (numRd bs (numRd bs zRd).2).2).1 > 7) then 4 else (endRd bs (finN bs (numRd bs (numRd bs (numRd bs zRd).2).2).1 (numRd bs (numRd bs (numRd bs zRd).2).2).2)).1
noncomputable def decA (bs : List Int) : Int := (numRd bs zRd).1
noncomputable def decB (bs : List Int) : Int := (numRd bs (numRd bs zRd).2).1
noncomputable def isDec (bs : List Int) (d : D) : Prop := ∃ q : Req, d = .tup [.agg (rowQ q), .int .i64 (decE bs)] ∧ (decE bs = 0 → q.ses = decA bs ∧ q.seq = decB bs)
theorem isDec_ok {bs : List Int} {d : D} (h : isDec bs d) : partsOK d = true ∧ nrB 0 d = true := by
  obtain ⟨q, rfl, _⟩ := h
  exact ⟨rfl, rfl⟩
theorem numRd_bad {bs : List Int} {s : Rd} (h : ¬ s.fw = 0) : numRd bs s = (0, s) := by
  unfold numRd
  rw [if_neg h]

set_option maxHeartbeats 8000000 in
theorem c_command_Decode_1 (b : ByteArray) (hs : b.size ≤ 140737488351232) : Tri Tryz.prog 24 0 [.str b] [] (fun d l => isDec (bsOf b) d) := by
  refine Tri.walk2 (L := LT) (c := {n := 72, ko := [3], kb := [2]}) [(36,1,[]),(39,1,[]),(37,1,[]),(38,1,[])] [0, 2, 3, 4, 5, 6, 7, 8, 9, 10, 11, 43, 45, 50, 55, 60, 68] hLT hmix Tryz.func24 rfl rfl ⟨rfl, rfl⟩ (by show 1 ≤ 72; decide) (by first | exact Nat.zero_le _ | exact Nat.le_refl _ | exact Nat.le_succ 1 | decide) ?_
  refine ⟨_, rfl, ?_⟩
  refine ⟨rfl, Nat.zero_le _, ?_⟩
  show Tri Tryz.prog 35 0 [.list .imm (bytesRows b)] [] _
  rw [bytesRows_of]
  have hb : (bsOf b).length ≤ 140737488351232 := by rw [bsOf_len]; exact hs
  generalize bsOf b = bs at hb ⊢
  refine (c_wire_Read_0 bs hb).mono ?_
  rintro d l ⟨rfl, rfl⟩
  refine ⟨rfl, fun k hk => absurd hk (Nat.not_lt_zero k), rfl, ?_⟩
  have hE : decE bs = if (numRd bs (numRd bs (numRd bs zRd).2).2).2.fw = 0 ∧ ((numRd bs (numRd bs (numRd bs zRd).2).2).1 < 1 ∨ (numRd bs (numRd bs (numRd bs zRd).2).2).1 > 7) then 4 else (endRd bs (finN bs (numRd bs (numRd bs (numRd bs zRd).2).2).1 (numRd bs (numRd bs (numRd bs zRd).2).2).2)).1 := rfl
  have hA : decA bs = (numRd bs zRd).1 := rfl
  have hB : decB bs = (numRd bs (numRd bs zRd).2).1 := rfl
  unfold isDec
  generalize decE bs = E at hE ⊢
  generalize decA bs = A at hA ⊢
  generalize decB bs = B at hB ⊢
  have c1 := c_wire_Reader_Num bs hb zRd (Nat.zero_le _)
  have p1 : (numRd bs zRd).2.p ≤ bs.length := numRd_pos (Nat.zero_le _)
  generalize numRd bs zRd = x1 at c1 p1 hE hA hB
  obtain ⟨v1, s1⟩ := x1
  replace p1 : s1.p ≤ bs.length := p1
  refine ⟨rfl, Nat.le_refl 0, (c1).mono ?_⟩
  rintro d l ⟨rfl, rfl⟩
  refine ⟨rfl, fun k hk => absurd hk (Nat.not_lt_zero k), rfl, ?_⟩
  have c2 := c_wire_Reader_Num bs hb s1 p1
  have p2 : (numRd bs s1).2.p ≤ bs.length := numRd_pos p1
  generalize numRd bs s1 = x2 at c2 p2 hE hA hB
  obtain ⟨v2, s2⟩ := x2
  replace p2 : s2.p ≤ bs.length := p2
  refine ⟨rfl, Nat.le_refl 0, (c2).mono ?_⟩
  rintro d l ⟨rfl, rfl⟩
  refine ⟨rfl, fun k hk => absurd hk (Nat.not_lt_zero k), rfl, ?_⟩
  have c3 := c_wire_Reader_Num bs hb s2 p2
  have p3 : (numRd bs s2).2.p ≤ bs.length := numRd_pos p2
  generalize numRd bs s2 = x3 at c3 p3 hE hA hB
  obtain ⟨v3, s3⟩ := x3
  replace p3 : s3.p ≤ bs.length := p3
  refine ⟨rfl, Nat.le_refl 0, (c3).mono ?_⟩
  rintro d l ⟨rfl, rfl⟩
  refine ⟨rfl, fun k hk => absurd hk (Nat.not_lt_zero k), rfl, ?_⟩
  replace hE : E = if s3.fw = 0 ∧ (v3 < 1 ∨ v3 > 7) then 4 else (endRd bs (finN bs v3 s3)).1 := hE
  replace hA : A = v1 := hA
  replace hB : B = v2 := hB
  have cn := c_command_named v3 (r := 1) (sto := stRd bs s3) (Nat.le_refl 1)
  have cg := (c_api_Fault_Good_0 s3.fa s3.fw).pure rfl rfl rfl rfl (r := 1) (sto := stRd bs s3) (Nat.le_refl 1)
  by_cases h1 : v3 = 1
  · subst h1
    have hn : nmS 1 = (true, false, false, false, true) := by unfold nmS; rw [if_pos rfl]
    rw [hn] at cn
    rw [if_neg (by omega)] at hE
    replace hE : E = (endRd bs (oN bs s3)).1 := by rw [hE]; unfold finN; rw [if_pos rfl]
    refine ⟨rfl, Nat.zero_le 1, cn.mono ?_⟩
    rintro d l ⟨rfl, rfl⟩
    refine ⟨rfl, fun _ _ => rfl, rfl, ?_⟩
    repeat (first | refine And.intro (fun _ => ?_) (fun h => Bool.noConfusion h) | refine And.intro (fun h => Bool.noConfusion h) (fun _ => ?_))
    refine ⟨rfl, Nat.zero_le 1, cg.mono ?_⟩
    rintro d l ⟨hd, rfl⟩
    by_cases hf : s3.fw = 0
    · rw [decide_eq_true hf] at hd
      subst hd
      refine ⟨rfl, fun _ _ => rfl, rfl, ?_⟩
      repeat (first | refine And.intro (fun _ => ?_) (fun h => Bool.noConfusion h) | refine And.intro (fun h => Bool.noConfusion h) (fun _ => ?_))
      have co := c_command_GetOrder bs hb s3 p3
      refine ⟨rfl, Nat.le_refl 0, co.mono ?_⟩
      rintro d l ⟨⟨o0, o1, o2, o3, o4, o5, o6, o7, o8, o9, rfl⟩, rfl⟩
      refine ⟨rfl, fun k hk => absurd hk (Nat.not_lt_zero k), rfl, ?_⟩
      repeat (first | refine And.intro (fun _ => ?_) (fun h => Bool.noConfusion h) | refine And.intro (fun h => Bool.noConfusion h) (fun _ => ?_))
      generalize oN bs s3 = s4 at hE
      have ce := c_wire_Reader_End bs s4
      generalize endRd bs s4 = y at ce hE
      obtain ⟨e, re⟩ := y
      replace hE : E = e := hE
      subst hE
      refine ⟨rfl, Nat.le_refl 0, (ce).mono ?_⟩
      rintro d l ⟨rfl, rfl⟩
      refine ⟨rfl, fun k hk => absurd hk (Nat.not_lt_zero k), rfl, ?_⟩
      refine And.intro (fun g9 => ?_) (fun g9 => ?_)
      · have g9 := nd_true g9
        exact ⟨zeroQ, rfl, fun q => absurd q g9⟩
      · have g9 := nd_false g9
        subst g9
        exact ⟨⟨v1, v2, ⟨1, o0, o1, o2, o3, o4, o5, o6, o7, o8, o9, 0, 0, 0, 0, 0, false, 0, 0⟩⟩, rfl, fun _ => ⟨hA.symm, hB.symm⟩⟩
    · rw [decide_eq_false hf] at hd
      subst hd
      refine ⟨rfl, fun _ _ => rfl, rfl, ?_⟩
      repeat (first | refine And.intro (fun _ => ?_) (fun h => Bool.noConfusion h) | refine And.intro (fun h => Bool.noConfusion h) (fun _ => ?_))
      have co := c_command_GetOrder bs hb s3 p3
      refine ⟨rfl, Nat.le_refl 0, co.mono ?_⟩
      rintro d l ⟨⟨o0, o1, o2, o3, o4, o5, o6, o7, o8, o9, rfl⟩, rfl⟩
      refine ⟨rfl, fun k hk => absurd hk (Nat.not_lt_zero k), rfl, ?_⟩
      repeat (first | refine And.intro (fun _ => ?_) (fun h => Bool.noConfusion h) | refine And.intro (fun h => Bool.noConfusion h) (fun _ => ?_))
      generalize oN bs s3 = s4 at hE
      have ce := c_wire_Reader_End bs s4
      generalize endRd bs s4 = y at ce hE
      obtain ⟨e, re⟩ := y
      replace hE : E = e := hE
      subst hE
      refine ⟨rfl, Nat.le_refl 0, (ce).mono ?_⟩
      rintro d l ⟨rfl, rfl⟩
      refine ⟨rfl, fun k hk => absurd hk (Nat.not_lt_zero k), rfl, ?_⟩
      refine And.intro (fun g9 => ?_) (fun g9 => ?_)
      · have g9 := nd_true g9
        exact ⟨zeroQ, rfl, fun q => absurd q g9⟩
      · have g9 := nd_false g9
        subst g9
        exact ⟨⟨v1, v2, ⟨1, o0, o1, o2, o3, o4, o5, o6, o7, o8, o9, 0, 0, 0, 0, 0, false, 0, 0⟩⟩, rfl, fun _ => ⟨hA.symm, hB.symm⟩⟩
  by_cases h2 : v3 = 2 ∨ v3 = 4 ∨ v3 = 7
  · have hn : nmS v3 = (false, false, true, false, true) := by unfold nmS; rw [if_neg h1, if_pos h2]
    rw [hn] at cn
    rw [if_neg (by omega)] at hE
    replace hE : E = (endRd bs ((numRd bs s3).2)).1 := by rw [hE]; unfold finN; rw [if_neg h1, if_neg (by omega), if_neg (by omega)]
    refine ⟨rfl, Nat.zero_le 1, cn.mono ?_⟩
    rintro d l ⟨rfl, rfl⟩
    refine ⟨rfl, fun _ _ => rfl, rfl, ?_⟩
    repeat (first | refine And.intro (fun _ => ?_) (fun h => Bool.noConfusion h) | refine And.intro (fun h => Bool.noConfusion h) (fun _ => ?_))
    refine ⟨rfl, Nat.zero_le 1, cg.mono ?_⟩
    rintro d l ⟨hd, rfl⟩
    by_cases hf : s3.fw = 0
    · rw [decide_eq_true hf] at hd
      subst hd
      refine ⟨rfl, fun _ _ => rfl, rfl, ?_⟩
      repeat (first | refine And.intro (fun _ => ?_) (fun h => Bool.noConfusion h) | refine And.intro (fun h => Bool.noConfusion h) (fun _ => ?_))
      have c4 := c_wire_Reader_Num bs hb s3 p3
      have p4 : (numRd bs s3).2.p ≤ bs.length := numRd_pos p3
      generalize numRd bs s3 = x4 at c4 p4 hE
      obtain ⟨v4, s4⟩ := x4
      replace p4 : s4.p ≤ bs.length := p4
      refine ⟨rfl, Nat.le_refl 0, (c4).mono ?_⟩
      rintro d l ⟨rfl, rfl⟩
      refine ⟨rfl, fun k hk => absurd hk (Nat.not_lt_zero k), rfl, ?_⟩
      repeat (first | refine And.intro (fun _ => ?_) (fun h => Bool.noConfusion h) | refine And.intro (fun h => Bool.noConfusion h) (fun _ => ?_))
      have ce := c_wire_Reader_End bs s4
      generalize endRd bs s4 = y at ce hE
      obtain ⟨e, re⟩ := y
      replace hE : E = e := hE
      subst hE
      refine ⟨rfl, Nat.le_refl 0, (ce).mono ?_⟩
      rintro d l ⟨rfl, rfl⟩
      refine ⟨rfl, fun k hk => absurd hk (Nat.not_lt_zero k), rfl, ?_⟩
      refine And.intro (fun g9 => ?_) (fun g9 => ?_)
      · have g9 := nd_true g9
        exact ⟨zeroQ, rfl, fun q => absurd q g9⟩
      · have g9 := nd_false g9
        subst g9
        exact ⟨⟨v1, v2, ⟨v3, 0, 0, 0, 0, 0, 0, 0, 0, 0, 0, 0, 0, 0, 0, 0, false, v4, 0⟩⟩, rfl, fun _ => ⟨hA.symm, hB.symm⟩⟩
    · rw [decide_eq_false hf] at hd
      subst hd
      refine ⟨rfl, fun _ _ => rfl, rfl, ?_⟩
      repeat (first | refine And.intro (fun _ => ?_) (fun h => Bool.noConfusion h) | refine And.intro (fun h => Bool.noConfusion h) (fun _ => ?_))
      have c4 := c_wire_Reader_Num bs hb s3 p3
      have p4 : (numRd bs s3).2.p ≤ bs.length := numRd_pos p3
      generalize numRd bs s3 = x4 at c4 p4 hE
      obtain ⟨v4, s4⟩ := x4
      replace p4 : s4.p ≤ bs.length := p4
      refine ⟨rfl, Nat.le_refl 0, (c4).mono ?_⟩
      rintro d l ⟨rfl, rfl⟩
      refine ⟨rfl, fun k hk => absurd hk (Nat.not_lt_zero k), rfl, ?_⟩
      repeat (first | refine And.intro (fun _ => ?_) (fun h => Bool.noConfusion h) | refine And.intro (fun h => Bool.noConfusion h) (fun _ => ?_))
      have ce := c_wire_Reader_End bs s4
      generalize endRd bs s4 = y at ce hE
      obtain ⟨e, re⟩ := y
      replace hE : E = e := hE
      subst hE
      refine ⟨rfl, Nat.le_refl 0, (ce).mono ?_⟩
      rintro d l ⟨rfl, rfl⟩
      refine ⟨rfl, fun k hk => absurd hk (Nat.not_lt_zero k), rfl, ?_⟩
      refine And.intro (fun g9 => ?_) (fun g9 => ?_)
      · have g9 := nd_true g9
        exact ⟨zeroQ, rfl, fun q => absurd q g9⟩
      · have g9 := nd_false g9
        subst g9
        exact ⟨⟨v1, v2, ⟨v3, 0, 0, 0, 0, 0, 0, 0, 0, 0, 0, 0, 0, 0, 0, 0, false, v4, 0⟩⟩, rfl, fun _ => ⟨hA.symm, hB.symm⟩⟩
  by_cases h3 : v3 = 3
  · subst h3
    have hn : nmS 3 = (false, true, false, false, true) := by unfold nmS; rw [if_neg h1, if_neg h2, if_pos rfl]
    rw [hn] at cn
    rw [if_neg (by omega)] at hE
    replace hE : E = (endRd bs (dN bs s3)).1 := by rw [hE]; unfold finN; rw [if_neg h1, if_pos rfl]
    refine ⟨rfl, Nat.zero_le 1, cn.mono ?_⟩
    rintro d l ⟨rfl, rfl⟩
    refine ⟨rfl, fun _ _ => rfl, rfl, ?_⟩
    repeat (first | refine And.intro (fun _ => ?_) (fun h => Bool.noConfusion h) | refine And.intro (fun h => Bool.noConfusion h) (fun _ => ?_))
    refine ⟨rfl, Nat.zero_le 1, cg.mono ?_⟩
    rintro d l ⟨hd, rfl⟩
    by_cases hf : s3.fw = 0
    · rw [decide_eq_true hf] at hd
      subst hd
      refine ⟨rfl, fun _ _ => rfl, rfl, ?_⟩
      repeat (first | refine And.intro (fun _ => ?_) (fun h => Bool.noConfusion h) | refine And.intro (fun h => Bool.noConfusion h) (fun _ => ?_))
      have co := c_command_GetDriver bs hb s3 p3
      refine ⟨rfl, Nat.le_refl 0, co.mono ?_⟩
      rintro d l ⟨⟨d0, d1, d2, d3, d4, d5, rfl⟩, rfl⟩
      refine ⟨rfl, fun k hk => absurd hk (Nat.not_lt_zero k), rfl, ?_⟩
      repeat (first | refine And.intro (fun _ => ?_) (fun h => Bool.noConfusion h) | refine And.intro (fun h => Bool.noConfusion h) (fun _ => ?_))
      generalize dN bs s3 = s4 at hE
      have ce := c_wire_Reader_End bs s4
      generalize endRd bs s4 = y at ce hE
      obtain ⟨e, re⟩ := y
      replace hE : E = e := hE
      subst hE
      refine ⟨rfl, Nat.le_refl 0, (ce).mono ?_⟩
      rintro d l ⟨rfl, rfl⟩
      refine ⟨rfl, fun k hk => absurd hk (Nat.not_lt_zero k), rfl, ?_⟩
      refine And.intro (fun g9 => ?_) (fun g9 => ?_)
      · have g9 := nd_true g9
        exact ⟨zeroQ, rfl, fun q => absurd q g9⟩
      · have g9 := nd_false g9
        subst g9
        exact ⟨⟨v1, v2, ⟨3, 0, 0, 0, 0, 0, 0, 0, 0, 0, 0, d0, d1, d2, d3, d4, d5, 0, 0⟩⟩, rfl, fun _ => ⟨hA.symm, hB.symm⟩⟩
    · rw [decide_eq_false hf] at hd
      subst hd
      refine ⟨rfl, fun _ _ => rfl, rfl, ?_⟩
      repeat (first | refine And.intro (fun _ => ?_) (fun h => Bool.noConfusion h) | refine And.intro (fun h => Bool.noConfusion h) (fun _ => ?_))
      have co := c_command_GetDriver bs hb s3 p3
      refine ⟨rfl, Nat.le_refl 0, co.mono ?_⟩
      rintro d l ⟨⟨d0, d1, d2, d3, d4, d5, rfl⟩, rfl⟩
      refine ⟨rfl, fun k hk => absurd hk (Nat.not_lt_zero k), rfl, ?_⟩
      repeat (first | refine And.intro (fun _ => ?_) (fun h => Bool.noConfusion h) | refine And.intro (fun h => Bool.noConfusion h) (fun _ => ?_))
      generalize dN bs s3 = s4 at hE
      have ce := c_wire_Reader_End bs s4
      generalize endRd bs s4 = y at ce hE
      obtain ⟨e, re⟩ := y
      replace hE : E = e := hE
      subst hE
      refine ⟨rfl, Nat.le_refl 0, (ce).mono ?_⟩
      rintro d l ⟨rfl, rfl⟩
      refine ⟨rfl, fun k hk => absurd hk (Nat.not_lt_zero k), rfl, ?_⟩
      refine And.intro (fun g9 => ?_) (fun g9 => ?_)
      · have g9 := nd_true g9
        exact ⟨zeroQ, rfl, fun q => absurd q g9⟩
      · have g9 := nd_false g9
        subst g9
        exact ⟨⟨v1, v2, ⟨3, 0, 0, 0, 0, 0, 0, 0, 0, 0, 0, d0, d1, d2, d3, d4, d5, 0, 0⟩⟩, rfl, fun _ => ⟨hA.symm, hB.symm⟩⟩
  by_cases h5 : v3 = 5
  · subst h5
    have hn : nmS 5 = (false, false, true, true, true) := by unfold nmS; rw [if_neg h1, if_neg h2, if_neg h3, if_pos rfl]
    rw [hn] at cn
    rw [if_neg (by omega)] at hE
    replace hE : E = (endRd bs ((numRd bs (numRd bs s3).2).2)).1 := by rw [hE]; unfold finN; rw [if_neg h1, if_neg h3, if_pos rfl]
    refine ⟨rfl, Nat.zero_le 1, cn.mono ?_⟩
    rintro d l ⟨rfl, rfl⟩
    refine ⟨rfl, fun _ _ => rfl, rfl, ?_⟩
    repeat (first | refine And.intro (fun _ => ?_) (fun h => Bool.noConfusion h) | refine And.intro (fun h => Bool.noConfusion h) (fun _ => ?_))
    refine ⟨rfl, Nat.zero_le 1, cg.mono ?_⟩
    rintro d l ⟨hd, rfl⟩
    by_cases hf : s3.fw = 0
    · rw [decide_eq_true hf] at hd
      subst hd
      refine ⟨rfl, fun _ _ => rfl, rfl, ?_⟩
      repeat (first | refine And.intro (fun _ => ?_) (fun h => Bool.noConfusion h) | refine And.intro (fun h => Bool.noConfusion h) (fun _ => ?_))
      have c4 := c_wire_Reader_Num bs hb s3 p3
      have p4 : (numRd bs s3).2.p ≤ bs.length := numRd_pos p3
      generalize numRd bs s3 = x4 at c4 p4 hE
      obtain ⟨v4, s4⟩ := x4
      replace p4 : s4.p ≤ bs.length := p4
      refine ⟨rfl, Nat.le_refl 0, (c4).mono ?_⟩
      rintro d l ⟨rfl, rfl⟩
      refine ⟨rfl, fun k hk => absurd hk (Nat.not_lt_zero k), rfl, ?_⟩
      repeat (first | refine And.intro (fun _ => ?_) (fun h => Bool.noConfusion h) | refine And.intro (fun h => Bool.noConfusion h) (fun _ => ?_))
      have c5 := c_wire_Reader_Num bs hb s4 p4
      have p5 : (numRd bs s4).2.p ≤ bs.length := numRd_pos p4
      generalize numRd bs s4 = x5 at c5 p5 hE
      obtain ⟨v5, s5⟩ := x5
      replace p5 : s5.p ≤ bs.length := p5
      refine ⟨rfl, Nat.le_refl 0, (c5).mono ?_⟩
      rintro d l ⟨rfl, rfl⟩
      refine ⟨rfl, fun k hk => absurd hk (Nat.not_lt_zero k), rfl, ?_⟩
      repeat (first | refine And.intro (fun _ => ?_) (fun h => Bool.noConfusion h) | refine And.intro (fun h => Bool.noConfusion h) (fun _ => ?_))
      have ce := c_wire_Reader_End bs s5
      generalize endRd bs s5 = y at ce hE
      obtain ⟨e, re⟩ := y
      replace hE : E = e := hE
      subst hE
      refine ⟨rfl, Nat.le_refl 0, (ce).mono ?_⟩
      rintro d l ⟨rfl, rfl⟩
      refine ⟨rfl, fun k hk => absurd hk (Nat.not_lt_zero k), rfl, ?_⟩
      refine And.intro (fun g9 => ?_) (fun g9 => ?_)
      · have g9 := nd_true g9
        exact ⟨zeroQ, rfl, fun q => absurd q g9⟩
      · have g9 := nd_false g9
        subst g9
        exact ⟨⟨v1, v2, ⟨5, 0, 0, 0, 0, 0, 0, 0, 0, 0, 0, 0, 0, 0, 0, 0, false, v4, v5⟩⟩, rfl, fun _ => ⟨hA.symm, hB.symm⟩⟩
    · rw [decide_eq_false hf] at hd
      subst hd
      refine ⟨rfl, fun _ _ => rfl, rfl, ?_⟩
      repeat (first | refine And.intro (fun _ => ?_) (fun h => Bool.noConfusion h) | refine And.intro (fun h => Bool.noConfusion h) (fun _ => ?_))
      have c4 := c_wire_Reader_Num bs hb s3 p3
      have p4 : (numRd bs s3).2.p ≤ bs.length := numRd_pos p3
      generalize numRd bs s3 = x4 at c4 p4 hE
      obtain ⟨v4, s4⟩ := x4
      replace p4 : s4.p ≤ bs.length := p4
      refine ⟨rfl, Nat.le_refl 0, (c4).mono ?_⟩
      rintro d l ⟨rfl, rfl⟩
      refine ⟨rfl, fun k hk => absurd hk (Nat.not_lt_zero k), rfl, ?_⟩
      repeat (first | refine And.intro (fun _ => ?_) (fun h => Bool.noConfusion h) | refine And.intro (fun h => Bool.noConfusion h) (fun _ => ?_))
      have c5 := c_wire_Reader_Num bs hb s4 p4
      have p5 : (numRd bs s4).2.p ≤ bs.length := numRd_pos p4
      generalize numRd bs s4 = x5 at c5 p5 hE
      obtain ⟨v5, s5⟩ := x5
      replace p5 : s5.p ≤ bs.length := p5
      refine ⟨rfl, Nat.le_refl 0, (c5).mono ?_⟩
      rintro d l ⟨rfl, rfl⟩
      refine ⟨rfl, fun k hk => absurd hk (Nat.not_lt_zero k), rfl, ?_⟩
      repeat (first | refine And.intro (fun _ => ?_) (fun h => Bool.noConfusion h) | refine And.intro (fun h => Bool.noConfusion h) (fun _ => ?_))
      have ce := c_wire_Reader_End bs s5
      generalize endRd bs s5 = y at ce hE
      obtain ⟨e, re⟩ := y
      replace hE : E = e := hE
      subst hE
      refine ⟨rfl, Nat.le_refl 0, (ce).mono ?_⟩
      rintro d l ⟨rfl, rfl⟩
      refine ⟨rfl, fun k hk => absurd hk (Nat.not_lt_zero k), rfl, ?_⟩
      refine And.intro (fun g9 => ?_) (fun g9 => ?_)
      · have g9 := nd_true g9
        exact ⟨zeroQ, rfl, fun q => absurd q g9⟩
      · have g9 := nd_false g9
        subst g9
        exact ⟨⟨v1, v2, ⟨5, 0, 0, 0, 0, 0, 0, 0, 0, 0, 0, 0, 0, 0, 0, 0, false, v4, v5⟩⟩, rfl, fun _ => ⟨hA.symm, hB.symm⟩⟩
  by_cases h6 : v3 = 6
  · subst h6
    have hn : nmS 6 = (false, false, false, true, true) := by unfold nmS; rw [if_neg h1, if_neg h2, if_neg h3, if_neg h5, if_pos rfl]
    rw [hn] at cn
    rw [if_neg (by omega)] at hE
    replace hE : E = (endRd bs ((numRd bs s3).2)).1 := by rw [hE]; unfold finN; rw [if_neg h1, if_neg h3, if_neg h5]
    refine ⟨rfl, Nat.zero_le 1, cn.mono ?_⟩
    rintro d l ⟨rfl, rfl⟩
    refine ⟨rfl, fun _ _ => rfl, rfl, ?_⟩
    repeat (first | refine And.intro (fun _ => ?_) (fun h => Bool.noConfusion h) | refine And.intro (fun h => Bool.noConfusion h) (fun _ => ?_))
    refine ⟨rfl, Nat.zero_le 1, cg.mono ?_⟩
    rintro d l ⟨hd, rfl⟩
    by_cases hf : s3.fw = 0
    · rw [decide_eq_true hf] at hd
      subst hd
      refine ⟨rfl, fun _ _ => rfl, rfl, ?_⟩
      repeat (first | refine And.intro (fun _ => ?_) (fun h => Bool.noConfusion h) | refine And.intro (fun h => Bool.noConfusion h) (fun _ => ?_))
      have c4 := c_wire_Reader_Num bs hb s3 p3
      have p4 : (numRd bs s3).2.p ≤ bs.length := numRd_pos p3
      generalize numRd bs s3 = x4 at c4 p4 hE
      obtain ⟨v4, s4⟩ := x4
      replace p4 : s4.p ≤ bs.length := p4
      refine ⟨rfl, Nat.le_refl 0, (c4).mono ?_⟩
      rintro d l ⟨rfl, rfl⟩
      refine ⟨rfl, fun k hk => absurd hk (Nat.not_lt_zero k), rfl, ?_⟩
      repeat (first | refine And.intro (fun _ => ?_) (fun h => Bool.noConfusion h) | refine And.intro (fun h => Bool.noConfusion h) (fun _ => ?_))
      have ce := c_wire_Reader_End bs s4
      generalize endRd bs s4 = y at ce hE
      obtain ⟨e, re⟩ := y
      replace hE : E = e := hE
      subst hE
      refine ⟨rfl, Nat.le_refl 0, (ce).mono ?_⟩
      rintro d l ⟨rfl, rfl⟩
      refine ⟨rfl, fun k hk => absurd hk (Nat.not_lt_zero k), rfl, ?_⟩
      refine And.intro (fun g9 => ?_) (fun g9 => ?_)
      · have g9 := nd_true g9
        exact ⟨zeroQ, rfl, fun q => absurd q g9⟩
      · have g9 := nd_false g9
        subst g9
        exact ⟨⟨v1, v2, ⟨6, 0, 0, 0, 0, 0, 0, 0, 0, 0, 0, 0, 0, 0, 0, 0, false, 0, v4⟩⟩, rfl, fun _ => ⟨hA.symm, hB.symm⟩⟩
    · rw [decide_eq_false hf] at hd
      subst hd
      refine ⟨rfl, fun _ _ => rfl, rfl, ?_⟩
      repeat (first | refine And.intro (fun _ => ?_) (fun h => Bool.noConfusion h) | refine And.intro (fun h => Bool.noConfusion h) (fun _ => ?_))
      have c4 := c_wire_Reader_Num bs hb s3 p3
      have p4 : (numRd bs s3).2.p ≤ bs.length := numRd_pos p3
      generalize numRd bs s3 = x4 at c4 p4 hE
      obtain ⟨v4, s4⟩ := x4
      replace p4 : s4.p ≤ bs.length := p4
      refine ⟨rfl, Nat.le_refl 0, (c4).mono ?_⟩
      rintro d l ⟨rfl, rfl⟩
      refine ⟨rfl, fun k hk => absurd hk (Nat.not_lt_zero k), rfl, ?_⟩
      repeat (first | refine And.intro (fun _ => ?_) (fun h => Bool.noConfusion h) | refine And.intro (fun h => Bool.noConfusion h) (fun _ => ?_))
      have ce := c_wire_Reader_End bs s4
      generalize endRd bs s4 = y at ce hE
      obtain ⟨e, re⟩ := y
      replace hE : E = e := hE
      subst hE
      refine ⟨rfl, Nat.le_refl 0, (ce).mono ?_⟩
      rintro d l ⟨rfl, rfl⟩
      refine ⟨rfl, fun k hk => absurd hk (Nat.not_lt_zero k), rfl, ?_⟩
      refine And.intro (fun g9 => ?_) (fun g9 => ?_)
      · have g9 := nd_true g9
        exact ⟨zeroQ, rfl, fun q => absurd q g9⟩
      · have g9 := nd_false g9
        subst g9
        exact ⟨⟨v1, v2, ⟨6, 0, 0, 0, 0, 0, 0, 0, 0, 0, 0, 0, 0, 0, 0, 0, false, 0, v4⟩⟩, rfl, fun _ => ⟨hA.symm, hB.symm⟩⟩
  have hn : nmS v3 = (false, false, false, false, false) := by unfold nmS; rw [if_neg h1, if_neg h2, if_neg h3, if_neg h5, if_neg h6]
  rw [hn] at cn
  refine ⟨rfl, Nat.zero_le 1, cn.mono ?_⟩
  rintro d l ⟨rfl, rfl⟩
  refine ⟨rfl, fun _ _ => rfl, rfl, ?_⟩
  repeat (first | refine And.intro (fun _ => ?_) (fun h => Bool.noConfusion h) | refine And.intro (fun h => Bool.noConfusion h) (fun _ => ?_))
  refine ⟨rfl, Nat.zero_le 1, cg.mono ?_⟩
  rintro d l ⟨hd, rfl⟩
  by_cases hf : s3.fw = 0
  · rw [decide_eq_true hf] at hd
    subst hd
    refine ⟨rfl, fun _ _ => rfl, rfl, ?_⟩
    repeat (first | refine And.intro (fun _ => ?_) (fun h => Bool.noConfusion h) | refine And.intro (fun h => Bool.noConfusion h) (fun _ => ?_))
    rw [if_pos ⟨hf, by omega⟩] at hE
    subst hE
    exact ⟨zeroQ, rfl, fun q => absurd q (by decide)⟩
  · rw [decide_eq_false hf] at hd
    subst hd
    refine ⟨rfl, fun _ _ => rfl, rfl, ?_⟩
    repeat (first | refine And.intro (fun _ => ?_) (fun h => Bool.noConfusion h) | refine And.intro (fun h => Bool.noConfusion h) (fun _ => ?_))
    rw [if_neg (fun q => hf q.1)] at hE
    replace hE : E = (endRd bs s3).1 := by rw [hE]; unfold finN; rw [if_neg h1, if_neg h3, if_neg h5, numRd_bad hf]
    have ce := c_wire_Reader_End bs s3
    generalize endRd bs s3 = y at ce hE
    obtain ⟨e, re⟩ := y
    replace hE : E = e := hE
    subst hE
    refine ⟨rfl, Nat.le_refl 0, (ce).mono ?_⟩
    rintro d l ⟨rfl, rfl⟩
    refine ⟨rfl, fun k hk => absurd hk (Nat.not_lt_zero k), rfl, ?_⟩
    refine And.intro (fun g9 => ?_) (fun g9 => ?_)
    · have g9 := nd_true g9
      exact ⟨zeroQ, rfl, fun q => absurd q g9⟩
    · have g9 := nd_false g9
      subst g9
      exact ⟨⟨v1, v2, ⟨v3, 0, 0, 0, 0, 0, 0, 0, 0, 0, 0, 0, 0, 0, 0, 0, false, 0, 0⟩⟩, rfl, fun _ => ⟨hA.symm, hB.symm⟩⟩
theorem c_command_Decode_0 (b : ByteArray) (hs : b.size ≤ 140737488351232) : Tri Tryz.prog 24 0 [.str b] [] (fun d l => isDec (bsOf b) d ∧ l = []) :=
  Tri.forget (c_command_Decode_1 b hs) (fun d l h _ => ⟨0, Nat.zero_le _, Nat.zero_le _, nrB_nr (isDec_ok h).2, fun o ho => absurd ho (by simp), h, rfl⟩)
theorem c_command_Decode (b : ByteArray) (hs : b.size ≤ 140737488351232) {r : Nat} {sto : List Ob} (hr : r ≤ sto.length) : Tri Tryz.prog 24 r [.str b] sto (fun d l => isDec (bsOf b) d ∧ l = sto) :=
  (c_command_Decode_0 b hs).pureR rfl rfl (fun d h => isDec_ok h) hr

end Go.Lv

namespace Go.Lv
open Go.Proofs

set_option maxHeartbeats 8000000 in
theorem c_drayref15_Decode_1 (b : ByteArray) (hs : b.size ≤ 140737488351232) : Tri Tryz.prog 28 0 [.str b] [] (fun d l => isDec (bsOf b) d) := by
  refine Tri.walk2 (L := LT) (c := {n := 80, ko := [3], kb := [2]}) [(43,1,[]),(46,1,[]),(44,1,[]),(45,1,[])] [0, 2, 3, 4, 5, 6, 36, 40, 45, 51, 57, 67, 76] hLT hmix Tryz.func28 rfl rfl ⟨rfl, rfl⟩ (by show 1 ≤ 80; decide) (by first | exact Nat.zero_le _ | exact Nat.le_refl _ | exact Nat.le_succ 1 | decide) ?_
  refine ⟨_, rfl, ?_⟩
  refine ⟨rfl, Nat.zero_le _, ?_⟩
  show Tri Tryz.prog 42 0 [.list .imm (bytesRows b)] [] _
  rw [bytesRows_of]
  have hb : (bsOf b).length ≤ 140737488351232 := by rw [bsOf_len]; exact hs
  generalize bsOf b = bs at hb ⊢
  refine (c_drayref3_Read_0 bs hb).mono ?_
  rintro d l ⟨rfl, rfl⟩
  refine ⟨rfl, fun k hk => absurd hk (Nat.not_lt_zero k), rfl, ?_⟩
  have hE : decE bs = if (numRd bs (numRd bs (numRd bs zRd).2).2).2.fw = 0 ∧ ((numRd bs (numRd bs (numRd bs zRd).2).2).1 < 1 ∨ (numRd bs (numRd bs (numRd bs zRd).2).2).1 > 7) then 4 else (endRd bs (finN bs (numRd bs (numRd bs (numRd bs zRd).2).2).1 (numRd bs (numRd bs (numRd bs zRd).2).2).2)).1 := rfl
  have hA : decA bs = (numRd bs zRd).1 := rfl
  have hB : decB bs = (numRd bs (numRd bs zRd).2).1 := rfl
  unfold isDec
  generalize decE bs = E at hE ⊢
  generalize decA bs = A at hA ⊢
  generalize decB bs = B at hB ⊢
  have c1 := c_drayref3_Reader_Num bs hb zRd (Nat.zero_le _)
  have p1 : (numRd bs zRd).2.p ≤ bs.length := numRd_pos (Nat.zero_le _)
  generalize numRd bs zRd = x1 at c1 p1 hE hA hB
  obtain ⟨v1, s1⟩ := x1
  replace p1 : s1.p ≤ bs.length := p1
  refine ⟨rfl, Nat.le_refl 0, (c1).mono ?_⟩
  rintro d l ⟨rfl, rfl⟩
  refine ⟨rfl, fun k hk => absurd hk (Nat.not_lt_zero k), rfl, ?_⟩
  have c2 := c_drayref3_Reader_Num bs hb s1 p1
  have p2 : (numRd bs s1).2.p ≤ bs.length := numRd_pos p1
  generalize numRd bs s1 = x2 at c2 p2 hE hA hB
  obtain ⟨v2, s2⟩ := x2
  replace p2 : s2.p ≤ bs.length := p2
  refine ⟨rfl, Nat.le_refl 0, (c2).mono ?_⟩
  rintro d l ⟨rfl, rfl⟩
  refine ⟨rfl, fun k hk => absurd hk (Nat.not_lt_zero k), rfl, ?_⟩
  have c3 := c_drayref3_Reader_Num bs hb s2 p2
  have p3 : (numRd bs s2).2.p ≤ bs.length := numRd_pos p2
  generalize numRd bs s2 = x3 at c3 p3 hE hA hB
  obtain ⟨v3, s3⟩ := x3
  replace p3 : s3.p ≤ bs.length := p3
  refine ⟨rfl, Nat.le_refl 0, (c3).mono ?_⟩
  rintro d l ⟨rfl, rfl⟩
  refine ⟨rfl, fun k hk => absurd hk (Nat.not_lt_zero k), rfl, ?_⟩
  replace hE : E = if s3.fw = 0 ∧ (v3 < 1 ∨ v3 > 7) then 4 else (endRd bs (finN bs v3 s3)).1 := hE
  replace hA : A = v1 := hA
  replace hB : B = v2 := hB
  refine And.intro (fun hf => ?_) (fun hf => ?_)
  · have hf : s3.fw = 0 := of_decide_eq_true hf
    refine And.intro (fun a1 => ?_) (fun a1 => ?_)
    · have a1 : v3 < 1 := of_decide_eq_true a1
      repeat (first | refine And.intro (fun _ => ?_) (fun h => Bool.noConfusion h) | refine And.intro (fun h => Bool.noConfusion h) (fun _ => ?_))
      rw [if_pos ⟨hf, .inl a1⟩] at hE
      subst hE
      exact ⟨zeroQ, rfl, fun q => absurd q (by decide)⟩
    have a1 : ¬ v3 < 1 := of_decide_eq_false a1
    repeat (first | refine And.intro (fun _ => ?_) (fun h => Bool.noConfusion h) | refine And.intro (fun h => Bool.noConfusion h) (fun _ => ?_))
    refine And.intro (fun a2 => ?_) (fun a2 => ?_)
    · have a2 : v3 > 7 := of_decide_eq_true a2
      repeat (first | refine And.intro (fun _ => ?_) (fun h => Bool.noConfusion h) | refine And.intro (fun h => Bool.noConfusion h) (fun _ => ?_))
      rw [if_pos ⟨hf, .inr a2⟩] at hE
      subst hE
      exact ⟨zeroQ, rfl, fun q => absurd q (by decide)⟩
    have a2 : ¬ v3 > 7 := of_decide_eq_false a2
    repeat (first | refine And.intro (fun _ => ?_) (fun h => Bool.noConfusion h) | refine And.intro (fun h => Bool.noConfusion h) (fun _ => ?_))
    rw [if_neg (by omega)] at hE
    refine And.intro (fun h1 => ?_) (fun h1 => ?_)
    · have h1 : v3 = 1 := of_decide_eq_true h1
      replace hE : E = (endRd bs (oN bs s3)).1 := by rw [hE]; unfold finN; rw [if_pos h1]
      have co := c_drayref15_GetOrder bs hb s3 p3
      refine ⟨rfl, Nat.le_refl 0, co.mono ?_⟩
      rintro d l ⟨⟨o0, o1, o2, o3, o4, o5, o6, o7, o8, o9, rfl⟩, rfl⟩
      refine ⟨rfl, fun k hk => absurd hk (Nat.not_lt_zero k), rfl, ?_⟩
      repeat (first | refine And.intro (fun _ => ?_) (fun h => Bool.noConfusion h) | refine And.intro (fun h => Bool.noConfusion h) (fun _ => ?_))
      generalize oN bs s3 = s4 at hE
      have ce := c_drayref3_Reader_End bs s4
      generalize endRd bs s4 = y at ce hE
      obtain ⟨e, re⟩ := y
      replace hE : E = e := hE
      subst hE
      refine ⟨rfl, Nat.le_refl 0, (ce).mono ?_⟩
      rintro d l ⟨rfl, rfl⟩
      refine ⟨rfl, fun k hk => absurd hk (Nat.not_lt_zero k), rfl, ?_⟩
      refine And.intro (fun g9 => ?_) (fun g9 => ?_)
      · have g9 := nd_true g9
        exact ⟨zeroQ, rfl, fun q => absurd q g9⟩
      · have g9 := nd_false g9
        subst g9
        exact ⟨⟨v1, v2, ⟨v3, o0, o1, o2, o3, o4, o5, o6, o7, o8, o9, 0, 0, 0, 0, 0, false, 0, 0⟩⟩, rfl, fun _ => ⟨hA.symm, hB.symm⟩⟩
    have h1 : ¬ v3 = 1 := of_decide_eq_false h1
    refine And.intro (fun h3 => ?_) (fun h3 => ?_)
    · have h3 : v3 = 3 := of_decide_eq_true h3
      replace hE : E = (endRd bs (dN bs s3)).1 := by rw [hE]; unfold finN; rw [if_neg h1, if_pos h3]
      have co := c_drayref15_GetDriver bs hb s3 p3
      refine ⟨rfl, Nat.le_refl 0, co.mono ?_⟩
      rintro d l ⟨⟨d0, d1, d2, d3, d4, d5, rfl⟩, rfl⟩
      refine ⟨rfl, fun k hk => absurd hk (Nat.not_lt_zero k), rfl, ?_⟩
      repeat (first | refine And.intro (fun _ => ?_) (fun h => Bool.noConfusion h) | refine And.intro (fun h => Bool.noConfusion h) (fun _ => ?_))
      generalize dN bs s3 = s4 at hE
      have ce := c_drayref3_Reader_End bs s4
      generalize endRd bs s4 = y at ce hE
      obtain ⟨e, re⟩ := y
      replace hE : E = e := hE
      subst hE
      refine ⟨rfl, Nat.le_refl 0, (ce).mono ?_⟩
      rintro d l ⟨rfl, rfl⟩
      refine ⟨rfl, fun k hk => absurd hk (Nat.not_lt_zero k), rfl, ?_⟩
      refine And.intro (fun g9 => ?_) (fun g9 => ?_)
      · have g9 := nd_true g9
        exact ⟨zeroQ, rfl, fun q => absurd q g9⟩
      · have g9 := nd_false g9
        subst g9
        exact ⟨⟨v1, v2, ⟨v3, 0, 0, 0, 0, 0, 0, 0, 0, 0, 0, d0, d1, d2, d3, d4, d5, 0, 0⟩⟩, rfl, fun _ => ⟨hA.symm, hB.symm⟩⟩
    have h3 : ¬ v3 = 3 := of_decide_eq_false h3
    refine And.intro (fun h5 => ?_) (fun h5 => ?_)
    · have h5 : v3 = 5 := of_decide_eq_true h5
      replace hE : E = (endRd bs ((numRd bs (numRd bs s3).2).2)).1 := by rw [hE]; unfold finN; rw [if_neg h1, if_neg h3, if_pos h5]
      have c4 := c_drayref3_Reader_Num bs hb s3 p3
      have p4 : (numRd bs s3).2.p ≤ bs.length := numRd_pos p3
      generalize numRd bs s3 = x4 at c4 p4 hE
      obtain ⟨v4, s4⟩ := x4
      replace p4 : s4.p ≤ bs.length := p4
      refine ⟨rfl, Nat.le_refl 0, (c4).mono ?_⟩
      rintro d l ⟨rfl, rfl⟩
      refine ⟨rfl, fun k hk => absurd hk (Nat.not_lt_zero k), rfl, ?_⟩
      repeat (first | refine And.intro (fun _ => ?_) (fun h => Bool.noConfusion h) | refine And.intro (fun h => Bool.noConfusion h) (fun _ => ?_))
      have c5 := c_drayref3_Reader_Num bs hb s4 p4
      have p5 : (numRd bs s4).2.p ≤ bs.length := numRd_pos p4
      generalize numRd bs s4 = x5 at c5 p5 hE
      obtain ⟨v5, s5⟩ := x5
      replace p5 : s5.p ≤ bs.length := p5
      refine ⟨rfl, Nat.le_refl 0, (c5).mono ?_⟩
      rintro d l ⟨rfl, rfl⟩
      refine ⟨rfl, fun k hk => absurd hk (Nat.not_lt_zero k), rfl, ?_⟩
      repeat (first | refine And.intro (fun _ => ?_) (fun h => Bool.noConfusion h) | refine And.intro (fun h => Bool.noConfusion h) (fun _ => ?_))
      have ce := c_drayref3_Reader_End bs s5
      generalize endRd bs s5 = y at ce hE
      obtain ⟨e, re⟩ := y
      replace hE : E = e := hE
      subst hE
      refine ⟨rfl, Nat.le_refl 0, (ce).mono ?_⟩
      rintro d l ⟨rfl, rfl⟩
      refine ⟨rfl, fun k hk => absurd hk (Nat.not_lt_zero k), rfl, ?_⟩
      refine And.intro (fun g9 => ?_) (fun g9 => ?_)
      · have g9 := nd_true g9
        exact ⟨zeroQ, rfl, fun q => absurd q g9⟩
      · have g9 := nd_false g9
        subst g9
        exact ⟨⟨v1, v2, ⟨v3, 0, 0, 0, 0, 0, 0, 0, 0, 0, 0, 0, 0, 0, 0, 0, false, v4, v5⟩⟩, rfl, fun _ => ⟨hA.symm, hB.symm⟩⟩
    have h5 : ¬ v3 = 5 := of_decide_eq_false h5
    replace hE : E = (endRd bs ((numRd bs s3).2)).1 := by rw [hE]; unfold finN; rw [if_neg h1, if_neg h3, if_neg h5]
    refine And.intro (fun h6 => ?_) (fun h6 => ?_)
    · have c4 := c_drayref3_Reader_Num bs hb s3 p3
      have p4 : (numRd bs s3).2.p ≤ bs.length := numRd_pos p3
      generalize numRd bs s3 = x4 at c4 p4 hE
      obtain ⟨v4, s4⟩ := x4
      replace p4 : s4.p ≤ bs.length := p4
      refine ⟨rfl, Nat.le_refl 0, (c4).mono ?_⟩
      rintro d l ⟨rfl, rfl⟩
      refine ⟨rfl, fun k hk => absurd hk (Nat.not_lt_zero k), rfl, ?_⟩
      repeat (first | refine And.intro (fun _ => ?_) (fun h => Bool.noConfusion h) | refine And.intro (fun h => Bool.noConfusion h) (fun _ => ?_))
      have ce := c_drayref3_Reader_End bs s4
      generalize endRd bs s4 = y at ce hE
      obtain ⟨e, re⟩ := y
      replace hE : E = e := hE
      subst hE
      refine ⟨rfl, Nat.le_refl 0, (ce).mono ?_⟩
      rintro d l ⟨rfl, rfl⟩
      refine ⟨rfl, fun k hk => absurd hk (Nat.not_lt_zero k), rfl, ?_⟩
      refine And.intro (fun g9 => ?_) (fun g9 => ?_)
      · have g9 := nd_true g9
        exact ⟨zeroQ, rfl, fun q => absurd q g9⟩
      · have g9 := nd_false g9
        subst g9
        exact ⟨⟨v1, v2, ⟨v3, 0, 0, 0, 0, 0, 0, 0, 0, 0, 0, 0, 0, 0, 0, 0, false, 0, v4⟩⟩, rfl, fun _ => ⟨hA.symm, hB.symm⟩⟩
    have c4 := c_drayref3_Reader_Num bs hb s3 p3
    have p4 : (numRd bs s3).2.p ≤ bs.length := numRd_pos p3
    generalize numRd bs s3 = x4 at c4 p4 hE
    obtain ⟨v4, s4⟩ := x4
    replace p4 : s4.p ≤ bs.length := p4
    refine ⟨rfl, Nat.le_refl 0, (c4).mono ?_⟩
    rintro d l ⟨rfl, rfl⟩
    refine ⟨rfl, fun k hk => absurd hk (Nat.not_lt_zero k), rfl, ?_⟩
    repeat (first | refine And.intro (fun _ => ?_) (fun h => Bool.noConfusion h) | refine And.intro (fun h => Bool.noConfusion h) (fun _ => ?_))
    have ce := c_drayref3_Reader_End bs s4
    generalize endRd bs s4 = y at ce hE
    obtain ⟨e, re⟩ := y
    replace hE : E = e := hE
    subst hE
    refine ⟨rfl, Nat.le_refl 0, (ce).mono ?_⟩
    rintro d l ⟨rfl, rfl⟩
    refine ⟨rfl, fun k hk => absurd hk (Nat.not_lt_zero k), rfl, ?_⟩
    refine And.intro (fun g9 => ?_) (fun g9 => ?_)
    · have g9 := nd_true g9
      exact ⟨zeroQ, rfl, fun q => absurd q g9⟩
    · have g9 := nd_false g9
      subst g9
      exact ⟨⟨v1, v2, ⟨v3, 0, 0, 0, 0, 0, 0, 0, 0, 0, 0, 0, 0, 0, 0, 0, false, v4, 0⟩⟩, rfl, fun _ => ⟨hA.symm, hB.symm⟩⟩
  have hf : ¬ s3.fw = 0 := of_decide_eq_false hf
  repeat (first | refine And.intro (fun _ => ?_) (fun h => Bool.noConfusion h) | refine And.intro (fun h => Bool.noConfusion h) (fun _ => ?_))
  rw [if_neg (fun q => hf q.1)] at hE
  refine And.intro (fun h1 => ?_) (fun h1 => ?_)
  · have h1 : v3 = 1 := of_decide_eq_true h1
    replace hE : E = (endRd bs (oN bs s3)).1 := by rw [hE]; unfold finN; rw [if_pos h1]
    have co := c_drayref15_GetOrder bs hb s3 p3
    refine ⟨rfl, Nat.le_refl 0, co.mono ?_⟩
    rintro d l ⟨⟨o0, o1, o2, o3, o4, o5, o6, o7, o8, o9, rfl⟩, rfl⟩
    refine ⟨rfl, fun k hk => absurd hk (Nat.not_lt_zero k), rfl, ?_⟩
    repeat (first | refine And.intro (fun _ => ?_) (fun h => Bool.noConfusion h) | refine And.intro (fun h => Bool.noConfusion h) (fun _ => ?_))
    generalize oN bs s3 = s4 at hE
    have ce := c_drayref3_Reader_End bs s4
    generalize endRd bs s4 = y at ce hE
    obtain ⟨e, re⟩ := y
    replace hE : E = e := hE
    subst hE
    refine ⟨rfl, Nat.le_refl 0, (ce).mono ?_⟩
    rintro d l ⟨rfl, rfl⟩
    refine ⟨rfl, fun k hk => absurd hk (Nat.not_lt_zero k), rfl, ?_⟩
    refine And.intro (fun g9 => ?_) (fun g9 => ?_)
    · have g9 := nd_true g9
      exact ⟨zeroQ, rfl, fun q => absurd q g9⟩
    · have g9 := nd_false g9
      subst g9
      exact ⟨⟨v1, v2, ⟨v3, o0, o1, o2, o3, o4, o5, o6, o7, o8, o9, 0, 0, 0, 0, 0, false, 0, 0⟩⟩, rfl, fun _ => ⟨hA.symm, hB.symm⟩⟩
  have h1 : ¬ v3 = 1 := of_decide_eq_false h1
  refine And.intro (fun h3 => ?_) (fun h3 => ?_)
  · have h3 : v3 = 3 := of_decide_eq_true h3
    replace hE : E = (endRd bs (dN bs s3)).1 := by rw [hE]; unfold finN; rw [if_neg h1, if_pos h3]
    have co := c_drayref15_GetDriver bs hb s3 p3
    refine ⟨rfl, Nat.le_refl 0, co.mono ?_⟩
    rintro d l ⟨⟨d0, d1, d2, d3, d4, d5, rfl⟩, rfl⟩
    refine ⟨rfl, fun k hk => absurd hk (Nat.not_lt_zero k), rfl, ?_⟩
    repeat (first | refine And.intro (fun _ => ?_) (fun h => Bool.noConfusion h) | refine And.intro (fun h => Bool.noConfusion h) (fun _ => ?_))
    generalize dN bs s3 = s4 at hE
    have ce := c_drayref3_Reader_End bs s4
    generalize endRd bs s4 = y at ce hE
    obtain ⟨e, re⟩ := y
    replace hE : E = e := hE
    subst hE
    refine ⟨rfl, Nat.le_refl 0, (ce).mono ?_⟩
    rintro d l ⟨rfl, rfl⟩
    refine ⟨rfl, fun k hk => absurd hk (Nat.not_lt_zero k), rfl, ?_⟩
    refine And.intro (fun g9 => ?_) (fun g9 => ?_)
    · have g9 := nd_true g9
      exact ⟨zeroQ, rfl, fun q => absurd q g9⟩
    · have g9 := nd_false g9
      subst g9
      exact ⟨⟨v1, v2, ⟨v3, 0, 0, 0, 0, 0, 0, 0, 0, 0, 0, d0, d1, d2, d3, d4, d5, 0, 0⟩⟩, rfl, fun _ => ⟨hA.symm, hB.symm⟩⟩
  have h3 : ¬ v3 = 3 := of_decide_eq_false h3
  refine And.intro (fun h5 => ?_) (fun h5 => ?_)
  · have h5 : v3 = 5 := of_decide_eq_true h5
    replace hE : E = (endRd bs ((numRd bs (numRd bs s3).2).2)).1 := by rw [hE]; unfold finN; rw [if_neg h1, if_neg h3, if_pos h5]
    have c4 := c_drayref3_Reader_Num bs hb s3 p3
    have p4 : (numRd bs s3).2.p ≤ bs.length := numRd_pos p3
    generalize numRd bs s3 = x4 at c4 p4 hE
    obtain ⟨v4, s4⟩ := x4
    replace p4 : s4.p ≤ bs.length := p4
    refine ⟨rfl, Nat.le_refl 0, (c4).mono ?_⟩
    rintro d l ⟨rfl, rfl⟩
    refine ⟨rfl, fun k hk => absurd hk (Nat.not_lt_zero k), rfl, ?_⟩
    repeat (first | refine And.intro (fun _ => ?_) (fun h => Bool.noConfusion h) | refine And.intro (fun h => Bool.noConfusion h) (fun _ => ?_))
    have c5 := c_drayref3_Reader_Num bs hb s4 p4
    have p5 : (numRd bs s4).2.p ≤ bs.length := numRd_pos p4
    generalize numRd bs s4 = x5 at c5 p5 hE
    obtain ⟨v5, s5⟩ := x5
    replace p5 : s5.p ≤ bs.length := p5
    refine ⟨rfl, Nat.le_refl 0, (c5).mono ?_⟩
    rintro d l ⟨rfl, rfl⟩
    refine ⟨rfl, fun k hk => absurd hk (Nat.not_lt_zero k), rfl, ?_⟩
    repeat (first | refine And.intro (fun _ => ?_) (fun h => Bool.noConfusion h) | refine And.intro (fun h => Bool.noConfusion h) (fun _ => ?_))
    have ce := c_drayref3_Reader_End bs s5
    generalize endRd bs s5 = y at ce hE
    obtain ⟨e, re⟩ := y
    replace hE : E = e := hE
    subst hE
    refine ⟨rfl, Nat.le_refl 0, (ce).mono ?_⟩
    rintro d l ⟨rfl, rfl⟩
    refine ⟨rfl, fun k hk => absurd hk (Nat.not_lt_zero k), rfl, ?_⟩
    refine And.intro (fun g9 => ?_) (fun g9 => ?_)
    · have g9 := nd_true g9
      exact ⟨zeroQ, rfl, fun q => absurd q g9⟩
    · have g9 := nd_false g9
      subst g9
      exact ⟨⟨v1, v2, ⟨v3, 0, 0, 0, 0, 0, 0, 0, 0, 0, 0, 0, 0, 0, 0, 0, false, v4, v5⟩⟩, rfl, fun _ => ⟨hA.symm, hB.symm⟩⟩
  have h5 : ¬ v3 = 5 := of_decide_eq_false h5
  replace hE : E = (endRd bs ((numRd bs s3).2)).1 := by rw [hE]; unfold finN; rw [if_neg h1, if_neg h3, if_neg h5]
  refine And.intro (fun h6 => ?_) (fun h6 => ?_)
  · have c4 := c_drayref3_Reader_Num bs hb s3 p3
    have p4 : (numRd bs s3).2.p ≤ bs.length := numRd_pos p3
    generalize numRd bs s3 = x4 at c4 p4 hE
    obtain ⟨v4, s4⟩ := x4
    replace p4 : s4.p ≤ bs.length := p4
    refine ⟨rfl, Nat.le_refl 0, (c4).mono ?_⟩
    rintro d l ⟨rfl, rfl⟩
    refine ⟨rfl, fun k hk => absurd hk (Nat.not_lt_zero k), rfl, ?_⟩
    repeat (first | refine And.intro (fun _ => ?_) (fun h => Bool.noConfusion h) | refine And.intro (fun h => Bool.noConfusion h) (fun _ => ?_))
    have ce := c_drayref3_Reader_End bs s4
    generalize endRd bs s4 = y at ce hE
    obtain ⟨e, re⟩ := y
    replace hE : E = e := hE
    subst hE
    refine ⟨rfl, Nat.le_refl 0, (ce).mono ?_⟩
    rintro d l ⟨rfl, rfl⟩
    refine ⟨rfl, fun k hk => absurd hk (Nat.not_lt_zero k), rfl, ?_⟩
    refine And.intro (fun g9 => ?_) (fun g9 => ?_)
    · have g9 := nd_true g9
      exact ⟨zeroQ, rfl, fun q => absurd q g9⟩
    · have g9 := nd_false g9
      subst g9
      exact ⟨⟨v1, v2, ⟨v3, 0, 0, 0, 0, 0, 0, 0, 0, 0, 0, 0, 0, 0, 0, 0, false, 0, v4⟩⟩, rfl, fun _ => ⟨hA.symm, hB.symm⟩⟩
  have c4 := c_drayref3_Reader_Num bs hb s3 p3
  have p4 : (numRd bs s3).2.p ≤ bs.length := numRd_pos p3
  generalize numRd bs s3 = x4 at c4 p4 hE
  obtain ⟨v4, s4⟩ := x4
  replace p4 : s4.p ≤ bs.length := p4
  refine ⟨rfl, Nat.le_refl 0, (c4).mono ?_⟩
  rintro d l ⟨rfl, rfl⟩
  refine ⟨rfl, fun k hk => absurd hk (Nat.not_lt_zero k), rfl, ?_⟩
  repeat (first | refine And.intro (fun _ => ?_) (fun h => Bool.noConfusion h) | refine And.intro (fun h => Bool.noConfusion h) (fun _ => ?_))
  have ce := c_drayref3_Reader_End bs s4
  generalize endRd bs s4 = y at ce hE
  obtain ⟨e, re⟩ := y
  replace hE : E = e := hE
  subst hE
  refine ⟨rfl, Nat.le_refl 0, (ce).mono ?_⟩
  rintro d l ⟨rfl, rfl⟩
  refine ⟨rfl, fun k hk => absurd hk (Nat.not_lt_zero k), rfl, ?_⟩
  refine And.intro (fun g9 => ?_) (fun g9 => ?_)
  · have g9 := nd_true g9
    exact ⟨zeroQ, rfl, fun q => absurd q g9⟩
  · have g9 := nd_false g9
    subst g9
    exact ⟨⟨v1, v2, ⟨v3, 0, 0, 0, 0, 0, 0, 0, 0, 0, 0, 0, 0, 0, 0, 0, false, v4, 0⟩⟩, rfl, fun _ => ⟨hA.symm, hB.symm⟩⟩
theorem c_drayref15_Decode_0 (b : ByteArray) (hs : b.size ≤ 140737488351232) : Tri Tryz.prog 28 0 [.str b] [] (fun d l => isDec (bsOf b) d ∧ l = []) :=
  Tri.forget (c_drayref15_Decode_1 b hs) (fun d l h _ => ⟨0, Nat.zero_le _, Nat.zero_le _, nrB_nr (isDec_ok h).2, fun o ho => absurd ho (by simp), h, rfl⟩)
theorem c_drayref15_Decode (b : ByteArray) (hs : b.size ≤ 140737488351232) {r : Nat} {sto : List Ob} (hr : r ≤ sto.length) : Tri Tryz.prog 28 r [.str b] sto (fun d l => isDec (bsOf b) d ∧ l = sto) :=
  (c_drayref15_Decode_0 b hs).pureR rfl rfl (fun d h => isDec_ok h) hr
end Go.Lv

namespace Go.Lv
open Go.Proofs

noncomputable def rowStr (b : ByteArray) : List D := [.str b]
noncomputable def encLog (l : List ByteArray) : D := .list .imm (l.map rowStr)
noncomputable def isIt (b : ByteArray) (s n : Int) : Prop := decE (bsOf b) = 0 ∧ decA (bsOf b) = s ∧ decB (bsOf b) = n
noncomputable instance (b : ByteArray) (s n : Int) : Decidable (isIt b s n) := by unfold isIt; infer_instance
noncomputable def firG (s n : Int) : Nat → List ByteArray → Int
  | _, [] => 0
  | i, b :: r => if isIt b s n then ((i + 1 : Nat) : Int) else firG s n (i + 1) r
noncomputable def firE (s n : Int) (l : List ByteArray) : Int := firG s n 0 l
theorem firG_at {s n : Int} {l : List ByteArray} {i : Nat} (h : i < l.length) : firG s n i (l.drop i) = if isIt l[i] s n then ((i + 1 : Nat) : Int) else firG s n (i + 1) (l.drop (i + 1)) := by
  rw [List.drop_eq_getElem_cons h]
  rfl
noncomputable def sF1 (l : List ByteArray) (s n : Int) (i : Nat) : DS := ⟨[(1, .int .i64 s), (2, .int .i64 n), (6, .int .i64 0), (11, encLog l), (12, .int .i64 (l.length : Int)), (13, .int .i64 (i : Int))], [], [], mR 0⟩
set_option maxHeartbeats 8000000 in
theorem c_trace_First_0 (l : List ByteArray) (hl : l.length ≤ 1000000000000000) (hb : ∀ b, b ∈ l → b.size ≤ 140737488351232) (s n : Int) : Tri Tryz.prog 10 0 [encLog l, .int .i64 s, .int .i64 n] [] (fun d k => d = .int .i64 (firE s n l) ∧ k = []) := by
  refine Tri.walk2 (L := LT) (c := {n := 40, ko := [6]}) [] [0, 1, 2, 6, 7, 8, 9, 10, 11, 12, 13, 14, 36] hLT hmix Tryz.func10 rfl rfl ⟨rfl, rfl⟩ (by show 3 ≤ 40; decide) (by first | exact Nat.zero_le _ | exact Nat.le_refl _ | exact Nat.le_succ 1 | decide) ?_
  show Ok _ _ _ _ _
  refine Ok.loopN hLT hmix [] [0, 1, 2, 6, 7, 8, 9, 10, 11, 12, 13, 14, 36] [1,2,6,11,12,13] [] (fun f t => ∃ i : Nat, f = l.length - i ∧ i ≤ l.length ∧ firG s n i (l.drop i) = firE s n l ∧ t = sF1 l s n i) (n := l.length) ⟨0, rfl, Nat.zero_le _, rfl, by unfold sF1; rw [← List.length_map (f := rowStr)]; rfl⟩ ?_
  rintro f t ⟨i, rfl, hi, hgo, rfl⟩
  refine And.intro (fun h1 => ?_) (fun h1 => ?_)
  rotate_left
  · have h1 : ¬ ((i : Nat) : Int) < (l.length : Int) := of_decide_eq_false h1
    rw [List.drop_eq_nil_of_le (by omega)] at hgo
    rw [← hgo]
    exact And.intro rfl rfl
  have h1 : ((i : Nat) : Int) < (l.length : Int) := of_decide_eq_true h1
  have hil : i < l.length := by omega
  have hw := wrap_succ (i := i) (n := l.length) hil (by omega)
  rw [firG_at hil] at hgo
  have hbi := hb l[i] (List.getElem_mem _)
  have hrow : (l.map rowStr)[((i : Nat) : Int).toNat]? = some (rowStr l[i]) := row_at' rowStr l rfl hil
  have hlen : ((i : Nat) : Int) < ((l.map rowStr).length : Int) := by rw [List.length_map]; omega
  generalize l[i] = b at hgo hbi hrow
  have hgo1 : isIt b s n → ((i + 1 : Nat) : Int) = firE s n l := fun h => by rw [if_pos h] at hgo; exact hgo
  have hgo2 : ¬ isIt b s n → firG s n (i + 1) (l.drop (i + 1)) = firE s n l := fun h => by rw [if_neg h] at hgo; exact hgo
  clear hgo
  unfold isIt at hgo1 hgo2
  refine ⟨_, _, rfl, by omega, hrow, rfl, of_decide_eq_true rfl, ?_⟩
  refine ⟨rfl, Nat.zero_le _, (c_command_Decode b hbi (r := 0) (sto := []) (Nat.le_refl 0)).mono ?_⟩
  rintro d k ⟨⟨q, rfl, hq⟩, rfl⟩
  refine ⟨rfl, fun _ _ => rfl, rfl, ?_⟩
  generalize decE (bsOf b) = e at hgo1 hgo2 hq ⊢
  generalize decA (bsOf b) = A at hgo1 hgo2 hq
  generalize decB (bsOf b) = B at hgo1 hgo2 hq
  obtain ⟨qs, qn, qc⟩ := q
  have fin : ¬ (e = 0 ∧ A = s ∧ B = n) → ∃ m, m < l.length - i ∧ ∃ i' : Nat, m = l.length - i' ∧ i' ≤ l.length ∧ firG s n i' (l.drop i') = firE s n l ∧ sF1 l s n (i + 1) = sF1 l s n i' := fun h => by
    exact ⟨l.length - (i + 1), by omega, i + 1, rfl, by omega, hgo2 h, rfl⟩
  unfold sF1 at fin
  rw [← hw] at fin
  refine And.intro (fun g1 => ?_) (fun g1 => ?_)
  rotate_left
  · have g1 : ¬ e = 0 := of_decide_eq_false g1
    repeat (first | refine And.intro (fun _ => ?_) (fun h => Bool.noConfusion h) | refine And.intro (fun h => Bool.noConfusion h) (fun _ => ?_))
    exact fin (fun h => g1 h.1)
  have g1 : e = 0 := of_decide_eq_true g1
  obtain ⟨q1, q2⟩ := hq g1
  replace q1 : qs = A := q1
  replace q2 : qn = B := q2
  subst q1 q2
  refine And.intro (fun g2 => ?_) (fun g2 => ?_)
  rotate_left
  · have g2 : ¬ qs = s := of_decide_eq_false g2
    repeat (first | refine And.intro (fun _ => ?_) (fun h => Bool.noConfusion h) | refine And.intro (fun h => Bool.noConfusion h) (fun _ => ?_))
    exact fin (fun h => g2 h.2.1)
  have g2 : qs = s := of_decide_eq_true g2
  repeat (first | refine And.intro (fun _ => ?_) (fun h => Bool.noConfusion h) | refine And.intro (fun h => Bool.noConfusion h) (fun _ => ?_))
  refine And.intro (fun g3 => ?_) (fun g3 => ?_)
  rotate_left
  · have g3 : ¬ qn = n := of_decide_eq_false g3
    repeat (first | refine And.intro (fun _ => ?_) (fun h => Bool.noConfusion h) | refine And.intro (fun h => Bool.noConfusion h) (fun _ => ?_))
    exact fin (fun h => g3 h.2.2)
  have g3 : qn = n := of_decide_eq_true g3
  repeat (first | refine And.intro (fun _ => ?_) (fun h => Bool.noConfusion h) | refine And.intro (fun h => Bool.noConfusion h) (fun _ => ?_))
  rw [← hgo1 ⟨g1, g2, g3⟩, ← hw]
  exact And.intro rfl rfl
noncomputable def sF2 (l : List ByteArray) (s n : Int) (i : Nat) : DS := ⟨[(0, encLog l), (1, .int .i64 s), (2, .int .i64 n), (6, .int .i64 0), (7, .int .i64 (i : Int))], [], [], mR 0⟩
set_option maxHeartbeats 8000000 in
theorem c_drayref29_First_0 (l : List ByteArray) (hl : l.length ≤ 1000000000000000) (hb : ∀ b, b ∈ l → b.size ≤ 140737488351232) (s n : Int) : Tri Tryz.prog 15 0 [encLog l, .int .i64 s, .int .i64 n] [] (fun d k => d = .int .i64 (firE s n l) ∧ k = []) := by
  refine Tri.walk2 (L := LT) (c := {n := 40, ko := [6]}) [] [0, 1, 2, 6, 7, 8, 9, 13, 37] hLT hmix Tryz.func15 rfl rfl ⟨rfl, rfl⟩ (by show 3 ≤ 40; decide) (by first | exact Nat.zero_le _ | exact Nat.le_refl _ | exact Nat.le_succ 1 | decide) ?_
  show Ok _ _ _ _ _
  refine Ok.loopN hLT hmix [] [0, 1, 2, 6, 7, 8, 9, 13, 37] [0,1,2,6,7] [] (fun f t => ∃ i : Nat, f = l.length - i ∧ i ≤ l.length ∧ firG s n i (l.drop i) = firE s n l ∧ t = sF2 l s n i) (n := l.length) ⟨0, rfl, Nat.zero_le _, rfl, rfl⟩ ?_
  rintro f t ⟨i, rfl, hi, hgo, rfl⟩
  refine And.intro (fun h1 => ?_) (fun h1 => ?_)
  rotate_left
  · have h1 : ¬ ((i : Nat) : Int) < ((l.map rowStr).length : Int) := of_decide_eq_false h1
    rw [List.length_map] at h1
    rw [List.drop_eq_nil_of_le (by omega)] at hgo
    rw [← hgo]
    exact And.intro rfl rfl
  have h1 : ((i : Nat) : Int) < ((l.map rowStr).length : Int) := of_decide_eq_true h1
  rw [List.length_map] at h1
  have hil : i < l.length := by omega
  have hw := wrap_succ (i := i) (n := l.length) hil (by omega)
  rw [firG_at hil] at hgo
  have hbi := hb l[i] (List.getElem_mem _)
  have hrow : (l.map rowStr)[((i : Nat) : Int).toNat]? = some (rowStr l[i]) := row_at' rowStr l rfl hil
  have hlen : ((i : Nat) : Int) < ((l.map rowStr).length : Int) := by rw [List.length_map]; omega
  generalize l[i] = b at hgo hbi hrow
  have hgo1 : isIt b s n → ((i + 1 : Nat) : Int) = firE s n l := fun h => by rw [if_pos h] at hgo; exact hgo
  have hgo2 : ¬ isIt b s n → firG s n (i + 1) (l.drop (i + 1)) = firE s n l := fun h => by rw [if_neg h] at hgo; exact hgo
  clear hgo
  unfold isIt at hgo1 hgo2
  refine ⟨_, _, rfl, by omega, hrow, rfl, of_decide_eq_true rfl, ?_⟩
  refine ⟨rfl, Nat.zero_le _, (c_drayref15_Decode b hbi (r := 0) (sto := []) (Nat.le_refl 0)).mono ?_⟩
  rintro d k ⟨⟨q, rfl, hq⟩, rfl⟩
  refine ⟨rfl, fun _ _ => rfl, rfl, ?_⟩
  generalize decE (bsOf b) = e at hgo1 hgo2 hq ⊢
  generalize decA (bsOf b) = A at hgo1 hgo2 hq
  generalize decB (bsOf b) = B at hgo1 hgo2 hq
  obtain ⟨qs, qn, qc⟩ := q
  have fin : ¬ (e = 0 ∧ A = s ∧ B = n) → ∃ m, m < l.length - i ∧ ∃ i' : Nat, m = l.length - i' ∧ i' ≤ l.length ∧ firG s n i' (l.drop i') = firE s n l ∧ sF2 l s n (i + 1) = sF2 l s n i' := fun h => by
    exact ⟨l.length - (i + 1), by omega, i + 1, rfl, by omega, hgo2 h, rfl⟩
  unfold sF2 at fin
  rw [← hw] at fin
  refine And.intro (fun g1 => ?_) (fun g1 => ?_)
  rotate_left
  · have g1 : ¬ e = 0 := of_decide_eq_false g1
    repeat (first | refine And.intro (fun _ => ?_) (fun h => Bool.noConfusion h) | refine And.intro (fun h => Bool.noConfusion h) (fun _ => ?_))
    exact fin (fun h => g1 h.1)
  have g1 : e = 0 := of_decide_eq_true g1
  obtain ⟨q1, q2⟩ := hq g1
  replace q1 : qs = A := q1
  replace q2 : qn = B := q2
  subst q1 q2
  refine And.intro (fun g2 => ?_) (fun g2 => ?_)
  rotate_left
  · have g2 : ¬ qs = s := of_decide_eq_false g2
    repeat (first | refine And.intro (fun _ => ?_) (fun h => Bool.noConfusion h) | refine And.intro (fun h => Bool.noConfusion h) (fun _ => ?_))
    exact fin (fun h => g2 h.2.1)
  have g2 : qs = s := of_decide_eq_true g2
  repeat (first | refine And.intro (fun _ => ?_) (fun h => Bool.noConfusion h) | refine And.intro (fun h => Bool.noConfusion h) (fun _ => ?_))
  refine And.intro (fun g3 => ?_) (fun g3 => ?_)
  rotate_left
  · have g3 : ¬ qn = n := of_decide_eq_false g3
    repeat (first | refine And.intro (fun _ => ?_) (fun h => Bool.noConfusion h) | refine And.intro (fun h => Bool.noConfusion h) (fun _ => ?_))
    exact fin (fun h => g3 h.2.2)
  have g3 : qn = n := of_decide_eq_true g3
  repeat (first | refine And.intro (fun _ => ?_) (fun h => Bool.noConfusion h) | refine And.intro (fun h => Bool.noConfusion h) (fun _ => ?_))
  rw [← hgo1 ⟨g1, g2, g3⟩, ← hw]
  exact And.intro rfl rfl
theorem okLog {n m : Nat} {x : List D} (h : OkD LT (n + 2) 44 x) (z : SzD LT (m + 2) 44 x) : ∃ l : List ByteArray, x = [encLog l] ∧ l.length ≤ 1000000000000000 ∧ ∀ b, b ∈ l → b.size ≤ 140737488351232 := by
  obtain ⟨xs, rfl, _, h⟩ := h
  obtain ⟨xs', e, z, z2⟩ := z
  cases e
  have key : ∀ xs : List (List D), (∀ r, r ∈ xs → r.length = LT.size 9 ∧ OkD LT (n + 1) 9 r) → (∀ r, r ∈ xs → SzD LT (m + 1) 9 r) → ∃ l : List ByteArray, xs = l.map rowStr ∧ ∀ b, b ∈ l → b.size ≤ 140737488351232 := by
    intro xs
    induction xs with
    | nil => intro _ _; exact ⟨[], rfl, fun b hb => by cases hb⟩
    | cons x r ih =>
      intro h z
      obtain ⟨s, rfl, _⟩ := (h x (by simp)).2
      obtain ⟨s2, e, hz⟩ := z [.str s] (by simp)
      cases e
      obtain ⟨l, rfl, hl⟩ := ih (fun y hy => h y (by simp [hy])) (fun y hy => z y (by simp [hy]))
      exact ⟨s :: l, rfl, fun b hb => by
        rcases List.mem_cons.1 hb with e | hb
        · rw [e]; exact hz
        · exact hl b hb⟩
  obtain ⟨l, rfl, hl⟩ := key xs h z2
  have z : (l.map rowStr).length * 16 ≤ 140737488351232 := z
  rw [List.length_map] at z
  exact ⟨l, rfl, by omega, hl⟩
end Go.Lv

namespace Go.Lv
open Go.Proofs
noncomputable def ER : Ev := { L := LT, S := SS }
theorem ERok : EvOk Tryz.prog ER := ⟨fun f g h => (by cases h), hLT, by kernel_rfl, fun f T s o s' x args tys caps _ _ _ _ h => by cases h⟩
noncomputable def trueQ : Rz (D × List Ob) → Bool
  | .ok (.bool b, _) => b
  | _ => false
theorem trueQ_tri {n k : Nat} {args : List D} (h : trueQ (evF Tryz.prog ER n 0 k args []) = true) : Tri Tryz.prog k 0 args [] (fun d l => d = .bool true ∧ l = []) := by
  unfold trueQ at h
  split at h
  · rename_i b l he
    subst h
    exact Tri.forget ((evF_ok ERok n 0 k args [] _ _ he).1) (fun d l h _ => ⟨0, Nat.zero_le _, Nat.zero_le _, by rw [h.1]; exact .bool _, fun o ho => absurd ho (by simp), h.1, rfl⟩)
  · cases h
theorem tRuns : Tri Tryz.prog 3 0 [] [] (fun d l => d = .bool true ∧ l = []) := trueQ_tri (n := 30) (by kernel_rfl)
end Go.Lv

namespace Go.Lv
open Go.Proofs

set_option maxHeartbeats 4000000 in
theorem l_First (l : List ByteArray) (hl : l.length ≤ 1000000000000000) (hb : ∀ b, b ∈ l → b.size ≤ 140737488351232) (s n : Int) : Tri Tryz.prog 5 0 [encLog l, .int .i64 s, .int .i64 n] [] (fun d _ => d = .bool true) := by
  refine Tri.walk2 (L := LT) (c := {n := 19, ko := [6]}) [] [0, 1, 2, 6] hLT hmix Tryz.func5 rfl rfl ⟨rfl, rfl⟩ (by show 3 ≤ 19; decide) (by first | exact Nat.zero_le _ | exact Nat.le_refl _ | exact Nat.le_succ 1 | decide) ?_
  have h1 := c_trace_First_0 l hl hb s n
  have h2 := c_drayref29_First_0 l hl hb s n
  generalize firE s n l = x at h1 h2
  refine ⟨rfl, (by first | exact Nat.zero_le _ | exact Nat.le_refl _ | exact Nat.le_succ 1 | decide), (h1).mono ?_⟩
  rintro d l ⟨rfl, rfl⟩
  refine ⟨rfl, fun _ _ => rfl, rfl, ?_⟩
  refine ⟨rfl, (by first | exact Nat.zero_le _ | exact Nat.le_refl _ | exact Nat.le_succ 1 | decide), (h2).mono ?_⟩
  rintro d l ⟨rfl, rfl⟩
  refine ⟨rfl, fun _ _ => rfl, rfl, ?_⟩
  refine And.intro (fun h3 => ?_) (fun h3 => ?_)
  rotate_left
  · exact absurd rfl (of_decide_eq_false h3)
  repeat (first | refine And.intro (fun _ => ?_) (fun h => Bool.noConfusion h) | refine And.intro (fun h => Bool.noConfusion h) (fun _ => ?_))
  refine ⟨rfl, (by first | exact Nat.zero_le _ | exact Nat.le_refl _ | exact Nat.le_succ 1 | decide), (tRuns).mono ?_⟩
  rintro d l ⟨rfl, rfl⟩
  refine ⟨rfl, fun _ _ => rfl, rfl, ?_⟩
  repeat (first | refine And.intro (fun _ => ?_) (fun h => Bool.noConfusion h) | refine And.intro (fun h => Bool.noConfusion h) (fun _ => ?_))
  exact rfl
end Go.Lv
