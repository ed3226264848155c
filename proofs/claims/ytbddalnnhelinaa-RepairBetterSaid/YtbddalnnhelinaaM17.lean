/-
  Part 17 of the texts under the proof: an abstract run of loaded code on data, and what the functions do. No condition.
-/
import Derived.Test.YtbddalnnhelinaaM16
import Derived.KernelRfl
set_option linter.all false
set_option maxRecDepth 100000
namespace Go.Lv
open Go.Proofs

noncomputable def runS (m : Mp) (s : Sta) (ls : List Leg) : Sta := ls.foldl (stepS m) s
noncomputable def legsOf (os : List Ord) (st : List Stp) : List Leg := st.map fun s => legO (ordOf os s) s.drop
noncomputable def sta0 (d : Drv) : Sta := ⟨d.w.lo, d.home, 0, 0⟩
noncomputable def preOf (m : Mp) (d : Drv) (ls : List Leg) (k : Nat) : List Sta := (List.range (k + 1)).map fun i => runS m (sta0 d) (ls.take i)
noncomputable def madeX (m : Mp) (d : Drv) (os : List Ord) (st : List Stp) (o : Ord) : Srch := ⟨d, legsOf os st, preOf m d (legsOf os st) st.length, legO o false, legO o true, decide (os.length ≥ 40)⟩
theorem preOf_succ {m : Mp} {d : Drv} {ls : List Leg} {k : Nat} : preOf m d ls (k + 1) = preOf m d ls k ++ [runS m (sta0 d) (ls.take (k + 1))] := by
  unfold preOf
  rw [List.range_succ, List.map_append]
  rfl
theorem runS_succ {m : Mp} {s : Sta} {ls : List Leg} {i : Nat} (h : i < ls.length) : runS m s (ls.take (i + 1)) = stepS m (runS m s (ls.take i)) ls[i] := by
  unfold runS
  rw [List.take_succ_eq_append_getElem h, List.foldl_append]
  rfl
theorem okLeg_o {n : Int} {o : Ord} (h : errO n o = 0) (b : Bool) : okLeg (legO o b) := by
  have e := errO_size h
  have e2 := e.2.2.2.2 b
  cases b
  · exact ⟨e2.1, e2.2.1, by show -1000 ≤ o.size; omega, by show o.size ≤ 1000; omega⟩
  · exact ⟨e2.1, e2.2.1, by show -1000 ≤ -o.size; omega, by show -o.size ≤ 1000; omega⟩
theorem okLeg_s {n : Int} {os : List Ord} (ho : okOs n os) (s : Stp) (b : Bool) : okLeg (legO (ordOf os s) b) := by
  unfold ordOf
  cases hf : findO s.ord os with
  | none => cases b <;> exact ⟨by decide, by decide, by decide, by decide⟩
  | some o => exact okLeg_o (ho.2.1 o (findO_mem hf).1) b
theorem size_s {n : Int} {os : List Ord} (ho : okOs n os) (s : Stp) : -1000000 ≤ (ordOf os s).size ∧ (ordOf os s).size ≤ 1000000 := by
  unfold ordOf
  cases hf : findO s.ord os with
  | none => exact ⟨by decide, by decide⟩
  | some o =>
    have := errO_size (ho.2.1 o (findO_mem hf).1)
    show -1000000 ≤ o.size ∧ o.size ≤ 1000000
    omega
theorem runS_ok {m : Mp} (hm : okMp m) {s : Sta} {c : Nat} (hs : okSta c s) : ∀ {ls : List Leg}, (∀ l, l ∈ ls → okLeg l) → okSta (c + ls.length) (runS m s ls) := by
  intro ls
  induction ls generalizing s c with
  | nil => exact fun _ => hs
  | cons l ls ih =>
    intro h
    have := ih (stepS_ok hm hs (h l (by simp))) (fun x hx => h x (by simp [hx]))
    show okSta (c + (ls.length + 1)) (runS m (stepS m s l) ls)
    rw [show c + (ls.length + 1) = c + 1 + ls.length by omega]
    exact this
theorem findOD_ord' (os : List Ord) (s : Stp) : ∃ q, findOD s.ord os = .tup [.agg (rowO (ordOf os s)), .bool q] := by
  unfold findOD ordOf
  cases findO s.ord os with
  | none => exact ⟨false, rfl⟩
  | some o => exact ⟨true, rfl⟩
theorem sta0_ok {n : Int} {d : Drv} (hd : errD n d = 0) : okSta 0 (sta0 d) := by
  have := errD_room hd
  unfold sta0
  constructor <;> simp only <;> omega
noncomputable def sMb (m : Mp) (os : List Ord) (st : List Stp) (x : Srch) (cur : Sta) (sl : Nat) (i : Nat) : DS := ⟨[(2, encOs os), (10, .nil), (11, .gptr 1 0), (12, .lptr 12 0 0), (45, .list .imm (st.map rowS)), (46, .int .i64 (st.length : Int)), (47, .int .i64 (i : Int))], [(12, rowT cur)], [mbox m, xbox 0 sl 4 x], mR 1⟩
set_option maxHeartbeats 8000000 in
theorem c_insert_made_0 (m : Mp) (hm : okMp m) (d : Drv) (hd : errD m.n d = 0) (os : List Ord) (ho : okOs m.n os) (st : List Stp) (hst : st.length ≤ 80) (o : Ord) (hoo : errO m.n o = 0) : Tri Try.prog 114 1 [.gptr 0 0, .agg (rowDr d), encOs os, .list .imm (st.map rowS), .agg (rowO o)] [mbox m] (fun x k => x = .gptr 1 0 ∧ ∃ sl, k = [mbox m, xbox 0 sl 4 (madeX m d os st o)]) := by
  refine Tri.walk2 (L := LT) (c := {n := 91, gl := [28], ko := [10], kb := [28], xf := [39, 73, 83]}) [(57,1,[]),(118,1,[]),(119,1,[])] [0, 1, 2, 3, 4, 6, 9, 10, 11, 12, 14, 15, 17, 45, 46, 47, 48] hLT hmix Try.func114 rfl rfl ⟨rfl, rfl⟩ (by show 5 ≤ 91; decide) (by first | exact Nat.zero_le _ | exact Nat.le_refl _ | exact Nat.le_succ 1 | decide) ?_
  have hsz := errO_size hoo
  have hdr := errD_room hd
  have hol := ho.1
  have hl1 := c_insert_legOf o (by omega) false (r := 1) (sto := [mbox m]) (Nat.le_refl 1)
  have hl2 := c_insert_legOf o (by omega) true (r := 1) (sto := [mbox m]) (Nat.le_refl 1)
  have hlegs : (legsOf os st).length = st.length := by unfold legsOf; rw [List.length_map]
  have hall : ∀ l, l ∈ legsOf os st → okLeg l := fun l hl => by
    obtain ⟨s, _, rfl⟩ := List.mem_map.1 hl
    exact okLeg_s ho s s.drop
  generalize hpk : legO o false = pk at hl1
  generalize hdrp : legO o true = dr at hl2
  refine ⟨⟨4095, [0, 0, 0, 4, 0, 24, 0, 64, 128, 299, 512, 2047], [1, 2, 4, 12, 16, 60, 64, 192, 448, 1023, 2047, 4095]⟩, by kernel_rfl, ?_⟩
  obtain ⟨fl, hfl⟩ : ∃ fl, decide (((os.map rowO).length : Int) ≥ 40) = fl := ⟨_, rfl⟩
  refine And.intro (fun hf => ?_) (fun hf => ?_)
  · obtain rfl : fl = true := hfl.symm.trans hf
    refine And.intro ?_ trivial
    refine ⟨rfl, (by first | exact Nat.zero_le _ | exact Nat.le_refl _ | exact Nat.le_succ 1 | decide), (hl1).mono ?_⟩
    rintro d l ⟨rfl, rfl⟩
    refine ⟨rfl, fun _ _ => rfl, rfl, ?_⟩
    refine And.intro (by repeat (first | exact trivial | refine And.intro ⟨rfl, rfl⟩ ?_)) ?_
    refine And.intro ?_ trivial
    refine ⟨rfl, (by first | exact Nat.zero_le _ | exact Nat.le_refl _ | exact Nat.le_succ 1 | decide), (hl2).mono ?_⟩
    rintro d l ⟨rfl, rfl⟩
    refine ⟨rfl, fun _ _ => rfl, rfl, ?_⟩
    refine And.intro (by repeat (first | exact trivial | refine And.intro ⟨rfl, rfl⟩ ?_)) ?_
    refine And.intro ?_ trivial
    refine And.intro (by repeat (first | exact trivial | refine And.intro ⟨rfl, rfl⟩ ?_)) ?_
    refine And.intro ?_ trivial
    refine And.intro (by repeat (first | exact trivial | refine And.intro ⟨rfl, rfl⟩ ?_)) ?_
    refine And.intro ?_ trivial
    refine And.intro (by repeat (first | exact trivial | refine And.intro ⟨rfl, rfl⟩ ?_)) ?_
    refine ⟨⟨1023, [0, 0, 2, 4, 8, 0, 32, 80, 255, 511, 767], [1, 2, 6, 14, 30, 32, 96, 254, 511, 1023, 2047]⟩, by kernel_rfl, ?_⟩
    refine (fun (hrest : _) => And.intro (by
        refine And.intro (by repeat (first | exact trivial | refine And.intro ⟨rfl, rfl⟩ ?_)) ?_
        refine And.intro ?_ trivial
        refine And.intro (by repeat (first | exact trivial | refine And.intro ⟨rfl, rfl⟩ ?_)) ?_
        refine And.intro ?_ trivial
        refine And.intro trivial (And.intro rfl (And.intro (by show (0 + 1) * 32 ≤ 140737488355328; decide) (And.intro rfl ?_)))
        refine And.intro (by repeat (first | exact trivial | refine And.intro ⟨rfl, rfl⟩ ?_)) ?_
        refine And.intro ?_ trivial
        refine And.intro (by repeat (first | exact trivial | refine And.intro ⟨rfl, rfl⟩ ?_)) ?_
        exact hrest) (And.intro (by
        refine And.intro (by repeat (first | exact trivial | refine And.intro ⟨rfl, rfl⟩ ?_)) ?_
        refine And.intro ?_ trivial
        refine And.intro (by repeat (first | exact trivial | refine And.intro ⟨rfl, rfl⟩ ?_)) ?_
        refine And.intro ?_ trivial
        refine And.intro trivial (And.intro rfl (And.intro (by show (0 + 1) * 32 ≤ 140737488355328; decide) (And.intro rfl ?_)))
        refine And.intro (by repeat (first | exact trivial | refine And.intro ⟨rfl, rfl⟩ ?_)) ?_
        refine And.intro ?_ trivial
        refine And.intro (by repeat (first | exact trivial | refine And.intro ⟨rfl, rfl⟩ ?_)) ?_
        exact hrest) trivial)) ?_
    generalize hys : rowsOf _ _ _ = ys
    have hys : ys = [rowT (sta0 d)] := hys.symm.trans rfl
    subst hys
    show Ok _ _ _ _ _
    refine Ok.loopN hLT hmix [(57,1,[]),(118,1,[]),(119,1,[])] [0, 1, 2, 3, 4, 6, 9, 10, 11, 12, 14, 15, 17, 45, 46, 47, 48] [2,10,11,12,45,46,47] [12] (fun n s => ∃ (i sl : Nat) (lg : List Leg) (pre : List Sta) (cur : Sta), n = st.length - i ∧ i ≤ st.length ∧ (sl = 0 ∨ sl = 5) ∧ lg = (legsOf os st).take i ∧ pre = preOf m d (legsOf os st) i ∧ cur = runS m (sta0 d) ((legsOf os st).take i) ∧ s = sMb m os st ⟨d, lg, pre, pk, dr, true⟩ cur sl i) (n := st.length) ⟨0, 0, [], [sta0 d], sta0 d, rfl, Nat.zero_le _, .inl rfl, rfl, rfl, rfl, by unfold sMb; rw [← List.length_map (f := rowS)]; rfl⟩ ?_
    rintro n s ⟨i, sl, lg, pre, cur, rfl, hi, hsl, hlgE, hpreE, hcurE, rfl⟩
    refine And.intro (fun h1 => ?_) (fun h1 => ?_)
    rotate_left
    · have h1 : ¬ ((i : Nat) : Int) < (st.length : Int) := of_decide_eq_false h1
      have hil : i = st.length := by omega
      subst hil
      refine And.intro rfl ⟨sl, ?_⟩
      have e : madeX m d os st o = ⟨d, lg, pre, pk, dr, true⟩ := by
        unfold madeX
        rw [hlgE, hpreE, hpk, hdrp, List.take_of_length_le (by rw [hlegs]; omega), ← hf]
        rw [List.length_map, show decide ((os.length : Int) ≥ 40) = decide (os.length ≥ 40) from decide_eq_decide.2 (by omega)]
      rw [e]
      rfl
    have h1 : ((i : Nat) : Int) < (st.length : Int) := of_decide_eq_true h1
    have hil : i < st.length := by omega
    have hw := wrap_succ (i := i) (n := st.length) hil (by omega)
    refine ⟨(st).map rowS, rowS ((st)[i]'(by omega)), rfl, by omega, row_at' rowS (st) (by omega) (by omega), rfl, of_decide_eq_true rfl, ?_⟩
    have hli : i < (legsOf os st).length := by omega
    have hlg : (legsOf os st)[i] = legO (ordOf os st[i]) st[i].drop := by simp [legsOf]
    have hrs := runS_succ (m := m) (s := sta0 d) hli
    rw [hlg] at hrs
    have hok := runS_ok hm (sta0_ok hd) (ls := (legsOf os st).take i) (fun l hl => hall l (List.mem_of_mem_take hl))
    have hlt : ((legsOf os st).take i).length = i := by rw [List.length_take]; omega
    have hto := List.take_succ_eq_append_getElem hli
    rw [hlg] at hto
    have hps := preOf_succ (m := m) (d := d) (ls := legsOf os st) (k := i)
    have hpl : (preOf m d (legsOf os st) i).length = i + 1 := by unfold preOf; rw [List.length_map, List.length_range]
    rw [← hlgE] at hlt hto
    rw [← hpreE] at hps hpl
    rw [← hcurE] at hrs hok
    clear hlgE hpreE hcurE
    have hok0 := okLeg_s ho st[i] st[i].drop
    have hf0 := c_route_Find os (by omega) st[i].ord (r := 1) (sto := [mbox m, xbox 0 sl 4 ⟨d, lg, pre, pk, dr, true⟩]) (show 1 ≤ 2 by decide)
    obtain ⟨q, hq⟩ := findOD_ord' os st[i]
    rw [hq] at hf0
    have hlo := c_insert_legOf (ordOf os st[i]) (size_s ho st[i]) st[i].drop (r := 1) (sto := [mbox m, xbox 0 sl 4 ⟨d, lg, pre, pk, dr, true⟩]) (show 1 ≤ 2 by decide)
    generalize st[i] = s at hlg hrs hto hok0 hf0 hq hlo ⊢
    generalize ordOf os s = oo at hlg hrs hto hok0 hf0 hq hlo
    generalize legO oo s.drop = lg1 at hlg hrs hto hok0 hlo
    have hcs := c_insert_step_1 m hm ⟨d, lg, pre, pk, dr, true⟩ sl 4 cur (k := 0 + ((legsOf os st).take i).length) (by rw [List.length_take]; omega) hok lg1 hok0
    unfold stepD at hcs
    rw [← hrs] at hcs
    rw [hrs] at hps
    generalize hnx : stepS m cur lg1 = nx at hrs hps hcs
    rw [hrs] at hcs
    generalize stepB m d cur lg1 = sb at hcs
    obtain ⟨sn, sdr⟩ := s
    refine ⟨rfl, (by first | exact Nat.zero_le _ | exact Nat.le_refl _ | exact Nat.le_succ 1 | decide), (hf0).mono ?_⟩
    rintro d l ⟨rfl, rfl⟩
    refine ⟨rfl, fun _ _ => rfl, rfl, ?_⟩
    refine ⟨rfl, (by first | exact Nat.zero_le _ | exact Nat.le_refl _ | exact Nat.le_succ 1 | decide), (hlo).mono ?_⟩
    rintro d l ⟨rfl, rfl⟩
    refine ⟨rfl, fun _ _ => rfl, rfl, ?_⟩
    refine ⟨rfl, (by first | exact Nat.zero_le _ | exact Nat.le_refl _ | exact Nat.le_succ 1 | decide), (hcs).mono ?_⟩
    rintro d l ⟨rfl, rfl⟩
    refine ⟨rfl, fun _ _ => rfl, rfl, ?_⟩
    have hszk : ((sl == 0 || sl == LT.size 184) && decide (0 < LT.size 184) && decide (0 < LT.bytes 184) && (LT.zero 184).isSome) = true := by rcases hsl with rfl | rfl <;> rfl
    have hrm1 : ((lg.map rowL).length + 1) * 40 ≤ 140737488355328 := by rw [List.length_map]; omega
    have hrm2 : ((pre.map rowT).length + 1) * 32 ≤ 140737488355328 := by rw [List.length_map]; omega
    refine ⟨⟨1023, [0, 0, 2, 4, 8, 0, 32, 80, 255, 511, 767], [1, 2, 6, 14, 30, 32, 96, 254, 511, 1023, 2047]⟩, by kernel_rfl, ?_⟩
    refine (fun (hrest : _) => And.intro (by
        refine And.intro (by repeat (first | exact trivial | refine And.intro ⟨rfl, rfl⟩ ?_)) ?_
        refine And.intro ?_ trivial
        refine And.intro (by repeat (first | exact trivial | refine And.intro ⟨rfl, rfl⟩ ?_)) ?_
        refine And.intro ?_ trivial
        refine And.intro trivial (And.intro hszk (And.intro hrm1 (And.intro rfl ?_)))
        refine And.intro (by repeat (first | exact trivial | refine And.intro ⟨rfl, rfl⟩ ?_)) ?_
        refine And.intro ?_ trivial
        refine And.intro (by repeat (first | exact trivial | refine And.intro ⟨rfl, rfl⟩ ?_)) ?_
        exact hrest) (And.intro (by
        refine And.intro (by repeat (first | exact trivial | refine And.intro ⟨rfl, rfl⟩ ?_)) ?_
        refine And.intro ?_ trivial
        refine And.intro (by repeat (first | exact trivial | refine And.intro ⟨rfl, rfl⟩ ?_)) ?_
        refine And.intro ?_ trivial
        refine And.intro trivial (And.intro hszk (And.intro hrm1 (And.intro rfl ?_)))
        refine And.intro (by repeat (first | exact trivial | refine And.intro ⟨rfl, rfl⟩ ?_)) ?_
        refine And.intro ?_ trivial
        refine And.intro (by repeat (first | exact trivial | refine And.intro ⟨rfl, rfl⟩ ?_)) ?_
        exact hrest) trivial)) ?_
    generalize hys : rowsOf _ _ _ = ys
    have hys : ys = [rowL lg1] := hys.symm.trans rfl
    subst hys
    refine ⟨⟨1023, [0, 0, 2, 4, 8, 0, 32, 80, 255, 511, 767], [1, 2, 6, 14, 30, 32, 96, 254, 511, 1023, 2047]⟩, by kernel_rfl, ?_⟩
    refine (fun (hrest : _) => And.intro (by
        refine And.intro (by repeat (first | exact trivial | refine And.intro ⟨rfl, rfl⟩ ?_)) ?_
        refine And.intro ?_ trivial
        refine And.intro (by repeat (first | exact trivial | refine And.intro ⟨rfl, rfl⟩ ?_)) ?_
        refine And.intro ?_ trivial
        refine And.intro trivial (And.intro rfl (And.intro hrm2 (And.intro rfl ?_)))
        refine And.intro (by repeat (first | exact trivial | refine And.intro ⟨rfl, rfl⟩ ?_)) ?_
        refine And.intro ?_ trivial
        refine And.intro (by repeat (first | exact trivial | refine And.intro ⟨rfl, rfl⟩ ?_)) ?_
        exact hrest) (And.intro (by
        refine And.intro (by repeat (first | exact trivial | refine And.intro ⟨rfl, rfl⟩ ?_)) ?_
        refine And.intro ?_ trivial
        refine And.intro (by repeat (first | exact trivial | refine And.intro ⟨rfl, rfl⟩ ?_)) ?_
        refine And.intro ?_ trivial
        refine And.intro trivial (And.intro rfl (And.intro hrm2 (And.intro rfl ?_)))
        refine And.intro (by repeat (first | exact trivial | refine And.intro ⟨rfl, rfl⟩ ?_)) ?_
        refine And.intro ?_ trivial
        refine And.intro (by repeat (first | exact trivial | refine And.intro ⟨rfl, rfl⟩ ?_)) ?_
        exact hrest) trivial)) ?_
    generalize hys : rowsOf _ _ _ = ys
    have hys : ys = [rowT nx] := hys.symm.trans rfl
    subst hys
    refine ⟨st.length - (i + 1), by omega, i + 1, 5, lg ++ [lg1], pre ++ [nx], nx, rfl, by omega, .inr rfl, hto.symm, hps.symm, hrs.symm, ?_⟩
    unfold sMb
    rw [← hw]
    unfold xbox xcs
    simp only [List.map_append]
    rfl
  · obtain rfl : fl = false := hfl.symm.trans hf
    refine And.intro ?_ trivial
    refine ⟨rfl, (by first | exact Nat.zero_le _ | exact Nat.le_refl _ | exact Nat.le_succ 1 | decide), (hl1).mono ?_⟩
    rintro d l ⟨rfl, rfl⟩
    refine ⟨rfl, fun _ _ => rfl, rfl, ?_⟩
    refine And.intro (by repeat (first | exact trivial | refine And.intro ⟨rfl, rfl⟩ ?_)) ?_
    refine And.intro ?_ trivial
    refine ⟨rfl, (by first | exact Nat.zero_le _ | exact Nat.le_refl _ | exact Nat.le_succ 1 | decide), (hl2).mono ?_⟩
    rintro d l ⟨rfl, rfl⟩
    refine ⟨rfl, fun _ _ => rfl, rfl, ?_⟩
    refine And.intro (by repeat (first | exact trivial | refine And.intro ⟨rfl, rfl⟩ ?_)) ?_
    refine And.intro ?_ trivial
    refine And.intro (by repeat (first | exact trivial | refine And.intro ⟨rfl, rfl⟩ ?_)) ?_
    refine And.intro ?_ trivial
    refine And.intro (by repeat (first | exact trivial | refine And.intro ⟨rfl, rfl⟩ ?_)) ?_
    refine And.intro ?_ trivial
    refine And.intro (by repeat (first | exact trivial | refine And.intro ⟨rfl, rfl⟩ ?_)) ?_
    refine ⟨⟨1023, [0, 0, 2, 4, 8, 0, 32, 80, 255, 511, 767], [1, 2, 6, 14, 30, 32, 96, 254, 511, 1023, 2047]⟩, by kernel_rfl, ?_⟩
    refine (fun (hrest : _) => And.intro (by
        refine And.intro (by repeat (first | exact trivial | refine And.intro ⟨rfl, rfl⟩ ?_)) ?_
        refine And.intro ?_ trivial
        refine And.intro (by repeat (first | exact trivial | refine And.intro ⟨rfl, rfl⟩ ?_)) ?_
        refine And.intro ?_ trivial
        refine And.intro trivial (And.intro rfl (And.intro (by show (0 + 1) * 32 ≤ 140737488355328; decide) (And.intro rfl ?_)))
        refine And.intro (by repeat (first | exact trivial | refine And.intro ⟨rfl, rfl⟩ ?_)) ?_
        refine And.intro ?_ trivial
        refine And.intro (by repeat (first | exact trivial | refine And.intro ⟨rfl, rfl⟩ ?_)) ?_
        exact hrest) (And.intro (by
        refine And.intro (by repeat (first | exact trivial | refine And.intro ⟨rfl, rfl⟩ ?_)) ?_
        refine And.intro ?_ trivial
        refine And.intro (by repeat (first | exact trivial | refine And.intro ⟨rfl, rfl⟩ ?_)) ?_
        refine And.intro ?_ trivial
        refine And.intro trivial (And.intro rfl (And.intro (by show (0 + 1) * 32 ≤ 140737488355328; decide) (And.intro rfl ?_)))
        refine And.intro (by repeat (first | exact trivial | refine And.intro ⟨rfl, rfl⟩ ?_)) ?_
        refine And.intro ?_ trivial
        refine And.intro (by repeat (first | exact trivial | refine And.intro ⟨rfl, rfl⟩ ?_)) ?_
        exact hrest) trivial)) ?_
    generalize hys : rowsOf _ _ _ = ys
    have hys : ys = [rowT (sta0 d)] := hys.symm.trans rfl
    subst hys
    show Ok _ _ _ _ _
    refine Ok.loopN hLT hmix [(57,1,[]),(118,1,[]),(119,1,[])] [0, 1, 2, 3, 4, 6, 9, 10, 11, 12, 14, 15, 17, 45, 46, 47, 48] [2,10,11,12,45,46,47] [12] (fun n s => ∃ (i sl : Nat) (lg : List Leg) (pre : List Sta) (cur : Sta), n = st.length - i ∧ i ≤ st.length ∧ (sl = 0 ∨ sl = 5) ∧ lg = (legsOf os st).take i ∧ pre = preOf m d (legsOf os st) i ∧ cur = runS m (sta0 d) ((legsOf os st).take i) ∧ s = sMb m os st ⟨d, lg, pre, pk, dr, false⟩ cur sl i) (n := st.length) ⟨0, 0, [], [sta0 d], sta0 d, rfl, Nat.zero_le _, .inl rfl, rfl, rfl, rfl, by unfold sMb; rw [← List.length_map (f := rowS)]; rfl⟩ ?_
    rintro n s ⟨i, sl, lg, pre, cur, rfl, hi, hsl, hlgE, hpreE, hcurE, rfl⟩
    refine And.intro (fun h1 => ?_) (fun h1 => ?_)
    rotate_left
    · have h1 : ¬ ((i : Nat) : Int) < (st.length : Int) := of_decide_eq_false h1
      have hil : i = st.length := by omega
      subst hil
      refine And.intro rfl ⟨sl, ?_⟩
      have e : madeX m d os st o = ⟨d, lg, pre, pk, dr, false⟩ := by
        unfold madeX
        rw [hlgE, hpreE, hpk, hdrp, List.take_of_length_le (by rw [hlegs]; omega), ← hf]
        rw [List.length_map, show decide ((os.length : Int) ≥ 40) = decide (os.length ≥ 40) from decide_eq_decide.2 (by omega)]
      rw [e]
      rfl
    have h1 : ((i : Nat) : Int) < (st.length : Int) := of_decide_eq_true h1
    have hil : i < st.length := by omega
    have hw := wrap_succ (i := i) (n := st.length) hil (by omega)
    refine ⟨(st).map rowS, rowS ((st)[i]'(by omega)), rfl, by omega, row_at' rowS (st) (by omega) (by omega), rfl, of_decide_eq_true rfl, ?_⟩
    have hli : i < (legsOf os st).length := by omega
    have hlg : (legsOf os st)[i] = legO (ordOf os st[i]) st[i].drop := by simp [legsOf]
    have hrs := runS_succ (m := m) (s := sta0 d) hli
    rw [hlg] at hrs
    have hok := runS_ok hm (sta0_ok hd) (ls := (legsOf os st).take i) (fun l hl => hall l (List.mem_of_mem_take hl))
    have hlt : ((legsOf os st).take i).length = i := by rw [List.length_take]; omega
    have hto := List.take_succ_eq_append_getElem hli
    rw [hlg] at hto
    have hps := preOf_succ (m := m) (d := d) (ls := legsOf os st) (k := i)
    have hpl : (preOf m d (legsOf os st) i).length = i + 1 := by unfold preOf; rw [List.length_map, List.length_range]
    rw [← hlgE] at hlt hto
    rw [← hpreE] at hps hpl
    rw [← hcurE] at hrs hok
    clear hlgE hpreE hcurE
    have hok0 := okLeg_s ho st[i] st[i].drop
    have hf0 := c_route_Find os (by omega) st[i].ord (r := 1) (sto := [mbox m, xbox 0 sl 4 ⟨d, lg, pre, pk, dr, false⟩]) (show 1 ≤ 2 by decide)
    obtain ⟨q, hq⟩ := findOD_ord' os st[i]
    rw [hq] at hf0
    have hlo := c_insert_legOf (ordOf os st[i]) (size_s ho st[i]) st[i].drop (r := 1) (sto := [mbox m, xbox 0 sl 4 ⟨d, lg, pre, pk, dr, false⟩]) (show 1 ≤ 2 by decide)
    generalize st[i] = s at hlg hrs hto hok0 hf0 hq hlo ⊢
    generalize ordOf os s = oo at hlg hrs hto hok0 hf0 hq hlo
    generalize legO oo s.drop = lg1 at hlg hrs hto hok0 hlo
    have hcs := c_insert_step_1 m hm ⟨d, lg, pre, pk, dr, false⟩ sl 4 cur (k := 0 + ((legsOf os st).take i).length) (by rw [List.length_take]; omega) hok lg1 hok0
    unfold stepD at hcs
    rw [← hrs] at hcs
    rw [hrs] at hps
    generalize hnx : stepS m cur lg1 = nx at hrs hps hcs
    rw [hrs] at hcs
    generalize stepB m d cur lg1 = sb at hcs
    obtain ⟨sn, sdr⟩ := s
    refine ⟨rfl, (by first | exact Nat.zero_le _ | exact Nat.le_refl _ | exact Nat.le_succ 1 | decide), (hf0).mono ?_⟩
    rintro d l ⟨rfl, rfl⟩
    refine ⟨rfl, fun _ _ => rfl, rfl, ?_⟩
    refine ⟨rfl, (by first | exact Nat.zero_le _ | exact Nat.le_refl _ | exact Nat.le_succ 1 | decide), (hlo).mono ?_⟩
    rintro d l ⟨rfl, rfl⟩
    refine ⟨rfl, fun _ _ => rfl, rfl, ?_⟩
    refine ⟨rfl, (by first | exact Nat.zero_le _ | exact Nat.le_refl _ | exact Nat.le_succ 1 | decide), (hcs).mono ?_⟩
    rintro d l ⟨rfl, rfl⟩
    refine ⟨rfl, fun _ _ => rfl, rfl, ?_⟩
    have hszk : ((sl == 0 || sl == LT.size 184) && decide (0 < LT.size 184) && decide (0 < LT.bytes 184) && (LT.zero 184).isSome) = true := by rcases hsl with rfl | rfl <;> rfl
    have hrm1 : ((lg.map rowL).length + 1) * 40 ≤ 140737488355328 := by rw [List.length_map]; omega
    have hrm2 : ((pre.map rowT).length + 1) * 32 ≤ 140737488355328 := by rw [List.length_map]; omega
    refine ⟨⟨1023, [0, 0, 2, 4, 8, 0, 32, 80, 255, 511, 767], [1, 2, 6, 14, 30, 32, 96, 254, 511, 1023, 2047]⟩, by kernel_rfl, ?_⟩
    refine (fun (hrest : _) => And.intro (by
        refine And.intro (by repeat (first | exact trivial | refine And.intro ⟨rfl, rfl⟩ ?_)) ?_
        refine And.intro ?_ trivial
        refine And.intro (by repeat (first | exact trivial | refine And.intro ⟨rfl, rfl⟩ ?_)) ?_
        refine And.intro ?_ trivial
        refine And.intro trivial (And.intro hszk (And.intro hrm1 (And.intro rfl ?_)))
        refine And.intro (by repeat (first | exact trivial | refine And.intro ⟨rfl, rfl⟩ ?_)) ?_
        refine And.intro ?_ trivial
        refine And.intro (by repeat (first | exact trivial | refine And.intro ⟨rfl, rfl⟩ ?_)) ?_
        exact hrest) (And.intro (by
        refine And.intro (by repeat (first | exact trivial | refine And.intro ⟨rfl, rfl⟩ ?_)) ?_
        refine And.intro ?_ trivial
        refine And.intro (by repeat (first | exact trivial | refine And.intro ⟨rfl, rfl⟩ ?_)) ?_
        refine And.intro ?_ trivial
        refine And.intro trivial (And.intro hszk (And.intro hrm1 (And.intro rfl ?_)))
        refine And.intro (by repeat (first | exact trivial | refine And.intro ⟨rfl, rfl⟩ ?_)) ?_
        refine And.intro ?_ trivial
        refine And.intro (by repeat (first | exact trivial | refine And.intro ⟨rfl, rfl⟩ ?_)) ?_
        exact hrest) trivial)) ?_
    generalize hys : rowsOf _ _ _ = ys
    have hys : ys = [rowL lg1] := hys.symm.trans rfl
    subst hys
    refine ⟨⟨1023, [0, 0, 2, 4, 8, 0, 32, 80, 255, 511, 767], [1, 2, 6, 14, 30, 32, 96, 254, 511, 1023, 2047]⟩, by kernel_rfl, ?_⟩
    refine (fun (hrest : _) => And.intro (by
        refine And.intro (by repeat (first | exact trivial | refine And.intro ⟨rfl, rfl⟩ ?_)) ?_
        refine And.intro ?_ trivial
        refine And.intro (by repeat (first | exact trivial | refine And.intro ⟨rfl, rfl⟩ ?_)) ?_
        refine And.intro ?_ trivial
        refine And.intro trivial (And.intro rfl (And.intro hrm2 (And.intro rfl ?_)))
        refine And.intro (by repeat (first | exact trivial | refine And.intro ⟨rfl, rfl⟩ ?_)) ?_
        refine And.intro ?_ trivial
        refine And.intro (by repeat (first | exact trivial | refine And.intro ⟨rfl, rfl⟩ ?_)) ?_
        exact hrest) (And.intro (by
        refine And.intro (by repeat (first | exact trivial | refine And.intro ⟨rfl, rfl⟩ ?_)) ?_
        refine And.intro ?_ trivial
        refine And.intro (by repeat (first | exact trivial | refine And.intro ⟨rfl, rfl⟩ ?_)) ?_
        refine And.intro ?_ trivial
        refine And.intro trivial (And.intro rfl (And.intro hrm2 (And.intro rfl ?_)))
        refine And.intro (by repeat (first | exact trivial | refine And.intro ⟨rfl, rfl⟩ ?_)) ?_
        refine And.intro ?_ trivial
        refine And.intro (by repeat (first | exact trivial | refine And.intro ⟨rfl, rfl⟩ ?_)) ?_
        exact hrest) trivial)) ?_
    generalize hys : rowsOf _ _ _ = ys
    have hys : ys = [rowT nx] := hys.symm.trans rfl
    subst hys
    refine ⟨st.length - (i + 1), by omega, i + 1, 5, lg ++ [lg1], pre ++ [nx], nx, rfl, by omega, .inr rfl, hto.symm, hps.symm, hrs.symm, ?_⟩
    unfold sMb
    rw [← hw]
    unfold xbox xcs
    simp only [List.map_append]
    rfl
end Go.Lv

namespace Go.Lv
open Go.Proofs

theorem bestG_le {m : Mp} {x : Srch} {B : Int} (hB : B ≤ 100000) : ∀ {ps : List (Nat × Nat)} {o : Spt} {t : Int} {f : Bool}, 0 ≤ t → t ≤ 100000 → 0 ≤ (bestG m x B ps o t f).2.1 ∧ (bestG m x B ps o t f).2.1 ≤ 100000
  | [], o, t, f, h0, h1 => ⟨h0, h1⟩
  | (i, j) :: ps, o, t, f, h0, h1 => by
    unfold bestG
    split
    · exact ⟨h0, h1⟩
    · split
      · exact bestG_le hB (by omega) (by omega)
      · exact bestG_le hB (by omega) (by omega)
theorem bestX_le {m : Mp} {x : Srch} {s : Nat} {B : Int} (hB : B ≤ 100000) : 0 ≤ (bestX m x s B).2.1 ∧ (bestX m x s B).2.1 ≤ 100000 := bestG_le hB (by decide) (by decide)
theorem madeX_ok {m : Mp} (hm : okMp m) {d : Drv} (hd : errD m.n d = 0) {os : List Ord} (ho : okOs m.n os) {st : List Stp} (hst : st.length ≤ 80) {o : Ord} (hoo : errO m.n o = 0) : okX (madeX m d os st o) := by
  have hlen : (legsOf os st).length = st.length := by unfold legsOf; rw [List.length_map]
  have hall : ∀ l, l ∈ legsOf os st → okLeg l := fun l hl => by
    obtain ⟨s, _, rfl⟩ := List.mem_map.1 hl
    exact okLeg_s ho s s.drop
  refine ⟨by show (legsOf os st).length ≤ 80; omega, ?_, hall, okLeg_o hoo false, okLeg_o hoo true, fun s hs => ?_⟩
  · show (preOf m d (legsOf os st) st.length).length = (legsOf os st).length + 1
    unfold preOf
    rw [List.length_map, List.length_range, hlen]
  · obtain ⟨i, hi, rfl⟩ := List.mem_map.1 (show s ∈ (List.range (st.length + 1)).map _ from hs)
    have := runS_ok hm (sta0_ok hd) (ls := (legsOf os st).take i) (fun l hl => hall l (List.mem_of_mem_take hl))
    refine this.mono ?_
    rw [List.length_take]
    omega
theorem c_insert_made (m : Mp) (hm : okMp m) (d : Drv) (hd : errD m.n d = 0) (os : List Ord) (ho : okOs m.n os) (st : List Stp) (hst : st.length ≤ 80) (o : Ord) (hoo : errO m.n o = 0) {r b : Nat} {sto : List Ob} (hr : r ≤ sto.length) (hb : sto[b]? = some (mbox m)) (hbr : b < r) : Tri Try.prog 114 r [.gptr b 0, .agg (rowDr d), encOs os, .list .imm (st.map rowS), .agg (rowO o)] sto (fun x k => x = .gptr sto.length 0 ∧ ∃ sl, k = sto ++ [xbox b sl 4 (madeX m d os st o)]) := by
  have hn : nrBL 0 [.agg (rowDr d), encOs os, .list .imm (st.map rowS), .agg (rowO o)] = true := by
    show (true && nrBL 0 [encOs os, .list .imm (st.map rowS), .agg (rowO o)]) = true
    rw [nrBL_O (nrBL_S rfl)]
    rfl
  have := Tri.ren (r := r) (sto := sto) (fun _ => b) (c_insert_made_0 m hm d hd os ho st hst o hoo) (fun i j hi hj e => by
      have hi : i < 1 := hi
      have hj : j < 1 := hj
      omega) (fun i o hi => by
      match i, hi with
      | 0, hi =>
        simp at hi
        subst hi
        show _ = some (Ob.box (renL _ (mcs m)))
        rw [renL_id _ (nr_mcs m)]
        exact hb
      | i + 1, hi => simp at hi) (fun i hi => by
      have hi : i < 1 := hi
      exact ⟨fun _ => hbr, fun _ => by omega⟩) hr rfl (fun x hx => by
      rcases List.mem_cons.1 hx with e | hx
      · rw [e]; exact .gptr _ _ (by show 0 < 1; omega)
      · exact nrBL_up hn x hx) (fun o ho => by
      have : o = mbox m := by simpa using ho
      rw [this]
      exact fun x hx => nrBL_up (nr_mcs m) x hx) rfl (fun d l ⟨h1, sl, h2⟩ => by subst h1; subst h2; exact ⟨rfl, rfl⟩)
  rw [show renL (fun _ => b) [.gptr 0 0, .agg (rowDr d), encOs os, .list .imm (st.map rowS), .agg (rowO o)] = [.gptr b 0, .agg (rowDr d), encOs os, .list .imm (st.map rowS), .agg (rowO o)] by show D.gptr b 0 :: renL _ [_, _, _, _] = _; rw [renL_id _ hn]] at this
  refine this.mono fun x l ⟨d1, l1, ⟨h1, sl, h2⟩, h3, h4⟩ => ?_
  subst h1
  subst h2
  subst h3
  subst h4
  refine ⟨by show D.gptr (extR _ 1 sto.length 1) 0 = _; simp [extR], sl, ?_⟩
  show (sto.set b (.box (renL _ (mcs m)))) ++ [Ob.box (.gptr (extR _ 1 sto.length 0) 0 :: renL _ (xtl sl 4 (madeX m d os st o)))] = _
  rw [renL_id _ (nr_mcs m), renL_id _ (nr_xtl sl 4 _)]
  have e1 : sto.set b (.box (mcs m)) = sto := by
    apply List.ext_getElem?
    intro i
    rw [List.getElem?_set]
    split
    · rename_i e
      subst e
      rw [if_pos (List.getElem?_eq_some_iff.1 hb).1, hb]
      rfl
    · rfl
  rw [e1]
  simp [extR, xbox, xcs_tl]
noncomputable def lookG (m : Mp) (ds : List Drv) (os : List Ord) (o : Ord) (B : Int) : Pln → Spt → Int → Bool → Spt × Int × Bool
  | [], out, t, f => (out, t, f)
  | r :: p, out, t, f => if (drOf r.drv ds).ret = true ∨ r.st.length > 78 then lookG m ds os o B p out t f else
    if (bestX m (madeX m (drOf r.drv ds) os r.st o) r.srv.toNat (B - t)).2.2 = true ∧ (f = false ∨ (bestX m (madeX m (drOf r.drv ds) os r.st o) r.srv.toNat (B - t)).1.cost < out.cost) then
      lookG m ds os o B p (bestX m (madeX m (drOf r.drv ds) os r.st o) r.srv.toNat (B - t)).1 (t + (bestX m (madeX m (drOf r.drv ds) os r.st o) r.srv.toNat (B - t)).2.1) true
    else lookG m ds os o B p out (t + (bestX m (madeX m (drOf r.drv ds) os r.st o) r.srv.toNat (B - t)).2.1) f
noncomputable def lookR (m : Mp) (ds : List Drv) (os : List Ord) (p : Pln) (o : Ord) (B : Int) : Spt × Int × Int := match lookG m ds os o B p ⟨0, 0, 0, 0⟩ 0 false with
  | (out, t, true) => (out, t, 0)
  | (out, t, false) => (⟨0, 0, 0, 0⟩, t, 20)
noncomputable def lookD (x : Spt × Int × Int) : D := .tup [encSpt x.1, .int .i64 x.2.1, .int .i64 x.2.2]
theorem lookG_at {m : Mp} {ds : List Drv} {os : List Ord} {o : Ord} {B : Int} {p : Pln} {out : Spt} {t : Int} {f : Bool} {i : Nat} (h : i < p.length) : lookG m ds os o B (p.drop i) out t f = if (drOf p[i].drv ds).ret = true ∨ p[i].st.length > 78 then lookG m ds os o B (p.drop (i + 1)) out t f else
    if (bestX m (madeX m (drOf p[i].drv ds) os p[i].st o) p[i].srv.toNat (B - t)).2.2 = true ∧ (f = false ∨ (bestX m (madeX m (drOf p[i].drv ds) os p[i].st o) p[i].srv.toNat (B - t)).1.cost < out.cost) then
      lookG m ds os o B (p.drop (i + 1)) (bestX m (madeX m (drOf p[i].drv ds) os p[i].st o) p[i].srv.toNat (B - t)).1 (t + (bestX m (madeX m (drOf p[i].drv ds) os p[i].st o) p[i].srv.toNat (B - t)).2.1) true
    else lookG m ds os o B (p.drop (i + 1)) out (t + (bestX m (madeX m (drOf p[i].drv ds) os p[i].st o) p[i].srv.toNat (B - t)).2.1) f := by
  rw [List.drop_eq_getElem_cons h]
  rfl
noncomputable def sLk (m : Mp) (ds : List Drv) (os : List Ord) (o : Ord) (B : Int) (p : Pln) (out : Spt) (t : Int) (f : Bool) (gs : List Ob) (i : Nat) : DS := ⟨[(0, .gptr 0 0), (1, encDs ds), (2, encOs os), (5, .int .i64 B), (10, .lptr 10 0 0), (12, .lptr 12 0 0), (13, .int .i64 0), (14, .int .i64 0), (15, .lptr 15 0 0), (16, .int .i64 t), (17, .bool f), (25, encP p), (26, .int .i64 (p.length : Int)), (27, .int .i64 (i : Int))], [(10, rowO o), (12, [.int .i64 0, .int .i64 0, .int .i64 0, .int .i64 0]), (15, rowSp out)], mbox m :: gs, mR 1⟩
theorem nr1 {d : D} (h : nrB 0 d = true) {k : Nat} : NR k d := nrBL_up (ds := [d]) (by show (nrB 0 d && true) = true; rw [h]; rfl) d (by simp)
theorem cut_sLk {T : St} (h0 : T.n0 = 1) (h1 : T.ro = 1) {m : Mp} {ds : List Drv} {os : List Ord} {o : Ord} {B : Int} {p : Pln} {out : Spt} {t : Int} {f : Bool} {gs : List Ob} {i : Nat} : CutOK T 1 (sLk m ds os o B p out t f gs i) where
  n0 := by omega
  ro := by omega
  len := by show 1 ≤ gs.length + 1; omega
  env := fun x hx => by
    have hx : x ∈ [(0, D.gptr 0 0), (1, encDs ds), (2, encOs os), (5, .int .i64 B), (10, .lptr 10 0 0), (12, .lptr 12 0 0), (13, .int .i64 0), (14, .int .i64 0), (15, .lptr 15 0 0), (16, .int .i64 t), (17, .bool f), (25, encP p), (26, .int .i64 (p.length : Int)), (27, .int .i64 (i : Int))] := hx
    simp only [List.mem_cons, List.not_mem_nil, or_false] at hx
    rcases hx with rfl | rfl | rfl | rfl | rfl | rfl | rfl | rfl | rfl | rfl | rfl | rfl | rfl | rfl
    · exact .inr (.gptr _ _ (by decide))
    · exact .inr (nr1 (show nrB 0 (encDs ds) = true from nrBLL_Dr ds))
    · exact .inr (nr1 (show nrB 0 (encOs os) = true from nrBLL_O os))
    · exact .inr (nr1 rfl)
    · exact .inl rfl
    · exact .inl rfl
    · exact .inr (nr1 rfl)
    · exact .inr (nr1 rfl)
    · exact .inl rfl
    · exact .inr (nr1 rfl)
    · exact .inr (nr1 rfl)
    · exact .inr (nr1 (show nrB 0 (encP p) = true from nrBLL_P p))
    · exact .inr (nr1 rfl)
    · exact .inr (nr1 rfl)
  loc := fun x hx d hd => by
    have hx : x ∈ [(10, rowO o), (12, [D.int .i64 0, .int .i64 0, .int .i64 0, .int .i64 0]), (15, rowSp out)] := hx
    simp only [List.mem_cons, List.not_mem_nil, or_false] at hx
    rcases hx with rfl | rfl | rfl
    · exact nrBL_up (ds := rowO o) rfl d hd
    · exact nrBL_up (ds := [D.int .i64 0, .int .i64 0, .int .i64 0, .int .i64 0]) rfl d hd
    · exact nrBL_up (ds := rowSp out) rfl d hd
  sto := fun x hx => by
    have : x = mbox m := by
      have : x ∈ [mbox m] := hx
      simpa using this
    rw [this]
    exact fun y hy => nrBL_up (nr_mcs m) y hy
noncomputable def ILk (m : Mp) (ds : List Drv) (os : List Ord) (o : Ord) (B : Int) (p : Pln) (n : Nat) (s : DS) : Prop := ∃ (i : Nat) (out : Spt) (t : Int) (f : Bool), n = p.length - i ∧ i ≤ p.length ∧ 0 ≤ t ∧ t ≤ 100000 * (i : Int) ∧ lookG m ds os o B (p.drop i) out t f = lookG m ds os o B p ⟨0, 0, 0, 0⟩ 0 false ∧ s = sLk m ds os o B p out t f [] i
theorem fin_Lk {T : St} (h0 : T.n0 = 1) (h1 : T.ro = 1) {m : Mp} {ds : List Drv} {os : List Ord} {o : Ord} {B : Int} {p : Pln} {n : Nat} {s' : DS} (out : Spt) (t : Int) (f : Bool) (gs : List Ob) (i : Nat) (hk : p.length - i < n) (hi : i ≤ p.length) (ht0 : 0 ≤ t) (ht1 : t ≤ 100000 * (i : Int)) (hg : lookG m ds os o B (p.drop i) out t f = lookG m ds os o B p ⟨0, 0, 0, 0⟩ 0 false) (e : s' = sLk m ds os o B p out t f gs i) : ∃ k, k < n ∧ CutOK T 1 s' ∧ ILk m ds os o B p k (cutS 1 s') := by
  subst e
  exact ⟨_, hk, cut_sLk h0 h1, i, out, t, f, rfl, hi, ht0, ht1, hg, rfl⟩
set_option maxHeartbeats 8000000 in
theorem c_insert_Look_1 (m : Mp) (hm : okMp m) (ds : List Drv) (hds : ds.length ≤ 1000000000000000) (os : List Ord) (ho : okOs m.n os) (p : Pln) (hp : p.length ≤ 8) (hps : ∀ r, r ∈ p → r.st.length ≤ 80 ∧ 0 ≤ r.srv ∧ r.srv ≤ r.st.length ∧ errD m.n (drOf r.drv ds) = 0) (o : Ord) (hoo : errO m.n o = 0) (B : Int) (hB0 : -1000000 ≤ B) (hB : B ≤ 100000) : Tri Try.prog 98 1 [.gptr 0 0, encDs ds, encOs os, encP p, .agg (rowO o), .int .i64 B] [mbox m] (fun x k => x = lookD (lookR m ds os p o B) ∧ ∃ gs, k = mbox m :: gs) := by
  refine Tri.walk2 (L := LT) (c := {n := 86, ko := [13, 14], kb := [12]}) [(114,1,[]),(115,2,[])] [0, 1, 2, 3, 4, 5, 10, 12, 13, 14, 15, 16, 17, 19, 20, 22, 23, 24, 25, 26, 27, 28, 45, 77, 81] hLT hmix Try.func98 rfl rfl ⟨rfl, rfl⟩ (by show 6 ≤ 86; decide) (by first | exact Nat.zero_le _ | exact Nat.le_refl _ | exact Nat.le_succ 1 | decide) ?_
  show Ok _ _ _ _ _
  refine Ok.loopC hLT hmix [(114,1,[]),(115,2,[])] [0, 1, 2, 3, 4, 5, 10, 12, 13, 14, 15, 16, 17, 19, 20, 22, 23, 24, 25, 26, 27, 28, 45, 77, 81] [0,1,2,5,10,12,13,14,15,16,17,25,26,27] [10,12,15] 1 (ILk m ds os o B p) (n := p.length) (by
    have e : ∀ {T : St} {s' : DS}, T.n0 = 1 → T.ro = 1 → s' = sLk m ds os o B p ⟨0, 0, 0, 0⟩ 0 false [] 0 → CutOK T 1 s' ∧ ILk m ds os o B p p.length (cutS 1 s') := fun h0 h1 h2 => by
      subst h2
      exact ⟨cut_sLk h0 h1, 0, ⟨0, 0, 0, 0⟩, 0, false, rfl, Nat.zero_le _, by omega, by omega, rfl, rfl⟩
    refine e rfl rfl ?_
    unfold sLk
    rw [← List.length_map (f := rowR)]
    rfl) ?_
  rintro n s ⟨i, out, t, f, rfl, hi, ht0, ht1, hgo, rfl⟩
  refine And.intro (fun h1 => ?_) (fun h1 => ?_)
  rotate_left
  · have h1 : ¬ ((i : Nat) : Int) < (p.length : Int) := of_decide_eq_false h1
    rw [List.drop_eq_nil_of_le (by omega)] at hgo
    unfold lookR
    rw [← hgo]
    cases f with
    | true =>
      repeat (first | refine And.intro (fun _ => ?_) (fun h => Bool.noConfusion h) | refine And.intro (fun h => Bool.noConfusion h) (fun _ => ?_))
      exact And.intro rfl ⟨[], rfl⟩
    | false =>
      repeat (first | refine And.intro (fun _ => ?_) (fun h => Bool.noConfusion h) | refine And.intro (fun h => Bool.noConfusion h) (fun _ => ?_))
      exact And.intro rfl ⟨[], rfl⟩
  have h1 : ((i : Nat) : Int) < (p.length : Int) := of_decide_eq_true h1
  have hil : i < p.length := by omega
  have hw := wrap_succ (i := i) (n := p.length) hil (by omega)
  have hpr := hps p[i] (List.getElem_mem _)
  rw [lookG_at hil] at hgo
  refine ⟨(p).map rowR, rowR ((p)[i]'(by omega)), rfl, by omega, row_at' rowR (p) (by omega) (by omega), rfl, of_decide_eq_true rfl, ?_⟩
  generalize p[i] = r at hgo hpr ⊢
  have hcl := c_cert_Driver ds hds rfl r.drv (r := 1) (sto := [mbox m]) (Nat.le_refl 1)
  unfold drOfD at hcl
  generalize (findDr r.drv ds).isSome = q at hcl
  generalize drOf r.drv ds = d at hcl hgo hpr
  refine ⟨rfl, (by first | exact Nat.zero_le _ | exact Nat.le_refl _ | exact Nat.le_succ 1 | decide), (hcl).mono ?_⟩
  rintro d l ⟨rfl, rfl⟩
  refine ⟨rfl, fun _ _ => rfl, rfl, ?_⟩
  have hmd := c_insert_made m hm d hpr.2.2.2 os ho r.st hpr.1 o hoo (r := 1) (b := 0) (sto := [mbox m]) (Nat.le_refl 1) rfl (by decide)
  have hokx := madeX_ok hm hpr.2.2.2 ho hpr.1 hoo
  have hbb := fun sl => c_insert_best m hm (madeX m d os r.st o) hokx sl 4 r.srv.toNat (by show r.srv.toNat ≤ (legsOf os r.st).length; unfold legsOf; rw [List.length_map]; omega) (IntKind.i64.wrap (B - t)) (by rw [wrap64 (by omega) (by omega)]; omega) (r := 2) (p := 0) (b := 1) (sto := [mbox m, xbox 0 sl 4 (madeX m d os r.st o)]) (Nat.le_refl 2) rfl rfl (by decide) (by decide) (by decide)
  have hble := bestX_le (m := m) (x := madeX m d os r.st o) (s := r.srv.toNat) (B := IntKind.i64.wrap (B - t)) (by rw [wrap64 (by omega) (by omega)]; omega)
  have hwB : IntKind.i64.wrap (B - t) = B - t := wrap64 (by omega) (by omega)
  rw [Int.toNat_of_nonneg hpr.2.1] at hbb
  rw [← hwB] at hgo
  generalize bestX m (madeX m d os r.st o) r.srv.toNat (IntKind.i64.wrap (B - t)) = br at hbb hble hgo
  obtain ⟨bs, bt, bf⟩ := br
  unfold bestD at hbb
  replace hgo : (if d.ret = true ∨ r.st.length > 78 then lookG m ds os o B (p.drop (i + 1)) out t f else if bf = true ∧ (f = false ∨ bs.cost < out.cost) then lookG m ds os o B (p.drop (i + 1)) bs (t + bt) true else lookG m ds os o B (p.drop (i + 1)) out (t + bt) f) = lookG m ds os o B p ⟨0, 0, 0, 0⟩ 0 false := hgo
  replace hble : 0 ≤ bt ∧ bt ≤ 100000 := hble
  have hwt : IntKind.i64.wrap (t + bt) = t + bt := wrap64 (by omega) (by omega)
  have hskip : (d.ret = true ∨ r.st.length > 78) → lookG m ds os o B (p.drop (i + 1)) out t f = lookG m ds os o B p ⟨0, 0, 0, 0⟩ 0 false := fun h => by rw [if_pos h] at hgo; exact hgo
  have hgo2 : ¬ (d.ret = true ∨ r.st.length > 78) → (if bf = true ∧ (f = false ∨ bs.cost < out.cost) then lookG m ds os o B (p.drop (i + 1)) bs (t + bt) true else lookG m ds os o B (p.drop (i + 1)) out (t + bt) f) = lookG m ds os o B p ⟨0, 0, 0, 0⟩ 0 false := fun h => by rw [if_neg h] at hgo; exact hgo
  clear hgo
  obtain ⟨did, droom, dhome, dw, dret⟩ := d
  cases dret with
  | true =>
    repeat (first | refine And.intro (fun _ => ?_) (fun h => Bool.noConfusion h) | refine And.intro (fun h => Bool.noConfusion h) (fun _ => ?_))
    refine fin_Lk rfl rfl out t f [] (i + 1) (by omega) (by omega) ht0 (by omega) (hskip (.inl rfl)) ?_
    unfold sLk
    rw [← hw]
    rfl
  | false =>
  repeat (first | refine And.intro (fun _ => ?_) (fun h => Bool.noConfusion h) | refine And.intro (fun h => Bool.noConfusion h) (fun _ => ?_))
  refine And.intro (fun h2 => ?_) (fun h2 => ?_)
  · have h2 : ((r.st.map rowS).length : Int) > 78 := of_decide_eq_true h2
    rw [List.length_map] at h2
    repeat (first | refine And.intro (fun _ => ?_) (fun h => Bool.noConfusion h) | refine And.intro (fun h => Bool.noConfusion h) (fun _ => ?_))
    refine fin_Lk rfl rfl out t f [] (i + 1) (by omega) (by omega) ht0 (by omega) (hskip (.inr (by omega))) ?_
    unfold sLk
    rw [← hw]
    rfl
  have h2 : ¬ ((r.st.map rowS).length : Int) > 78 := of_decide_eq_false h2
  rw [List.length_map] at h2
  repeat (first | refine And.intro (fun _ => ?_) (fun h => Bool.noConfusion h) | refine And.intro (fun h => Bool.noConfusion h) (fun _ => ?_))
  have hgo := hgo2 (by rintro (h | h); cases h; omega)
  clear hgo2 hskip
  generalize madeX m ⟨did, droom, dhome, dw, false⟩ os r.st o = X at hmd hbb
  cases bf with
  | false =>
    refine ⟨⟨1835007, [0, 0, 0, 0, 8, 0, 55, 0, 128, 0, 0, 1536, 2368, 4096, 8192, 8192, 8192, 0, 163839, 458751, 1048575], [1, 2, 4, 8, 24, 32, 127, 128, 384, 512, 1024, 3584, 8191, 16383, 32767, 49151, 81919, 131072, 425983, 983039, 2097151]⟩, by kernel_rfl, ?_⟩
    refine (fun (hrest : ∀ sl : Nat, _) => And.intro (by
        refine ⟨rfl, Nat.le_refl _, hmd.mono ?_⟩
        rintro x l ⟨rfl, sl, rfl⟩
        refine ⟨rfl, (fun k hk => List.getElem?_append_left hk), rfl, ?_⟩
        refine And.intro (by repeat (first | exact trivial | refine And.intro ⟨rfl, rfl⟩ ?_)) ?_
        refine And.intro ?_ (And.intro ?_ trivial)
        · refine ⟨_, rfl, rfl, (hbb sl).mono ?_⟩
          rintro x l ⟨rfl, rfl⟩
          refine ⟨rfl, rfl, ?_⟩
          refine And.intro (by repeat (first | exact trivial | refine And.intro ⟨rfl, rfl⟩ ?_)) ?_
          refine And.intro (fun h => Bool.noConfusion h) (fun _ => ?_)
          refine And.intro ?_ trivial
          refine And.intro (by repeat (first | exact trivial | refine And.intro ⟨rfl, rfl⟩ ?_)) ?_
          refine And.intro ?_ trivial
          refine And.intro (by repeat (first | exact trivial | refine And.intro ⟨rfl, rfl⟩ ?_)) ?_
          refine And.intro ?_ trivial
          refine And.intro (by repeat (first | exact trivial | refine And.intro ⟨rfl, rfl⟩ ?_)) ?_
          refine And.intro ?_ trivial
          refine And.intro (by repeat (first | exact trivial | refine And.intro ⟨rfl, rfl⟩ ?_)) ?_
          exact hrest sl
        · refine And.intro (by repeat (first | exact trivial | refine And.intro ⟨rfl, rfl⟩ ?_)) ?_
          refine And.intro ?_ trivial
          refine ⟨_, rfl, rfl, (hbb sl).mono ?_⟩
          rintro x l ⟨rfl, rfl⟩
          refine ⟨rfl, rfl, ?_⟩
          refine And.intro (by repeat (first | exact trivial | refine And.intro ⟨rfl, rfl⟩ ?_)) ?_
          refine And.intro (fun h => Bool.noConfusion h) (fun _ => ?_)
          refine And.intro ?_ trivial
          refine And.intro (by repeat (first | exact trivial | refine And.intro ⟨rfl, rfl⟩ ?_)) ?_
          refine And.intro ?_ trivial
          refine And.intro (by repeat (first | exact trivial | refine And.intro ⟨rfl, rfl⟩ ?_)) ?_
          refine And.intro ?_ trivial
          refine And.intro (by repeat (first | exact trivial | refine And.intro ⟨rfl, rfl⟩ ?_)) ?_
          exact hrest sl
        ) (And.intro (by
        refine And.intro (by repeat (first | exact trivial | refine And.intro ⟨rfl, rfl⟩ ?_)) ?_
        refine And.intro ?_ trivial
        refine ⟨rfl, Nat.le_refl _, hmd.mono ?_⟩
        rintro x l ⟨rfl, sl, rfl⟩
        refine ⟨rfl, (fun k hk => List.getElem?_append_left hk), rfl, ?_⟩
        refine And.intro (by repeat (first | exact trivial | refine And.intro ⟨rfl, rfl⟩ ?_)) ?_
        refine And.intro ?_ trivial
        refine ⟨_, rfl, rfl, (hbb sl).mono ?_⟩
        rintro x l ⟨rfl, rfl⟩
        refine ⟨rfl, rfl, ?_⟩
        refine And.intro (by repeat (first | exact trivial | refine And.intro ⟨rfl, rfl⟩ ?_)) ?_
        refine And.intro (fun h => Bool.noConfusion h) (fun _ => ?_)
        refine And.intro ?_ trivial
        refine And.intro (by repeat (first | exact trivial | refine And.intro ⟨rfl, rfl⟩ ?_)) ?_
        refine And.intro ?_ trivial
        refine And.intro (by repeat (first | exact trivial | refine And.intro ⟨rfl, rfl⟩ ?_)) ?_
        refine And.intro ?_ trivial
        refine And.intro (by repeat (first | exact trivial | refine And.intro ⟨rfl, rfl⟩ ?_)) ?_
        exact hrest sl
        ) trivial)) ?_
    intro sl
    rw [if_neg (by rintro ⟨h, _⟩; cases h)] at hgo
    repeat (first | refine And.intro (fun _ => ?_) (fun h => Bool.noConfusion h) | refine And.intro (fun h => Bool.noConfusion h) (fun _ => ?_))
    refine fin_Lk rfl rfl out (IntKind.i64.wrap (t + bt)) f [xbox 0 sl 4 X] (i + 1) (by omega) (by omega) (by rw [hwt]; omega) (by rw [hwt]; omega) (by rw [hwt]; exact hgo) ?_
    unfold sLk
    rw [← hw]
    rfl
  | true =>
    refine ⟨⟨1835007, [0, 0, 0, 0, 8, 0, 55, 0, 128, 0, 0, 1536, 2368, 4096, 8192, 8192, 8192, 0, 163839, 458751, 1048575], [1, 2, 4, 8, 24, 32, 127, 128, 384, 512, 1024, 3584, 8191, 16383, 32767, 49151, 81919, 131072, 425983, 983039, 2097151]⟩, by kernel_rfl, ?_⟩
    refine (fun (hrest : ∀ sl : Nat, _) => And.intro (by
        refine ⟨rfl, Nat.le_refl _, hmd.mono ?_⟩
        rintro x l ⟨rfl, sl, rfl⟩
        refine ⟨rfl, (fun k hk => List.getElem?_append_left hk), rfl, ?_⟩
        refine And.intro (by repeat (first | exact trivial | refine And.intro ⟨rfl, rfl⟩ ?_)) ?_
        refine And.intro ?_ (And.intro ?_ trivial)
        · refine ⟨_, rfl, rfl, (hbb sl).mono ?_⟩
          rintro x l ⟨rfl, rfl⟩
          refine ⟨rfl, rfl, ?_⟩
          refine And.intro (by repeat (first | exact trivial | refine And.intro ⟨rfl, rfl⟩ ?_)) ?_
          refine And.intro (fun _ => ?_) (fun h => Bool.noConfusion h)
          refine And.intro ?_ trivial
          refine And.intro (by repeat (first | exact trivial | refine And.intro ⟨rfl, rfl⟩ ?_)) ?_
          refine And.intro ?_ trivial
          refine And.intro (by repeat (first | exact trivial | refine And.intro ⟨rfl, rfl⟩ ?_)) ?_
          refine And.intro ?_ trivial
          refine And.intro (by repeat (first | exact trivial | refine And.intro ⟨rfl, rfl⟩ ?_)) ?_
          refine And.intro ?_ trivial
          refine And.intro (by repeat (first | exact trivial | refine And.intro ⟨rfl, rfl⟩ ?_)) ?_
          exact hrest sl
        · refine And.intro (by repeat (first | exact trivial | refine And.intro ⟨rfl, rfl⟩ ?_)) ?_
          refine And.intro ?_ trivial
          refine ⟨_, rfl, rfl, (hbb sl).mono ?_⟩
          rintro x l ⟨rfl, rfl⟩
          refine ⟨rfl, rfl, ?_⟩
          refine And.intro (by repeat (first | exact trivial | refine And.intro ⟨rfl, rfl⟩ ?_)) ?_
          refine And.intro (fun _ => ?_) (fun h => Bool.noConfusion h)
          refine And.intro ?_ trivial
          refine And.intro (by repeat (first | exact trivial | refine And.intro ⟨rfl, rfl⟩ ?_)) ?_
          refine And.intro ?_ trivial
          refine And.intro (by repeat (first | exact trivial | refine And.intro ⟨rfl, rfl⟩ ?_)) ?_
          refine And.intro ?_ trivial
          refine And.intro (by repeat (first | exact trivial | refine And.intro ⟨rfl, rfl⟩ ?_)) ?_
          exact hrest sl
        ) (And.intro (by
        refine And.intro (by repeat (first | exact trivial | refine And.intro ⟨rfl, rfl⟩ ?_)) ?_
        refine And.intro ?_ trivial
        refine ⟨rfl, Nat.le_refl _, hmd.mono ?_⟩
        rintro x l ⟨rfl, sl, rfl⟩
        refine ⟨rfl, (fun k hk => List.getElem?_append_left hk), rfl, ?_⟩
        refine And.intro (by repeat (first | exact trivial | refine And.intro ⟨rfl, rfl⟩ ?_)) ?_
        refine And.intro ?_ trivial
        refine ⟨_, rfl, rfl, (hbb sl).mono ?_⟩
        rintro x l ⟨rfl, rfl⟩
        refine ⟨rfl, rfl, ?_⟩
        refine And.intro (by repeat (first | exact trivial | refine And.intro ⟨rfl, rfl⟩ ?_)) ?_
        refine And.intro (fun _ => ?_) (fun h => Bool.noConfusion h)
        refine And.intro ?_ trivial
        refine And.intro (by repeat (first | exact trivial | refine And.intro ⟨rfl, rfl⟩ ?_)) ?_
        refine And.intro ?_ trivial
        refine And.intro (by repeat (first | exact trivial | refine And.intro ⟨rfl, rfl⟩ ?_)) ?_
        refine And.intro ?_ trivial
        refine And.intro (by repeat (first | exact trivial | refine And.intro ⟨rfl, rfl⟩ ?_)) ?_
        exact hrest sl
        ) trivial)) ?_
    intro sl
    cases f with
    | false =>
      rw [if_pos ⟨rfl, .inl rfl⟩] at hgo
      repeat (first | refine And.intro (fun _ => ?_) (fun h => Bool.noConfusion h) | refine And.intro (fun h => Bool.noConfusion h) (fun _ => ?_))
      refine fin_Lk rfl rfl bs (IntKind.i64.wrap (t + bt)) true [xbox 0 sl 4 X] (i + 1) (by omega) (by omega) (by rw [hwt]; omega) (by rw [hwt]; omega) (by rw [hwt]; exact hgo) ?_
      unfold sLk
      rw [← hw]
      rfl
    | true =>
      refine And.intro (fun h3 => ?_) (fun h3 => ?_)
      · have h3 : bs.cost < out.cost := of_decide_eq_true h3
        rw [if_pos ⟨rfl, .inr h3⟩] at hgo
        repeat (first | refine And.intro (fun _ => ?_) (fun h => Bool.noConfusion h) | refine And.intro (fun h => Bool.noConfusion h) (fun _ => ?_))
        refine fin_Lk rfl rfl bs (IntKind.i64.wrap (t + bt)) true [xbox 0 sl 4 X] (i + 1) (by omega) (by omega) (by rw [hwt]; omega) (by rw [hwt]; omega) (by rw [hwt]; exact hgo) ?_
        unfold sLk
        rw [← hw]
        rfl
      · have h3 : ¬ bs.cost < out.cost := of_decide_eq_false h3
        rw [if_neg (by rintro ⟨_, h | h⟩; cases h; exact h3 h)] at hgo
        repeat (first | refine And.intro (fun _ => ?_) (fun h => Bool.noConfusion h) | refine And.intro (fun h => Bool.noConfusion h) (fun _ => ?_))
        refine fin_Lk rfl rfl out (IntKind.i64.wrap (t + bt)) true [xbox 0 sl 4 X] (i + 1) (by omega) (by omega) (by rw [hwt]; omega) (by rw [hwt]; omega) (by rw [hwt]; exact hgo) ?_
        unfold sLk
        rw [← hw]
        rfl
end Go.Lv

namespace Go.Lv
open Go.Proofs

theorem c_insert_Look (m : Mp) (hm : okMp m) (ds : List Drv) (hds : ds.length ≤ 1000000000000000) (os : List Ord) (ho : okOs m.n os) (p : Pln) (hp : p.length ≤ 8) (hps : ∀ r, r ∈ p → r.st.length ≤ 80 ∧ 0 ≤ r.srv ∧ r.srv ≤ r.st.length ∧ errD m.n (drOf r.drv ds) = 0) (o : Ord) (hoo : errO m.n o = 0) (B : Int) (hB0 : -1000000 ≤ B) (hB : B ≤ 100000) {r b : Nat} {sto : List Ob} (hr : r ≤ sto.length) (hb : sto[b]? = some (mbox m)) (hbr : b < r) : Tri Try.prog 98 r [.gptr b 0, encDs ds, encOs os, encP p, .agg (rowO o), .int .i64 B] sto (fun x k => x = lookD (lookR m ds os p o B) ∧ k = sto) :=
  (Tri.forget (R := fun x k => x = lookD (lookR m ds os p o B) ∧ k = [mbox m]) (c_insert_Look_1 m hm ds hds os ho p hp hps o hoo B hB0 hB) (fun d l ⟨h1, gs, h2⟩ _ => ⟨1, Nat.le_refl _, by rw [h2]; show 1 ≤ gs.length + 1; omega, by rw [h1]; exact nrBL_nr (k := 1) (ds := [lookD (lookR m ds os p o B)]) rfl _ (by simp), fun o ho => by
    rw [h2] at ho
    have : o = mbox m := by simpa using ho
    rw [this]
    exact fun x hx => nrBL_up (nr_mcs m) x hx, h1, by rw [h2]; rfl⟩)).boxRO (nr_mcs m) rfl (nrBL_Dr (nrBL_O (nrBL_P rfl))) (fun d h => by subst h; exact ⟨rfl, rfl⟩) hr hb hbr
noncomputable def askO (m : Mp) (os : List Ord) (o : Ord) (B : Int) : Prop := errO m.n o = 0 ∧ findO o.id os = none ∧ 0 ≤ B ∧ B ≤ 100000
noncomputable instance (m : Mp) (os : List Ord) (o : Ord) (B : Int) : Decidable (askO m os o B) := by unfold askO; infer_instance
theorem findOD_so (os : List Ord) (id : Int) : ∃ o, findOD id os = .tup [.agg (rowO o), .bool (findO id os).isSome] := by
  unfold findOD
  cases findO id os with
  | none => exact ⟨_, rfl⟩
  | some o => exact ⟨_, rfl⟩
set_option maxHeartbeats 4000000 in
theorem c_insert_asked_0 (m : Mp) (hm : okMp m) (os : List Ord) (hl : os.length ≤ 1000000000000000) (o : Ord) (B : Int) : Tri Try.prog 97 1 [.gptr 0 0, encOs os, .agg (rowO o), .int .i64 B] [mbox m] (fun x k => x = .bool (decide (askO m os o B)) ∧ k = [mbox m]) := by
  refine Tri.walk2 (L := LT) (c := {n := 34, ko := [8]}) [] [0, 1, 2, 3, 6, 8, 10] hLT hmix Try.func97 rfl rfl ⟨rfl, rfl⟩ (by show 4 ≤ 34; decide) (by first | exact Nat.zero_le _ | exact Nat.le_refl _ | exact Nat.le_succ 1 | decide) ?_
  have hf := c_route_Find os hl o.id (r := 1) (sto := [mbox m]) (Nat.le_refl 1)
  obtain ⟨oz, hq⟩ := findOD_so os o.id
  rw [hq] at hf
  have hno : askO m os o B → (findO o.id os).isSome = false := fun h => by rw [h.2.1]; rfl
  have hyes : (findO o.id os).isSome = false → findO o.id os = none := fun h => by simpa using h
  generalize (findO o.id os).isSome = q at hf hno hyes
  refine ⟨rfl, (by first | exact Nat.zero_le _ | exact Nat.le_refl _ | exact Nat.le_succ 1 | decide), (hf).mono ?_⟩
  rintro d l ⟨rfl, rfl⟩
  refine ⟨rfl, fun _ _ => rfl, rfl, ?_⟩
  refine ⟨rfl, (by first | exact Nat.zero_le _ | exact Nat.le_refl _ | exact Nat.le_succ 1 | decide), (c_deal_Order m hm o (r := 1) (sto := [mbox m]) (Nat.le_refl 1) rfl (Nat.lt_succ_self 0)).mono ?_⟩
  rintro d l ⟨rfl, rfl⟩
  refine ⟨rfl, fun _ _ => rfl, rfl, ?_⟩
  refine And.intro (fun h1 => ?_) (fun h1 => ?_)
  · have h1 : errO m.n o = 0 := of_decide_eq_true h1
    cases q with
    | true =>
      repeat (first | refine And.intro (fun _ => ?_) (fun h => Bool.noConfusion h) | refine And.intro (fun h => Bool.noConfusion h) (fun _ => ?_))
      rw [decide_eq_false (show ¬ askO m os o B from fun h => by cases hno h)]
      exact And.intro rfl rfl
    | false =>
      repeat (first | refine And.intro (fun _ => ?_) (fun h => Bool.noConfusion h) | refine And.intro (fun h => Bool.noConfusion h) (fun _ => ?_))
      refine And.intro (fun h2 => ?_) (fun h2 => ?_)
      · have h2 : B ≥ 0 := of_decide_eq_true h2
        repeat (first | refine And.intro (fun _ => ?_) (fun h => Bool.noConfusion h) | refine And.intro (fun h => Bool.noConfusion h) (fun _ => ?_))
        refine And.intro (fun h3 => ?_) (fun h3 => ?_)
        · rw [decide_eq_true (show askO m os o B from ⟨h1, hyes rfl, h2, of_decide_eq_true h3⟩)]
          exact And.intro rfl rfl
        · rw [decide_eq_false (show ¬ askO m os o B from fun h => of_decide_eq_false h3 h.2.2.2)]
          exact And.intro rfl rfl
      · repeat (first | refine And.intro (fun _ => ?_) (fun h => Bool.noConfusion h) | refine And.intro (fun h => Bool.noConfusion h) (fun _ => ?_))
        rw [decide_eq_false (show ¬ askO m os o B from fun h => of_decide_eq_false h2 h.2.2.1)]
        exact And.intro rfl rfl
  · have h1 : ¬ errO m.n o = 0 := of_decide_eq_false h1
    repeat (first | refine And.intro (fun _ => ?_) (fun h => Bool.noConfusion h) | refine And.intro (fun h => Bool.noConfusion h) (fun _ => ?_))
    rw [decide_eq_false (show ¬ askO m os o B from fun h => h1 h.1)]
    exact And.intro rfl rfl
theorem c_insert_asked (m : Mp) (hm : okMp m) (os : List Ord) (hl : os.length ≤ 1000000000000000) (o : Ord) (B : Int) {r b : Nat} {sto : List Ob} (hr : r ≤ sto.length) (hb : sto[b]? = some (mbox m)) (hbr : b < r) : Tri Try.prog 97 r [.gptr b 0, encOs os, .agg (rowO o), .int .i64 B] sto (fun x k => x = .bool (decide (askO m os o B)) ∧ k = sto) :=
  (c_insert_asked_0 m hm os hl o B).boxRO (nr_mcs m) rfl (nrBL_O rfl) (fun d h => by subst h; exact ⟨rfl, rfl⟩) hr hb hbr
noncomputable def cheapR (m : Mp) (ds : List Drv) (os : List Ord) (p : Pln) (o : Ord) (B : Int) : Spt × Int × Int := if (makeR m ds os p).2.2 = 0 ∧ askO m os o B then lookR m ds os p o B else (⟨0, 0, 0, 0⟩, 0, 1)
theorem goMk_dr {m : Mp} {ds : List Drv} {os : List Ord} : ∀ {p : Pln} {i : Nat} {c : List (List Vis)}, (goMk m ds os i c p).2.2 = 0 → ∀ r, r ∈ p → ∃ d, findDr r.drv ds = some d ∧ (timed m d os r.st).2.2 = 0
  | [], i, c, _, r, hr => by cases hr
  | x :: p, i, c, h, r, hr => by
    unfold goMk at h
    cases hf : findDr x.drv ds with
    | none =>
      rw [hf] at h
      exact absurd h (by show ¬ (8 : Int) = 0; decide)
    | some d =>
      rw [hf] at h
      replace h : (if (timed m d os x.st).2.2 ≠ 0 then (([], (i : Int), (timed m d os x.st).2.2) : List (List Vis) × Int × Int) else goMk m ds os (i + 1) (c ++ [(timed m d os x.st).1]) p).2.2 = 0 := h
      split at h
      · rename_i hn
        exact absurd h hn
      · rename_i hn
        have hn : (timed m d os x.st).2.2 = 0 := Classical.byContradiction hn
        rcases List.mem_cons.1 hr with e | hr
        · subst e
          exact ⟨d, hf, hn⟩
        · exact goMk_dr h r hr
theorem makeR_dr {m : Mp} {ds : List Drv} {os : List Ord} {p : Pln} (h : (makeR m ds os p).2.2 = 0) : ∀ r, r ∈ p → ∃ d, findDr r.drv ds = some d ∧ d ∈ ds ∧ drOf r.drv ds = d ∧ errD m.n d = 0 ∧ (timed m d os r.st).2.2 = 0 := by
  intro r hr
  have htg := makeR_tog h
  unfold makeR at h
  rw [if_pos htg] at h
  obtain ⟨d, h1, h2⟩ := goMk_dr h r hr
  exact ⟨d, h1, (findDr_mem h1).1, (drOf_some h1).1, htg.2.2.2.1 d (findDr_mem h1).1, h2⟩
theorem look_ok {m : Mp} {ds : List Drv} {os : List Ord} {p : Pln} (h : (makeR m ds os p).2.2 = 0) : ∀ r, r ∈ p → r.st.length ≤ 80 ∧ 0 ≤ r.srv ∧ r.srv ≤ r.st.length ∧ errD m.n (drOf r.drv ds) = 0 := by
  intro r hr
  obtain ⟨d, _, _, h3, h4, _⟩ := makeR_dr h r hr
  have := (rightP_st (makeR_tog h).2.2.1).2 r hr
  exact ⟨this.1, this.2.1, this.2.2, by rw [h3]; exact h4⟩
set_option maxHeartbeats 4000000 in
theorem c_insert_Cheapest_0 (m : Mp) (hm : okMp m) (ds : List Drv) (os : List Ord) (hl : os.length ≤ 1000000000000000) (p : Pln) (o : Ord) (B : Int) : Tri Try.prog 64 1 [.gptr 0 0, encDs ds, encOs os, encP p, .agg (rowO o), .int .i64 B] [mbox m] (fun x k => x = lookD (cheapR m ds os p o B) ∧ k = [mbox m]) := by
  refine Tri.walk2 (L := LT) (c := {n := 47, ko := [13, 14], kb := [12]}) [] [0, 1, 2, 3, 4, 5, 10, 12, 13, 14, 16, 35] hLT hmix Try.func64 rfl rfl ⟨rfl, rfl⟩ (by show 6 ≤ 47; decide) (by first | exact Nat.zero_le _ | exact Nat.le_refl _ | exact Nat.le_succ 1 | decide) ?_
  unfold cheapR
  have htg := makeR_tog (m := m) (ds := ds) (os := os) (p := p)
  have hlk := look_ok (m := m) (ds := ds) (os := os) (p := p)
  have hmk := c_cert_Make m hm ds os p (r := 1) (sto := [mbox m]) (Nat.le_refl 1) rfl (Nat.lt_succ_self 0)
  generalize makeR m ds os p = x at htg hlk hmk ⊢
  obtain ⟨c, a, e⟩ := x
  refine ⟨rfl, Nat.le_refl _, hmk.mono ?_⟩
  rintro x l ⟨⟨sz, hsz, rfl⟩, rfl⟩
  refine ⟨rfl, fun _ _ => rfl, rfl, ?_⟩
  refine ⟨rfl, (by first | exact Nat.zero_le _ | exact Nat.le_refl _ | exact Nat.le_succ 1 | decide), (c_api_Good a e (r := 1) (sto := [mbox m]) (Nat.le_refl 1)).mono ?_⟩
  rintro d l ⟨rfl, rfl⟩
  refine ⟨rfl, fun _ _ => rfl, rfl, ?_⟩
  cases h1 : decide (e = 0) with
  | false =>
    repeat (first | refine And.intro (fun _ => ?_) (fun h => Bool.noConfusion h) | refine And.intro (fun h => Bool.noConfusion h) (fun _ => ?_))
    rw [if_neg (show ¬ (e = 0 ∧ askO m os o B) from fun h => of_decide_eq_false h1 h.1)]
    exact And.intro rfl rfl
  | true =>
  repeat (first | refine And.intro (fun _ => ?_) (fun h => Bool.noConfusion h) | refine And.intro (fun h => Bool.noConfusion h) (fun _ => ?_))
  have h1 : e = 0 := of_decide_eq_true h1
  refine ⟨rfl, (by first | exact Nat.zero_le _ | exact Nat.le_refl _ | exact Nat.le_succ 1 | decide), (c_insert_asked m hm os hl o B (r := 1) (sto := [mbox m]) (Nat.le_refl 1) rfl (Nat.lt_succ_self 0)).mono ?_⟩
  rintro d l ⟨rfl, rfl⟩
  refine ⟨rfl, fun _ _ => rfl, rfl, ?_⟩
  cases h2 : decide (askO m os o B) with
  | false =>
    repeat (first | refine And.intro (fun _ => ?_) (fun h => Bool.noConfusion h) | refine And.intro (fun h => Bool.noConfusion h) (fun _ => ?_))
    rw [if_neg (show ¬ (e = 0 ∧ askO m os o B) from fun h => of_decide_eq_false h2 h.2)]
    exact And.intro rfl rfl
  | true =>
  repeat (first | refine And.intro (fun _ => ?_) (fun h => Bool.noConfusion h) | refine And.intro (fun h => Bool.noConfusion h) (fun _ => ?_))
  have h2 := of_decide_eq_true h2
  have hg := htg h1
  rw [if_pos ⟨h1, h2⟩]
  refine ⟨rfl, (by first | exact Nat.zero_le _ | exact Nat.le_refl _ | exact Nat.le_succ 1 | decide), (c_insert_Look m hm ds (by have := hg.1; omega) os hg.2.1 p (rightP_st hg.2.2.1).1 (hlk h1) o h2.1 B (by have := h2.2.2.1; omega) h2.2.2.2 (r := 1) (sto := [mbox m]) (Nat.le_refl 1) rfl (Nat.lt_succ_self 0)).mono ?_⟩
  rintro d l ⟨rfl, rfl⟩
  refine ⟨rfl, fun _ _ => rfl, rfl, ?_⟩
  exact And.intro rfl rfl
theorem c_insert_Cheapest (m : Mp) (hm : okMp m) (ds : List Drv) (os : List Ord) (hl : os.length ≤ 1000000000000000) (p : Pln) (o : Ord) (B : Int) {r b : Nat} {sto : List Ob} (hr : r ≤ sto.length) (hb : sto[b]? = some (mbox m)) (hbr : b < r) : Tri Try.prog 64 r [.gptr b 0, encDs ds, encOs os, encP p, .agg (rowO o), .int .i64 B] sto (fun x k => x = lookD (cheapR m ds os p o B) ∧ k = sto) :=
  (c_insert_Cheapest_0 m hm ds os hl p o B).boxRO (nr_mcs m) rfl (nrBL_Dr (nrBL_O (nrBL_P rfl))) (fun d h => by subst h; exact ⟨rfl, rfl⟩) hr hb hbr
end Go.Lv

namespace Go.Lv
open Go.Proofs

noncomputable def movG (s : Spt) : Pln → Bool
  | [] => false
  | r :: p => if r.drv = s.drv then decide (r.srv ≤ s.pick ∧ r.srv ≤ s.drop) else movG s p
noncomputable def movB (p : Pln) (id : Int) : Bool := match findP id p with
  | none => false
  | some s => movG s p
theorem movG_at {s : Spt} {p : Pln} {i : Nat} (h : i < p.length) : movG s (p.drop i) = if p[i].drv = s.drv then decide (p[i].srv ≤ s.pick ∧ p[i].srv ≤ s.drop) else movG s (p.drop (i + 1)) := by
  rw [List.drop_eq_getElem_cons h]
  rfl
noncomputable def sMv (p : Pln) (s : Spt) (i : Nat) : DS := ⟨[(4, .bool false), (5, .lptr 5 0 0), (17, encP p), (18, .int .i64 (p.length : Int)), (19, .int .i64 (i : Int))], [(5, rowSp s)], [], mR 0⟩
set_option maxHeartbeats 4000000 in
theorem c_repair_movable_0 (p : Pln) (hp : szP p) (id : Int) : Tri Try.prog 42 0 [encP p, .int .i64 id] [] (fun d k => d = .bool (movB p id) ∧ k = []) := by
  refine Tri.walk2 (L := LT) (c := {n := 41, ko := [4]}) [] [0, 1, 4, 5, 6, 8, 16, 17, 18, 19, 20, 27] hLT hmix Try.func42 rfl rfl ⟨rfl, rfl⟩ (by show 2 ≤ 41; decide) (by first | exact Nat.zero_le _ | exact Nat.le_refl _ | exact Nat.le_succ 1 | decide) ?_
  have hf := c_plan_Find p hp id (r := 0) (sto := []) (Nat.le_refl 0)
  unfold findD at hf
  unfold movB
  cases hfp : findP id p with
  | none =>
    rw [hfp] at hf
    refine ⟨rfl, (by first | exact Nat.zero_le _ | exact Nat.le_refl _ | exact Nat.le_succ 1 | decide), (hf).mono ?_⟩
    rintro d l ⟨rfl, rfl⟩
    refine ⟨rfl, fun _ _ => rfl, rfl, ?_⟩
    repeat (first | refine And.intro (fun _ => ?_) (fun h => Bool.noConfusion h) | refine And.intro (fun h => Bool.noConfusion h) (fun _ => ?_))
    exact And.intro rfl rfl
  | some s =>
  rw [hfp] at hf
  refine ⟨rfl, (by first | exact Nat.zero_le _ | exact Nat.le_refl _ | exact Nat.le_succ 1 | decide), (hf).mono ?_⟩
  rintro d l ⟨rfl, rfl⟩
  refine ⟨rfl, fun _ _ => rfl, rfl, ?_⟩
  repeat (first | refine And.intro (fun _ => ?_) (fun h => Bool.noConfusion h) | refine And.intro (fun h => Bool.noConfusion h) (fun _ => ?_))
  show Ok _ _ _ _ _
  refine Ok.loopN hLT hmix [] [0, 1, 4, 5, 6, 8, 16, 17, 18, 19, 20, 27] [4,5,17,18,19] [5] (fun n t => ∃ i : Nat, n = p.length - i ∧ i ≤ p.length ∧ movG s (p.drop i) = movG s p ∧ t = sMv p s i) (n := p.length) ⟨0, rfl, Nat.zero_le _, rfl, by unfold sMv; rw [← List.length_map (f := rowR)]; rfl⟩ ?_
  rintro n t ⟨i, rfl, hi, hgo, rfl⟩
  have hpl := hp.len
  refine And.intro (fun h1 => ?_) (fun h1 => ?_)
  rotate_left
  · have h1 : ¬ ((i : Nat) : Int) < (p.length : Int) := of_decide_eq_false h1
    rw [List.drop_eq_nil_of_le (by omega)] at hgo
    show And (_ = D.bool (movG s p)) _
    rw [← hgo]
    exact And.intro rfl rfl
  have h1 : ((i : Nat) : Int) < (p.length : Int) := of_decide_eq_true h1
  have hil : i < p.length := by omega
  have hw := wrap_succ (i := i) (n := p.length) hil hpl
  rw [movG_at hil] at hgo
  refine ⟨(p).map rowR, rowR ((p)[i]'(by omega)), rfl, by omega, row_at' rowR (p) (by omega) (by omega), rfl, of_decide_eq_true rfl, ?_⟩
  generalize p[i] = r at hgo ⊢
  refine And.intro (fun h2 => ?_) (fun h2 => ?_)
  · have h2 : r.drv = s.drv := of_decide_eq_true h2
    rw [if_pos h2] at hgo
    show wC _ _ _ _ _ _ _
    refine And.intro (fun h3 => ?_) (fun h3 => ?_)
    · have h3 : s.pick ≥ r.srv := of_decide_eq_true h3
      repeat (first | refine And.intro (fun _ => ?_) (fun h => Bool.noConfusion h) | refine And.intro (fun h => Bool.noConfusion h) (fun _ => ?_))
      refine And.intro (fun h4 => ?_) (fun h4 => ?_)
      · have h4 : s.drop ≥ r.srv := of_decide_eq_true h4
        show And (_ = D.bool (movG s p)) _
        rw [← hgo, decide_eq_true (show r.srv ≤ s.pick ∧ r.srv ≤ s.drop from ⟨h3, h4⟩)]
        exact And.intro rfl rfl
      · have h4 : ¬ s.drop ≥ r.srv := of_decide_eq_false h4
        show And (_ = D.bool (movG s p)) _
        rw [← hgo, decide_eq_false (show ¬ (r.srv ≤ s.pick ∧ r.srv ≤ s.drop) from fun h => h4 h.2)]
        exact And.intro rfl rfl
    · have h3 : ¬ s.pick ≥ r.srv := of_decide_eq_false h3
      repeat (first | refine And.intro (fun _ => ?_) (fun h => Bool.noConfusion h) | refine And.intro (fun h => Bool.noConfusion h) (fun _ => ?_))
      show And (_ = D.bool (movG s p)) _
      rw [← hgo, decide_eq_false (show ¬ (r.srv ≤ s.pick ∧ r.srv ≤ s.drop) from fun h => h3 h.1)]
      exact And.intro rfl rfl
  · have h2 : ¬ r.drv = s.drv := of_decide_eq_false h2
    rw [if_neg h2] at hgo
    refine ⟨p.length - (i + 1), by omega, i + 1, rfl, by omega, hgo, ?_⟩
    unfold sMv
    rw [← hw]
    rfl
theorem c_repair_movable (p : Pln) (hp : szP p) (id : Int) {r : Nat} {sto : List Ob} (hr : r ≤ sto.length) : Tri Try.prog 42 r [encP p, .int .i64 id] sto (fun d k => d = .bool (movB p id) ∧ k = sto) :=
  (c_repair_movable_0 p hp id).pure rfl (nrBL_P rfl) rfl rfl hr
noncomputable def othersO (id : Int) (os : List Ord) : List Ord := os.filter fun o => decide (o.id ≠ id)
noncomputable def isOs (l : List Ord) (d : D) : Prop := ∃ sz, (sz = 0 ∨ sz = 10) ∧ d = .list (.own sz) (l.map rowO)
theorem isOs_ok {l : List Ord} {d : D} (h : isOs l d) : partsOK d = true ∧ nrB 0 d = true := by
  obtain ⟨sz, _, rfl⟩ := h
  exact ⟨rfl, nrBLL_O l⟩
noncomputable def sOt (os : List Ord) (id : Int) (acc : List Ord) (sz : Nat) (i : Nat) : DS := ⟨[(1, .int .i64 id), (4, .list (.own 0) []), (5, .list (.own sz) (acc.map rowO)), (8, encOs os), (9, .int .i64 (os.length : Int)), (10, .int .i64 (i : Int))], [], [], mR 0⟩
set_option maxHeartbeats 4000000 in
theorem c_repair_others_0 (os : List Ord) (hl : os.length ≤ 1000000) (id : Int) : Tri Try.prog 63 0 [encOs os, .int .i64 id] [] (fun d k => isOs (othersO id os) d ∧ k = []) := by
  refine Tri.walk2 (L := LT) (c := {n := 24, ko := [4, 5], xf := [18, 23]}) [] [0, 1, 4, 5, 7, 8, 9, 10, 11, 17] hLT hmix Try.func63 rfl rfl ⟨rfl, rfl⟩ (by show 2 ≤ 24; decide) (by first | exact Nat.zero_le _ | exact Nat.le_refl _ | exact Nat.le_succ 1 | decide) ?_
  show Ok _ _ _ _ _
  refine Ok.loopN hLT hmix [] [0, 1, 4, 5, 7, 8, 9, 10, 11, 17] [1,4,5,8,9,10] [] (fun n t => ∃ (i sz : Nat) (acc : List Ord), n = os.length - i ∧ i ≤ os.length ∧ (sz = 0 ∨ sz = 10) ∧ acc = othersO id (os.take i) ∧ acc.length ≤ i ∧ t = sOt os id acc sz i) (n := os.length) ⟨0, 0, [], rfl, Nat.zero_le _, .inl rfl, rfl, Nat.le_refl _, by unfold sOt; rw [← List.length_map (f := rowO)]; rfl⟩ ?_
  rintro n t ⟨i, sz, acc, rfl, hi, hsz, hacc, hal, rfl⟩
  refine And.intro (fun h1 => ?_) (fun h1 => ?_)
  rotate_left
  · have h1 : ¬ ((i : Nat) : Int) < (os.length : Int) := of_decide_eq_false h1
    rw [List.take_of_length_le (by omega)] at hacc
    rw [← hacc]
    exact And.intro ⟨sz, hsz, rfl⟩ rfl
  have h1 : ((i : Nat) : Int) < (os.length : Int) := of_decide_eq_true h1
  have hil : i < os.length := by omega
  have hw := wrap_succ (i := i) (n := os.length) hil (by omega)
  have hto : othersO id (os.take (i + 1)) = othersO id (os.take i) ++ (if os[i].id ≠ id then [os[i]] else []) := by
    unfold othersO
    rw [List.take_succ_eq_append_getElem hil, List.filter_append]
    congr 1
    by_cases h : os[i].id ≠ id
    · rw [if_pos h]
      simp [h]
    · rw [if_neg h]
      simp only [ne_eq, Decidable.not_not] at h
      simp [h]
  refine ⟨(os).map rowO, rowO ((os)[i]'(by omega)), rfl, by omega, row_at' rowO (os) (by omega) (by omega), rfl, of_decide_eq_true rfl, ?_⟩
  generalize os[i] = o at hto ⊢
  refine And.intro (fun h2 => ?_) (fun h2 => ?_)
  · have h2 : ¬ o.id = id := nd_true h2
    rw [if_pos h2, ← hacc] at hto
    have hszk : ((sz == 0 || sz == LT.size 31) && decide (0 < LT.size 31) && decide (0 < LT.bytes 31) && (LT.zero 31).isSome) = true := by rcases hsz with rfl | rfl <;> rfl
    have hrm : ((acc.map rowO).length + 1) * 80 ≤ 140737488355328 := by rw [List.length_map]; omega
    refine And.intro trivial (And.intro hszk (And.intro hrm (And.intro rfl ?_)))
    generalize hys : rowsOf _ _ _ = ys
    have hys : ys = [rowO o] := hys.symm.trans rfl
    subst hys
    refine ⟨os.length - (i + 1), by omega, i + 1, 10, acc ++ [o], rfl, by omega, .inr rfl, hto.symm, by rw [List.length_append]; simp only [List.length_cons, List.length_nil]; omega, ?_⟩
    unfold sOt
    rw [← hw, List.map_append]
    rfl
  · have h2 : o.id = id := nd_false h2
    rw [if_neg (fun h => h h2), List.append_nil, ← hacc] at hto
    refine ⟨os.length - (i + 1), by omega, i + 1, sz, acc, rfl, by omega, hsz, hto.symm, by omega, ?_⟩
    unfold sOt
    rw [← hw]
    rfl
theorem c_repair_others (os : List Ord) (hl : os.length ≤ 1000000) (id : Int) {r : Nat} {sto : List Ob} (hr : r ≤ sto.length) : Tri Try.prog 63 r [encOs os, .int .i64 id] sto (fun d k => isOs (othersO id os) d ∧ k = sto) :=
  (c_repair_others_0 os hl id).pureR rfl (nrBL_O rfl) (fun d h => isOs_ok h) hr
noncomputable def askR (m : Mp) (ds : List Drv) (os : List Ord) (p : Pln) (B : Int) : Prop := (makeR m ds os p).2.2 = 0 ∧ 0 ≤ B ∧ B ≤ 100000
noncomputable instance (m : Mp) (ds : List Drv) (os : List Ord) (p : Pln) (B : Int) : Decidable (askR m ds os p B) := by unfold askR; infer_instance
set_option maxHeartbeats 4000000 in
theorem c_repair_asked_0 (m : Mp) (hm : okMp m) (ds : List Drv) (os : List Ord) (p : Pln) (B : Int) : Tri Try.prog 24 1 [.gptr 0 0, encDs ds, encOs os, encP p, .int .i64 B] [mbox m] (fun x k => x = .bool (decide (askR m ds os p B)) ∧ k = [mbox m]) := by
  refine Tri.walk2 (L := LT) (c := {n := 30, ko := [10]}) [] [0, 1, 2, 3, 4, 10, 12] hLT hmix Try.func24 rfl rfl ⟨rfl, rfl⟩ (by show 5 ≤ 30; decide) (by first | exact Nat.zero_le _ | exact Nat.le_refl _ | exact Nat.le_succ 1 | decide) ?_
  have ht := c_repair_Total m hm ds os p (r := 1) (sto := [mbox m]) (Nat.le_refl 1) rfl (Nat.lt_succ_self 0)
  unfold totalD at ht
  by_cases h1 : (makeR m ds os p).2.2 = 0
  · rw [if_pos h1] at ht
    refine ⟨rfl, (by first | exact Nat.zero_le _ | exact Nat.le_refl _ | exact Nat.le_succ 1 | decide), (ht).mono ?_⟩
    rintro d l ⟨rfl, rfl⟩
    refine ⟨rfl, fun _ _ => rfl, rfl, ?_⟩
    repeat (first | refine And.intro (fun _ => ?_) (fun h => Bool.noConfusion h) | refine And.intro (fun h => Bool.noConfusion h) (fun _ => ?_))
    refine And.intro (fun h2 => ?_) (fun h2 => ?_)
    · have h2 : B ≥ 0 := of_decide_eq_true h2
      repeat (first | refine And.intro (fun _ => ?_) (fun h => Bool.noConfusion h) | refine And.intro (fun h => Bool.noConfusion h) (fun _ => ?_))
      refine And.intro (fun h3 => ?_) (fun h3 => ?_)
      · rw [decide_eq_true (show askR m ds os p B from ⟨h1, h2, of_decide_eq_true h3⟩)]
        exact And.intro rfl rfl
      · rw [decide_eq_false (show ¬ askR m ds os p B from fun h => of_decide_eq_false h3 h.2.2)]
        exact And.intro rfl rfl
    · repeat (first | refine And.intro (fun _ => ?_) (fun h => Bool.noConfusion h) | refine And.intro (fun h => Bool.noConfusion h) (fun _ => ?_))
      rw [decide_eq_false (show ¬ askR m ds os p B from fun h => of_decide_eq_false h2 h.2.1)]
      exact And.intro rfl rfl
  · rw [if_neg h1] at ht
    refine ⟨rfl, (by first | exact Nat.zero_le _ | exact Nat.le_refl _ | exact Nat.le_succ 1 | decide), (ht).mono ?_⟩
    rintro d l ⟨rfl, rfl⟩
    refine ⟨rfl, fun _ _ => rfl, rfl, ?_⟩
    repeat (first | refine And.intro (fun _ => ?_) (fun h => Bool.noConfusion h) | refine And.intro (fun h => Bool.noConfusion h) (fun _ => ?_))
    rw [decide_eq_false (show ¬ askR m ds os p B from fun h => h1 h.1)]
    exact And.intro rfl rfl
theorem c_repair_asked (m : Mp) (hm : okMp m) (ds : List Drv) (os : List Ord) (p : Pln) (B : Int) {r b : Nat} {sto : List Ob} (hr : r ≤ sto.length) (hb : sto[b]? = some (mbox m)) (hbr : b < r) : Tri Try.prog 24 r [.gptr b 0, encDs ds, encOs os, encP p, .int .i64 B] sto (fun x k => x = .bool (decide (askR m ds os p B)) ∧ k = sto) :=
  (c_repair_asked_0 m hm ds os p B).boxRO (nr_mcs m) rfl (nrBL_Dr (nrBL_O (nrBL_P rfl))) (fun d h => by subst h; exact ⟨rfl, rfl⟩) hr hb hbr
end Go.Lv

namespace Go.Lv
open Go.Proofs

structure szQ (p : Pln) : Prop where
  len : p.length * 40 ≤ 140737488351232
  st : ∀ r, r ∈ p → r.st.length * 16 ≤ 140737488351232
theorem szQ.P {p : Pln} (h : szQ p) : szP p := ⟨by have := h.len; omega, fun r hr => by have := h.st r hr; omega⟩
theorem take_ext {α : Type} {a b : List α} {i : Nat} (h : a.length = b.length) (hi : i < a.length) (ht : a.take i = b.take i) (he : a[i] = b[i]'(by omega)) : a.take (i + 1) = b.take (i + 1) := by
  rw [List.take_succ_eq_append_getElem hi, List.take_succ_eq_append_getElem (by omega), ht, he]
noncomputable def sSs (al bl : List Stp) (i : Nat) : DS := ⟨[(0, .list .imm (al.map rowS)), (1, .list .imm (bl.map rowS)), (5, .int .i64 (i : Int)), (4, .bool false)], [], [], mR 0⟩
set_option maxHeartbeats 4000000 in
theorem c_draybook_Same_Stop_0 (al bl : List Stp) (ha : al.length ≤ 1000000000000000) (hb : bl.length ≤ 1000000000000000) :
    Tri Try.prog 12 0 [.list .imm (al.map rowS), .list .imm (bl.map rowS)] [] (fun d l => d = .bool (decide (al = bl)) ∧ l = []) := by
  refine Tri.walk2 (L := LT) (c := {n := 26, ko := [4]}) [] [0, 1, 4, 5, 10, 14, 25] hLT hmix Try.func12 rfl rfl ⟨rfl, rfl⟩ (by show 2 ≤ 26; decide) (by first | exact Nat.zero_le _ | exact Nat.le_refl _ | exact Nat.le_succ 1 | decide) ?_
  refine And.intro (fun h0 => ?_) (fun h0 => ?_)
  · have h0 := nd_true h0
    rw [List.length_map, List.length_map] at h0
    rw [decide_eq_false (fun e => h0 (by rw [e]))]
    exact And.intro rfl rfl
  have h0 := nd_false h0
  rw [List.length_map, List.length_map] at h0
  have h0 : al.length = bl.length := by omega
  show Ok _ _ _ _ _
  refine Ok.loopN hLT hmix [] [0, 1, 4, 5, 10, 14, 25] [0,1,5,4] [] (fun n s => ∃ i : Nat, n = al.length - i ∧ i ≤ al.length ∧ al.take i = bl.take i ∧ s = sSs al bl i) (n := al.length) ⟨0, rfl, Nat.zero_le _, by simp, rfl⟩ ?_
  rintro n s ⟨i, rfl, hi, ht, rfl⟩
  refine And.intro (fun h1 => ?_) (fun h1 => ?_)
  · have h1 : ((i : Nat) : Int) < ((al.map rowS).length : Int) := of_decide_eq_true h1
    rw [List.length_map] at h1
    have hw := wrap_succ (i := i) (n := al.length) (by omega) ha
    refine ⟨⟨511, [0, 0, 3, 4, 0, 0, 48, 64, 136], [1, 2, 7, 15, 16, 32, 112, 240, 511]⟩, by kernel_rfl, ?_⟩
    refine ⟨(al).map rowS, rowS ((al)[i]'(by omega)), rfl, by omega, row_at' rowS (al) (by omega) (by omega), rfl, of_decide_eq_true rfl, ?_⟩
    refine And.intro rfl ?_
    refine ⟨(bl).map rowS, rowS ((bl)[i]'(by omega)), rfl, by omega, row_at' rowS (bl) (by omega) (by omega), rfl, of_decide_eq_true rfl, ?_⟩
    refine And.intro rfl ?_
    refine And.intro (fun h2 => ?_) (fun h2 => ?_)
    · have h2 := stp_ne (a := al[i]) (b := bl[i]) (by rw [Bool.not_eq_true'] at h2; exact h2)
      rw [decide_eq_false (fun e => h2 (by subst e; rfl))]
      exact And.intro rfl rfl
    · have h2 := stp_eq (a := al[i]) (b := bl[i]) (by rw [Bool.not_eq_false'] at h2; exact h2)
      refine ⟨al.length - (i + 1), by omega, i + 1, rfl, by omega, take_ext h0 (by omega) ht h2, ?_⟩
      unfold sSs
      rw [← hw]
      rfl
  · have h1 : ¬ ((i : Nat) : Int) < ((al.map rowS).length : Int) := of_decide_eq_false h1
    rw [List.length_map] at h1
    rw [List.take_of_length_le (by omega), List.take_of_length_le (by omega)] at ht
    rw [decide_eq_true ht]
    exact And.intro rfl rfl
theorem c_draybook_Same_Stop (al bl : List Stp) (ha : al.length ≤ 1000000000000000) (hb : bl.length ≤ 1000000000000000) {r : Nat} {sto : List Ob} (hr : r ≤ sto.length) :
    Tri Try.prog 12 r [.list .imm (al.map rowS), .list .imm (bl.map rowS)] sto (fun d l => d = .bool (decide (al = bl)) ∧ l = sto) :=
  (c_draybook_Same_Stop_0 al bl ha hb).pure rfl (nrBL_S (nrBL_S rfl)) rfl rfl hr
noncomputable def sRs (p q : Pln) (i : Nat) : DS := ⟨[(0, encP p), (1, encP q), (5, .int .i64 (i : Int)), (4, .bool false)], [], [], mR 0⟩
set_option maxHeartbeats 8000000 in
theorem c_draykeep_Routes_0 (p q : Pln) (hp : szP p) (hq : szP q) : Tri Try.prog 13 0 [encP p, encP q] [] (fun d l => d = .bool (decide (p = q)) ∧ l = []) := by
  refine Tri.walk2 (L := LT) (c := {n := 55, ko := [4]}) [] [0, 1, 4, 5, 10, 14, 54] hLT hmix Try.func13 rfl rfl ⟨rfl, rfl⟩ (by show 2 ≤ 55; decide) (by first | exact Nat.zero_le _ | exact Nat.le_refl _ | exact Nat.le_succ 1 | decide) ?_
  refine And.intro (fun h0 => ?_) (fun h0 => ?_)
  · have h0 := nd_true h0
    rw [List.length_map, List.length_map] at h0
    rw [decide_eq_false (fun e => h0 (by rw [e]))]
    exact And.intro rfl rfl
  have h0 := nd_false h0
  rw [List.length_map, List.length_map] at h0
  have h0 : p.length = q.length := by omega
  show Ok _ _ _ _ _
  refine Ok.loopN hLT hmix [] [0, 1, 4, 5, 10, 14, 54] [0,1,5,4] [] (fun n s => ∃ i : Nat, n = p.length - i ∧ i ≤ p.length ∧ p.take i = q.take i ∧ s = sRs p q i) (n := p.length) ⟨0, rfl, Nat.zero_le _, by simp, rfl⟩ ?_
  rintro n s ⟨i, rfl, hi, ht, rfl⟩
  refine And.intro (fun h1 => ?_) (fun h1 => ?_)
  · have h1 : ((i : Nat) : Int) < ((p.map rowR).length : Int) := of_decide_eq_true h1
    rw [List.length_map] at h1
    have hip : i < p.length := by omega
    have hiq : i < q.length := by omega
    have hw := wrap_succ (i := i) (n := p.length) (by omega) hp.len
    have hps := hp.st p[i] (List.getElem_mem _)
    have hqs := hq.st q[i] (List.getElem_mem _)
    have hne : p[i] ≠ q[i] → .bool false = D.bool (decide (p = q)) := fun h => by rw [decide_eq_false (fun e => h (by subst e; rfl))]
    refine ⟨⟨274877906943, [0, 0, 3, 4, 8, 0, 0, 96, 128, 256, 528, 1024, 2048, 2048, 14336, 18432, 34816, 2048, 2048, 395264, 526336, 1050624, 2164736, 4196352, 8390656, 16777216, 16777216, 117440512, 150994944, 285212672, 16777216, 16777216, 3238002688, 4311744512, 8606711808, 17733517312, 34376515584, 68736253952], [1, 2, 7, 15, 31, 32, 64, 224, 480, 992, 2047, 4095, 8191, 12287, 32767, 65535, 131071, 135167, 266239, 921599, 1970175, 4067327, 8388607, 16777215, 33554431, 67108863, 100663295, 268435455, 536870911, 1073741823, 1107296255, 2181038079, 7549747199, 16139681791, 33319550975, 68719476735, 137438953471, 274877906943]⟩, by kernel_rfl, ?_⟩
    refine ⟨(p).map rowR, rowR ((p)[i]'(by omega)), rfl, by omega, row_at' rowR (p) (by omega) (by omega), rfl, of_decide_eq_true rfl, ?_⟩
    refine And.intro rfl ?_
    refine ⟨(q).map rowR, rowR ((q)[i]'(by omega)), rfl, by omega, row_at' rowR (q) (by omega) (by omega), rfl, of_decide_eq_true rfl, ?_⟩
    refine And.intro rfl ?_
    refine And.intro (fun h2 => ?_) (fun h2 => ?_)
    · repeat (first | refine And.intro (fun _ => ?_) (fun h => Bool.noConfusion h) | refine And.intro (fun h => Bool.noConfusion h) (fun _ => ?_))
      exact And.intro (hne (fun e => nd_true h2 (by rw [e]))) rfl
    have h2 : p[i].drv = q[i].drv := nd_false h2
    repeat (first | refine And.intro (fun _ => ?_) (fun h => Bool.noConfusion h) | refine And.intro (fun h => Bool.noConfusion h) (fun _ => ?_))
    refine ⟨(p).map rowR, rowR ((p)[i]'(by omega)), rfl, by omega, row_at' rowR (p) (by omega) (by omega), rfl, of_decide_eq_true rfl, ?_⟩
    refine And.intro rfl ?_
    refine ⟨(q).map rowR, rowR ((q)[i]'(by omega)), rfl, by omega, row_at' rowR (q) (by omega) (by omega), rfl, of_decide_eq_true rfl, ?_⟩
    refine And.intro rfl ?_
    refine And.intro (fun h3 => ?_) (fun h3 => ?_)
    · repeat (first | refine And.intro (fun _ => ?_) (fun h => Bool.noConfusion h) | refine And.intro (fun h => Bool.noConfusion h) (fun _ => ?_))
      exact And.intro (hne (fun e => nd_true h3 (by rw [e]))) rfl
    have h3 : p[i].srv = q[i].srv := nd_false h3
    repeat (first | refine And.intro (fun _ => ?_) (fun h => Bool.noConfusion h) | refine And.intro (fun h => Bool.noConfusion h) (fun _ => ?_))
    refine ⟨(p).map rowR, rowR ((p)[i]'(by omega)), rfl, by omega, row_at' rowR (p) (by omega) (by omega), rfl, of_decide_eq_true rfl, ?_⟩
    refine And.intro rfl ?_
    refine ⟨(q).map rowR, rowR ((q)[i]'(by omega)), rfl, by omega, row_at' rowR (q) (by omega) (by omega), rfl, of_decide_eq_true rfl, ?_⟩
    refine And.intro rfl ?_
    refine And.intro ?_ trivial
    refine ⟨rfl, (by first | exact Nat.zero_le _ | exact Nat.le_refl _ | exact Nat.le_succ 1 | decide), (c_draybook_Same_Stop_0 p[i].st q[i].st hps hqs).mono ?_⟩
    rintro d l ⟨rfl, rfl⟩
    refine ⟨rfl, fun _ _ => rfl, rfl, ?_⟩
    by_cases h4 : p[i].st = q[i].st
    · rw [decide_eq_true h4]
      refine And.intro (by repeat (first | exact trivial | refine And.intro ⟨rfl, rfl⟩ ?_ | refine And.intro ⟨_, _, rfl, by omega, row_at' _ _ rfl (by omega), rfl, of_decide_eq_true rfl, And.intro rfl (And.intro rfl rfl)⟩ ?_)) ?_
      repeat (first | refine And.intro (fun _ => ?_) (fun h => Bool.noConfusion h) | refine And.intro (fun h => Bool.noConfusion h) (fun _ => ?_))
      have he : p[i] = q[i] := by
        have e1 : p[i] = ⟨p[i].drv, p[i].srv, p[i].st⟩ := rfl
        rw [e1, h2, h3, h4]
      refine ⟨p.length - (i + 1), by omega, i + 1, rfl, by omega, take_ext h0 hip ht he, ?_⟩
      unfold sRs
      rw [← hw]
      rfl
    · rw [decide_eq_false h4]
      refine And.intro (by repeat (first | exact trivial | refine And.intro ⟨rfl, rfl⟩ ?_ | refine And.intro ⟨_, _, rfl, by omega, row_at' _ _ rfl (by omega), rfl, of_decide_eq_true rfl, And.intro rfl (And.intro rfl rfl)⟩ ?_)) ?_
      repeat (first | refine And.intro (fun _ => ?_) (fun h => Bool.noConfusion h) | refine And.intro (fun h => Bool.noConfusion h) (fun _ => ?_))
      exact And.intro (hne (fun e => h4 (by rw [e]))) rfl
  · have h1 : ¬ ((i : Nat) : Int) < ((p.map rowR).length : Int) := of_decide_eq_false h1
    rw [List.length_map] at h1
    rw [List.take_of_length_le (by omega), List.take_of_length_le (by omega)] at ht
    rw [decide_eq_true ht]
    exact And.intro rfl rfl
theorem c_draykeep_Routes (p q : Pln) (hp : szP p) (hq : szP q) {r : Nat} {sto : List Ob} (hr : r ≤ sto.length) : Tri Try.prog 13 r [encP p, encP q] sto (fun d l => d = .bool (decide (p = q)) ∧ l = sto) :=
  (c_draykeep_Routes_0 p q hp hq).pure rfl (nrBL_P (nrBL_P rfl)) rfl rfl hr
theorem allLenS (l : List Stp) : allLen 2 (l.map rowS) = true := by simp [allLen, rowS]
noncomputable def copD (p : Pln) (d : D) : Prop := ∃ sz, d = .list (.own sz) (p.map rowR) ∧ (sz = 0 ∨ sz = 3)
theorem copD_ok {p : Pln} {d : D} (h : copD p d) : partsOK d = true ∧ nrB 0 d = true := by
  obtain ⟨sz, rfl, _⟩ := h
  exact ⟨rfl, nrBLL_P p⟩
end Go.Lv

namespace Go.Lv
open Go.Proofs

noncomputable def insS (l : List Stp) (o : Int) (i j : Nat) : List Stp := l.take i ++ (⟨o, false⟩ :: ((l.drop i).take (j - i) ++ (⟨o, true⟩ :: l.drop j)))
noncomputable def putD (l : List Stp) (o i j : Int) : D := if i < 0 ∨ j < i ∨ j > (l.length : Int) then .list (.own 0) [] else .list (.own 2) ((insS l o i.toNat j.toNat).map rowS)
theorem allLenS' (l : List Stp) : ∀ r, r ∈ l.map rowS → r.length = 2 := fun r hr => by
  obtain ⟨s, _, rfl⟩ := List.mem_map.1 hr
  rfl
theorem rowsOf_one (sz : Nat) (cs : List D) : (rowsOf sz 1 cs).length = 1 := rfl
theorem allLen_of {n : Nat} {ys : List (List D)} (h : ∀ r, r ∈ ys → r.length = n) : allLen n ys = true := by
  simp only [allLen, List.all_eq_true, beq_iff_eq]
  exact h
theorem allLenTD (l : List Stp) (a b : Nat) : allLen 2 (((l.map rowS).drop a).take b) = true := allLen_of fun r hr => allLenS' l r (List.mem_of_mem_drop (List.mem_of_mem_take hr))
set_option maxHeartbeats 4000000 in
theorem c_slack_Put_0 (l : List Stp) (hl : l.length ≤ 4000000000000) (o i j : Int) : Tri Try.prog 99 0 [.list .imm (l.map rowS), .int .i64 o, .int .i64 i, .int .i64 j] [] (fun d k => d = putD l o i j ∧ k = []) := by
  refine Tri.walk2 (L := LT) (c := {n := 53, ko := [8, 9], xf := [27, 32, 37, 43, 48]}) [] [0, 1, 2, 3, 8, 9, 22] hLT hmix Try.func99 rfl rfl ⟨rfl, rfl⟩ (by show 4 ≤ 53; decide) (by first | exact Nat.zero_le _ | exact Nat.le_refl _ | exact Nat.le_succ 1 | decide) ?_
  unfold putD
  refine And.intro (fun h1 => ?_) (fun h1 => ?_)
  · have h1 : i < 0 := of_decide_eq_true h1
    repeat (first | refine And.intro (fun _ => ?_) (fun h => Bool.noConfusion h) | refine And.intro (fun h => Bool.noConfusion h) (fun _ => ?_))
    rw [if_pos (.inl h1)]
    exact And.intro rfl rfl
  have h1 : ¬ i < 0 := of_decide_eq_false h1
  repeat (first | refine And.intro (fun _ => ?_) (fun h => Bool.noConfusion h) | refine And.intro (fun h => Bool.noConfusion h) (fun _ => ?_))
  refine And.intro (fun h2 => ?_) (fun h2 => ?_)
  · have h2 : j < i := of_decide_eq_true h2
    repeat (first | refine And.intro (fun _ => ?_) (fun h => Bool.noConfusion h) | refine And.intro (fun h => Bool.noConfusion h) (fun _ => ?_))
    rw [if_pos (.inr (.inl h2))]
    exact And.intro rfl rfl
  have h2 : ¬ j < i := of_decide_eq_false h2
  repeat (first | refine And.intro (fun _ => ?_) (fun h => Bool.noConfusion h) | refine And.intro (fun h => Bool.noConfusion h) (fun _ => ?_))
  refine And.intro (fun h3 => ?_) (fun h3 => ?_)
  · have h3 : j > ((l.map rowS).length : Int) := of_decide_eq_true h3
    rw [List.length_map] at h3
    rw [if_pos (.inr (.inr h3))]
    exact And.intro rfl rfl
  have h3 : ¬ j > ((l.map rowS).length : Int) := of_decide_eq_false h3
  rw [List.length_map] at h3
  rw [if_neg (by omega)]
  have hw : IntKind.i64.wrap (((l.map rowS).length : Int) + 2) = ((l.length + 2 : Nat) : Int) := by
    rw [List.length_map, wrap64 (by omega) (by omega)]
    omega
  refine And.intro ⟨by omega, by rw [hw]; omega, by rw [hw]; show ((l.length + 2 : Nat) : Int) * 16 ≤ 2 * 140737488355328; omega, by rw [hw]; omega, of_decide_eq_true rfl⟩ ?_
  refine And.intro ⟨by omega, by rw [List.length_map]; omega⟩ (And.intro (Nat.zero_le _) (And.intro (of_decide_eq_true rfl) (And.intro (allLenS l) ?_)))
  refine And.intro trivial (And.intro rfl (And.intro (by show (_ + _) * 16 ≤ 140737488355328; simp only [List.length_append, List.length_take, List.length_drop, List.length_map, List.length_replicate, List.length_cons, List.length_nil, rowsOf_one]; omega) (And.intro (allLenTD l _ _) ?_)))
  refine And.intro trivial (And.intro rfl (And.intro (by show (_ + 1) * 16 ≤ 140737488355328; simp only [List.length_append, List.length_take, List.length_drop, List.length_map, List.length_replicate, List.length_cons, List.length_nil, rowsOf_one]; omega) (And.intro rfl ?_)))
  refine And.intro ⟨by omega, by rw [List.length_map]; omega⟩ (And.intro ⟨by omega, by omega⟩ (And.intro (of_decide_eq_true rfl) (And.intro (allLenS l) ?_)))
  refine And.intro trivial (And.intro rfl (And.intro (by show (_ + _) * 16 ≤ 140737488355328; simp only [List.length_append, List.length_take, List.length_drop, List.length_map, List.length_replicate, List.length_cons, List.length_nil, rowsOf_one]; omega) (And.intro (allLenTD l _ _) ?_)))
  refine And.intro trivial (And.intro rfl (And.intro (by show (_ + 1) * 16 ≤ 140737488355328; simp only [List.length_append, List.length_take, List.length_drop, List.length_map, List.length_replicate, List.length_cons, List.length_nil, rowsOf_one]; omega) (And.intro rfl ?_)))
  refine And.intro (Nat.le_refl _) (And.intro ⟨by omega, by rw [List.length_map]; omega⟩ (And.intro (of_decide_eq_true rfl) (And.intro (allLenS l) ?_)))
  refine And.intro trivial (And.intro rfl (And.intro (by show (_ + _) * 16 ≤ 140737488355328; simp only [List.length_append, List.length_take, List.length_drop, List.length_map, List.length_replicate, List.length_cons, List.length_nil, rowsOf_one]; omega) (And.intro (allLenTD l _ _) ?_)))
  refine And.intro ?_ rfl
  have e : (insS l o i.toNat j.toNat).map rowS = ((([] ++ ((l.map rowS).drop 0).take (i.toNat - 0)) ++ [rowS ⟨o, false⟩]) ++ ((l.map rowS).drop i.toNat).take (j.toNat - i.toNat)) ++ [rowS ⟨o, true⟩] ++ ((l.map rowS).drop j.toNat).take ((l.map rowS).length - j.toNat) := by
    have h9 : ((l.map rowS).drop j.toNat).take ((l.map rowS).length - j.toNat) = (l.map rowS).drop j.toNat := List.take_of_length_le (by rw [List.length_drop]; omega)
    rw [h9]
    simp [insS, List.map_take, List.map_drop]
  rw [e]
  rfl
noncomputable def sPc (p : Pln) (sz i : Nat) : DS := ⟨[(3, .list (.own sz) ((p.take i).map rowR)), (6, encP p), (7, .int .i64 (p.length : Int)), (8, .int .i64 (i : Int)), (2, .list (.own 0) [])], [], [], mR 0⟩
set_option maxHeartbeats 8000000 in
theorem c_plan_Copy_0 (p : Pln) (hp : szQ p) : Tri Try.prog 26 0 [encP p] [] (fun d l => copD p d ∧ l = []) := by
  refine Tri.walk2 (L := LT) (c := {n := 22, ko := [2, 3], xf := [16, 21]}) [] [0, 2, 3, 5, 6, 7, 8, 9] hLT hmix Try.func26 rfl rfl ⟨rfl, rfl⟩ (by show 1 ≤ 22; decide) (by first | exact Nat.zero_le _ | exact Nat.le_refl _ | exact Nat.le_succ 1 | decide) ?_
  have hlen : ((p.map rowR).length : Int) = (p.length : Int) := by rw [List.length_map]
  show Ok _ _ _ _ _
  refine Ok.loopN hLT hmix [] [0, 2, 3, 5, 6, 7, 8, 9] [3,6,7,8,2] [] (fun n s => ∃ i sz : Nat, n = p.length - i ∧ i ≤ p.length ∧ (sz = 0 ∨ sz = 3) ∧ s = sPc p sz i) (n := p.length) ⟨0, 0, rfl, Nat.zero_le _, .inl rfl, by unfold sPc; rw [← hlen]; rfl⟩ ?_
  rintro n s ⟨i, sz, rfl, hi, hsz, rfl⟩
  have hpl := hp.len
  refine And.intro (fun h1 => ?_) (fun h1 => ?_)
  · have h1 : ((i : Nat) : Int) < (p.length : Int) := of_decide_eq_true h1
    have hip : i < p.length := by omega
    have hw := wrap_succ (i := i) (n := p.length) (by omega) (by omega)
    have hps := hp.st p[i] (List.getElem_mem _)
    refine ⟨(p).map rowR, rowR ((p)[i]'(by omega)), rfl, by omega, row_at' rowR (p) (by omega) (by omega), rfl, of_decide_eq_true rfl, ?_⟩
    refine And.intro trivial (And.intro rfl (And.intro (by show (0 + (p[i].st.map rowS).length) * 16 ≤ 140737488355328; rw [List.length_map]; omega) (And.intro (allLenS _) ?_)))
    refine And.intro trivial (And.intro (by rcases hsz with rfl | rfl <;> rfl) (And.intro (by show (((p.take i).map rowR).length + 1) * 40 ≤ 140737488355328; rw [List.length_map, List.length_take]; omega) (And.intro rfl ?_)))
    refine ⟨p.length - (i + 1), by omega, i + 1, 3, rfl, by omega, .inr rfl, ?_⟩
    unfold sPc
    rw [← hw, List.take_succ_eq_append_getElem hip, List.map_append]
    rfl
  · have h1 : ¬ ((i : Nat) : Int) < (p.length : Int) := of_decide_eq_false h1
    rw [List.take_of_length_le (by omega)]
    exact And.intro ⟨sz, rfl, hsz⟩ rfl
theorem c_plan_Copy (p : Pln) (hp : szQ p) {r : Nat} {sto : List Ob} (hr : r ≤ sto.length) : Tri Try.prog 26 r [encP p] sto (fun d l => copD p d ∧ l = sto) :=
  (c_plan_Copy_0 p hp).pureR rfl (nrBL_P rfl) (fun d h => copD_ok h) hr
end Go.Lv

namespace Go.Lv
open Go.Proofs

noncomputable def okIn (r : Rte) (s : Spt) : Prop := (r.st.length : Int) ≤ 78 ∧ r.srv ≤ s.pick ∧ s.pick ≤ s.drop ∧ s.drop ≤ (r.st.length : Int)
noncomputable instance (r : Rte) (s : Spt) : Decidable (okIn r s) := by unfold okIn; infer_instance
noncomputable def inR (r : Rte) (o : Int) (s : Spt) : Rte := ⟨r.drv, r.srv, insS r.st o s.pick.toNat s.drop.toNat⟩
noncomputable def goW (p0 : Pln) (o : Int) (s : Spt) : Nat → Pln → Option Pln
  | _, [] => none
  | i, r :: p => if r.drv = s.drv then (if okIn r s then some (p0.set i (inR r o s)) else none) else goW p0 o s (i + 1) p
noncomputable def withP (p : Pln) (o : Int) (s : Spt) : Option Pln := if rightP p = true ∧ 1 ≤ o ∧ o ≤ 1000000 ∧ findP o p = none then goW p o s 0 p else none
noncomputable def withR (q : Option Pln) (d : D) : Prop := match q with
  | none => d = .tup [.list (.own 0) [], .bool false]
  | some q => ∃ sz, d = .tup [.list (.own sz) (q.map rowR), .bool true] ∧ (sz = 0 ∨ sz = 3)
theorem withR_ok {q : Option Pln} {d : D} (h : withR q d) : partsOK d = true ∧ nrB 0 d = true := by
  cases q with
  | none => have h : d = _ := h; rw [h]; exact ⟨rfl, rfl⟩
  | some q =>
    obtain ⟨sz, h, _⟩ := h
    rw [h]
    refine ⟨rfl, ?_⟩
    show (nrBLL 0 (q.map rowR) && true) = true
    rw [nrBLL_P]
    rfl
theorem goW_at {p0 p : Pln} {o : Int} {s : Spt} {i : Nat} (h : i < p.length) : goW p0 o s i (p.drop i) = if p[i].drv = s.drv then (if okIn p[i] s then some (p0.set i (inR p[i] o s)) else none) else goW p0 o s (i + 1) (p.drop (i + 1)) := by
  rw [List.drop_eq_getElem_cons h]
  rfl
theorem right_szQ {p : Pln} (h8 : p.length ≤ 8) (hst : ∀ r, r ∈ p → r.st.length ≤ 80) : szQ p := ⟨by omega, fun r hr => by have := hst r hr; omega⟩
theorem stOK_at' : ∀ {p : Pln} {last : Int} {seen : List Stp}, rightG last seen p = true → ∀ r, r ∈ p → r.st.length ≤ 80 ∧ 0 ≤ r.srv
  | [], _, _, _, r, hr => by cases hr
  | x :: p, last, seen, h, r, hr => by
    unfold rightG at h
    simp only [Bool.and_eq_true, decide_eq_true_eq] at h
    rcases List.mem_cons.1 hr with e | hr
    · subst e; exact ⟨h.1.2.2.1, h.1.2.2.2.1⟩
    · exact stOK_at' h.2.2 r hr
noncomputable def sWi (p : Pln) (o : Int) (s : Spt) (i : Nat) : DS := ⟨[(0, encP p), (1, .int .i64 o), (5, .lptr 5 0 0), (33, encP p), (34, .int .i64 (p.length : Int)), (35, .int .i64 (i : Int)), (6, .list (.own 0) []), (7, .bool false)], [(5, [.int .i64 s.drv, .int .i64 s.pick, .int .i64 s.drop, .int .i64 s.cost])], [], mR 0⟩
set_option maxHeartbeats 8000000 in
theorem c_plan_With_0 (p : Pln) (hp : szP p) (o : Int) (s : Spt) : Tri Try.prog 65 0 [encP p, .int .i64 o, encSpt s] [] (fun d k => withR (withP p o s) d ∧ k = []) := by
  refine Tri.walk2 (L := LT) (c := {n := 87, ko := [6, 7, 12], xf := [13, 85]}) [] [0, 1, 2, 5, 6, 7, 9, 10, 11, 12, 32, 33, 34, 35, 36, 44, 70] hLT hmix Try.func65 rfl rfl ⟨rfl, rfl⟩ (by show 3 ≤ 87; decide) (by first | exact Nat.zero_le _ | exact Nat.le_refl _ | exact Nat.le_succ 1 | decide) ?_
  have hlen : ((p.map rowR).length : Int) = (p.length : Int) := by rw [List.length_map]
  have cf := c_plan_Find_0 p hp o
  have cr := c_plan_Right_0 p
  have bad : ¬ (rightP p = true ∧ 1 ≤ o ∧ o ≤ 1000000 ∧ findP o p = none) → withR (withP p o s) (.tup [.list (.own 0) [], .bool false]) := fun h => by
    unfold withP
    rw [if_neg h]
    exact rfl
  have good : ∀ h : rightP p = true ∧ 1 ≤ o ∧ o ≤ 1000000 ∧ findP o p = none, withP p o s = goW p o s 0 p := fun h => by
    unfold withP
    rw [if_pos h]
  unfold findD at cf
  cases hf : findP o p with
  | some sp =>
    rw [hf] at cf
    refine ⟨rfl, (by first | exact Nat.zero_le _ | exact Nat.le_refl _ | exact Nat.le_succ 1 | decide), (cf).mono ?_⟩
    rintro d l ⟨rfl, rfl⟩
    refine ⟨rfl, fun _ _ => rfl, rfl, ?_⟩
    refine ⟨rfl, Nat.zero_le _, cr.mono ?_⟩
    rintro d l ⟨hd, rfl⟩
    have hb := bad (fun h => by rw [hf] at h; cases h.2.2.2)
    cases hr : rightP p with
    | false =>
      rw [hr] at hd
      subst hd
      refine ⟨rfl, fun _ _ => rfl, rfl, ?_⟩
      repeat (first | refine And.intro (fun _ => ?_) (fun h => Bool.noConfusion h) | refine And.intro (fun h => Bool.noConfusion h) (fun _ => ?_))
      exact And.intro hb rfl
    | true =>
      rw [hr] at hd
      subst hd
      refine ⟨rfl, fun _ _ => rfl, rfl, ?_⟩
      repeat (first | refine And.intro (fun _ => ?_) (fun h => Bool.noConfusion h) | refine And.intro (fun h => Bool.noConfusion h) (fun _ => ?_))
      refine And.intro (fun q1 => ?_) (fun q1 => ?_)
      · repeat (first | refine And.intro (fun _ => ?_) (fun h => Bool.noConfusion h) | refine And.intro (fun h => Bool.noConfusion h) (fun _ => ?_))
        exact And.intro hb rfl
      repeat (first | refine And.intro (fun _ => ?_) (fun h => Bool.noConfusion h) | refine And.intro (fun h => Bool.noConfusion h) (fun _ => ?_))
      refine And.intro (fun q2 => ?_) (fun q2 => ?_)
      · repeat (first | refine And.intro (fun _ => ?_) (fun h => Bool.noConfusion h) | refine And.intro (fun h => Bool.noConfusion h) (fun _ => ?_))
        exact And.intro hb rfl
      repeat (first | refine And.intro (fun _ => ?_) (fun h => Bool.noConfusion h) | refine And.intro (fun h => Bool.noConfusion h) (fun _ => ?_))
      exact And.intro hb rfl
  | none =>
    rw [hf] at cf
    refine ⟨rfl, (by first | exact Nat.zero_le _ | exact Nat.le_refl _ | exact Nat.le_succ 1 | decide), (cf).mono ?_⟩
    rintro d l ⟨rfl, rfl⟩
    refine ⟨rfl, fun _ _ => rfl, rfl, ?_⟩
    refine ⟨rfl, Nat.zero_le _, cr.mono ?_⟩
    rintro d l ⟨hd, rfl⟩
    cases hr : rightP p with
    | false =>
      rw [hr] at hd
      subst hd
      have hb := bad (fun h => by rw [hr] at h; cases h.1)
      refine ⟨rfl, fun _ _ => rfl, rfl, ?_⟩
      repeat (first | refine And.intro (fun _ => ?_) (fun h => Bool.noConfusion h) | refine And.intro (fun h => Bool.noConfusion h) (fun _ => ?_))
      exact And.intro hb rfl
    | true =>
      rw [hr] at hd
      subst hd
      refine ⟨rfl, fun _ _ => rfl, rfl, ?_⟩
      repeat (first | refine And.intro (fun _ => ?_) (fun h => Bool.noConfusion h) | refine And.intro (fun h => Bool.noConfusion h) (fun _ => ?_))
      refine And.intro (fun q1 => ?_) (fun q1 => ?_)
      · repeat (first | refine And.intro (fun _ => ?_) (fun h => Bool.noConfusion h) | refine And.intro (fun h => Bool.noConfusion h) (fun _ => ?_))
        exact And.intro (bad (fun h => absurd (of_decide_eq_true q1) (by have := h.2.1; omega))) rfl
      have q1 : ¬ o < 1 := of_decide_eq_false q1
      repeat (first | refine And.intro (fun _ => ?_) (fun h => Bool.noConfusion h) | refine And.intro (fun h => Bool.noConfusion h) (fun _ => ?_))
      refine And.intro (fun q2 => ?_) (fun q2 => ?_)
      · repeat (first | refine And.intro (fun _ => ?_) (fun h => Bool.noConfusion h) | refine And.intro (fun h => Bool.noConfusion h) (fun _ => ?_))
        exact And.intro (bad (fun h => absurd (of_decide_eq_true q2) (by have := h.2.2.1; omega))) rfl
      have q2 : ¬ o > 1000000 := of_decide_eq_false q2
      repeat (first | refine And.intro (fun _ => ?_) (fun h => Bool.noConfusion h) | refine And.intro (fun h => Bool.noConfusion h) (fun _ => ?_))
      have hg := good ⟨hr, by omega, by omega, hf⟩
      rw [hg]
      have hr' := hr
      unfold rightP at hr'
      simp only [Bool.and_eq_true, decide_eq_true_eq] at hr'
      have hst := stOK_at' hr'.2
      have hp8 := hr'.1
      have hq := right_szQ hp8 (fun r h => (hst r h).1)
      show Ok _ _ _ _ _
      refine Ok.loopN hLT hmix [] [0, 1, 2, 5, 6, 7, 9, 10, 11, 12, 32, 33, 34, 35, 36, 44, 70] [0,1,5,33,34,35,6,7] [5] (fun n t => ∃ (i : Nat), n = p.length - i ∧ i ≤ p.length ∧ goW p o s i (p.drop i) = goW p o s 0 p ∧ t = sWi p o s i) (n := p.length) ⟨0, rfl, Nat.zero_le _, rfl, by unfold sWi; rw [← hlen]; rfl⟩ ?_
      rintro n t ⟨i, rfl, hi, hix, rfl⟩
      refine And.intro (fun h1 => ?_) (fun h1 => ?_)
      rotate_left
      · have h1 : ¬ ((i : Nat) : Int) < (p.length : Int) := of_decide_eq_false h1
        rw [List.drop_eq_nil_of_le (by omega)] at hix
        rw [← hix]
        exact And.intro rfl rfl
      have h1 : ((i : Nat) : Int) < (p.length : Int) := of_decide_eq_true h1
      have hip : i < p.length := by omega
      have hw := wrap_succ (i := i) (n := p.length) (by omega) (by omega)
      have hri := hst p[i] (List.getElem_mem _)
      rw [goW_at hip] at hix
      refine ⟨(p).map rowR, rowR ((p)[i]'(by omega)), rfl, by omega, row_at' rowR (p) (by omega) (by omega), rfl, of_decide_eq_true rfl, ?_⟩
      refine And.intro (fun h2 => ?_) (fun h2 => ?_)
      · have h2 : p[i].drv ≠ s.drv := nd_true h2
        rw [if_neg h2] at hix
        refine ⟨p.length - (i + 1), by omega, i + 1, rfl, by omega, hix, ?_⟩
        unfold sWi
        rw [← hw]
        rfl
      have h2 : p[i].drv = s.drv := nd_false h2
      rw [if_pos h2] at hix
      have nok : ¬ okIn p[i] s → withR (goW p o s 0 p) (.tup [.list (.own 0) [], .bool false]) := fun h => by
        rw [← hix, if_neg h]
        exact rfl
      refine And.intro (fun g1 => ?_) (fun g1 => ?_)
      · repeat (first | refine And.intro (fun _ => ?_) (fun h => Bool.noConfusion h) | refine And.intro (fun h => Bool.noConfusion h) (fun _ => ?_))
        exact And.intro (nok (fun h => absurd (of_decide_eq_true g1) (by rw [List.length_map]; have := h.1; omega))) rfl
      have g1 : ¬ ((p[i].st.map rowS).length : Int) > 78 := of_decide_eq_false g1
      rw [List.length_map] at g1
      repeat (first | refine And.intro (fun _ => ?_) (fun h => Bool.noConfusion h) | refine And.intro (fun h => Bool.noConfusion h) (fun _ => ?_))
      refine And.intro (fun g2 => ?_) (fun g2 => ?_)
      · repeat (first | refine And.intro (fun _ => ?_) (fun h => Bool.noConfusion h) | refine And.intro (fun h => Bool.noConfusion h) (fun _ => ?_))
        exact And.intro (nok (fun h => absurd (of_decide_eq_true g2) (by have := h.2.1; omega))) rfl
      have g2 : ¬ s.pick < p[i].srv := of_decide_eq_false g2
      repeat (first | refine And.intro (fun _ => ?_) (fun h => Bool.noConfusion h) | refine And.intro (fun h => Bool.noConfusion h) (fun _ => ?_))
      refine And.intro (fun g3 => ?_) (fun g3 => ?_)
      · repeat (first | refine And.intro (fun _ => ?_) (fun h => Bool.noConfusion h) | refine And.intro (fun h => Bool.noConfusion h) (fun _ => ?_))
        exact And.intro (nok (fun h => absurd (of_decide_eq_true g3) (by have := h.2.2.1; omega))) rfl
      have g3 : ¬ s.drop < s.pick := of_decide_eq_false g3
      repeat (first | refine And.intro (fun _ => ?_) (fun h => Bool.noConfusion h) | refine And.intro (fun h => Bool.noConfusion h) (fun _ => ?_))
      refine And.intro (fun g4 => ?_) (fun g4 => ?_)
      · repeat (first | refine And.intro (fun _ => ?_) (fun h => Bool.noConfusion h) | refine And.intro (fun h => Bool.noConfusion h) (fun _ => ?_))
        exact And.intro (nok (fun h => absurd (of_decide_eq_true g4) (by rw [List.length_map]; have := h.2.2.2; omega))) rfl
      have g4 : ¬ s.drop > ((p[i].st.map rowS).length : Int) := of_decide_eq_false g4
      rw [List.length_map] at g4
      repeat (first | refine And.intro (fun _ => ?_) (fun h => Bool.noConfusion h) | refine And.intro (fun h => Bool.noConfusion h) (fun _ => ?_))
      have hok : okIn p[i] s := ⟨by omega, by omega, by omega, by omega⟩
      rw [if_pos hok] at hix
      refine ⟨rfl, Nat.zero_le _, (c_plan_Copy_0 p hq).mono ?_⟩
      rintro d l ⟨⟨sz, rfl, hsz⟩, rfl⟩
      refine ⟨rfl, fun _ _ => rfl, rfl, ?_⟩
      have cput := c_slack_Put_0 p[i].st (by omega) o s.pick s.drop
      unfold putD at cput
      rw [if_neg (by omega)] at cput
      refine ⟨rfl, (by first | exact Nat.zero_le _ | exact Nat.le_refl _ | exact Nat.le_succ 1 | decide), (cput).mono ?_⟩
      rintro d l ⟨rfl, rfl⟩
      refine ⟨rfl, fun _ _ => rfl, rfl, ?_⟩
      refine ⟨p.map rowR, rowR p[i], lsD_cp rfl ⟨rfl, rfl⟩ rfl, by omega, row_at' rowR p rfl hip, rfl, of_decide_eq_true rfl, ?_⟩
      refine ⟨_, storeD_elem rfl ⟨rfl, of_decide_eq_true rfl⟩ ⟨rfl, rfl⟩ rfl (row_at' rowR p rfl hip) rfl, ?_⟩
      rw [← hix]
      refine And.intro ⟨sz, ?_, hsz⟩ rfl
      rw [List.map_set]
      rfl
theorem c_plan_With (p : Pln) (hp : szP p) (o : Int) (s : Spt) {r : Nat} {sto : List Ob} (hr : r ≤ sto.length) : Tri Try.prog 65 r [encP p, .int .i64 o, encSpt s] sto (fun d k => withR (withP p o s) d ∧ k = sto) :=
  (c_plan_With_0 p hp o s).pureR rfl (nrBL_P rfl) (fun d h => withR_ok h) hr
end Go.Lv

namespace Go.Lv
open Go.Proofs

noncomputable def begR (srv o : Int) : Nat → List Stp → Bool
  | _, [] => false
  | j, s :: l => (decide ((j : Int) < srv) && decide (s.ord = o)) || begR srv o (j + 1) l
noncomputable def begP (o : Int) : Pln → Bool
  | [] => false
  | r :: p => begR r.srv o 0 r.st || begP o p
theorem begR_at {srv o : Int} {l : List Stp} {j : Nat} (h : j < l.length) : begR srv o j (l.drop j) = ((decide ((j : Int) < srv) && decide (l[j].ord = o)) || begR srv o (j + 1) (l.drop (j + 1))) := by
  rw [List.drop_eq_getElem_cons h]
  rfl
theorem begP_at {o : Int} {p : Pln} {i : Nat} (h : i < p.length) : begP o (p.drop i) = (begR p[i].srv o 0 p[i].st || begP o (p.drop (i + 1))) := by
  rw [List.drop_eq_getElem_cons h]
  rfl
noncomputable def sBi (p : Pln) (o : Int) (i : Nat) : DS := ⟨[(1, .int .i64 o), (9, encP p), (10, .int .i64 (p.length : Int)), (11, .int .i64 (i : Int)), (4, .bool false)], [], [], mR 0⟩
noncomputable def sBj (p : Pln) (r : Rte) (o : Int) (i j : Nat) : DS := ⟨[(1, .int .i64 o), (6, .lptr 6 0 0), (9, encP p), (10, .int .i64 (p.length : Int)), (11, .int .i64 (i : Int)), (16, .list .imm (r.st.map rowS)), (17, .int .i64 (r.st.length : Int)), (18, .int .i64 (j : Int)), (4, .bool false)], [(6, rowR r)], [], mR 0⟩
set_option maxHeartbeats 8000000 in
theorem c_plan_begun_0 (p : Pln) (hp : szP p) (o : Int) : Tri Try.prog 96 0 [encP p, .int .i64 o] [] (fun d k => d = .bool (begP o p) ∧ k = []) := by
  refine Tri.walk2 (L := LT) (c := {n := 35, ko := [4]}) [] [0, 1, 4, 6, 7, 8, 9, 10, 11, 12, 16, 17, 18, 19, 32] hLT hmix Try.func96 rfl rfl ⟨rfl, rfl⟩ (by show 2 ≤ 35; decide) (by first | exact Nat.zero_le _ | exact Nat.le_refl _ | exact Nat.le_succ 1 | decide) ?_
  have hlen : ((p.map rowR).length : Int) = (p.length : Int) := by rw [List.length_map]
  show Ok _ _ _ _ _
  refine Ok.loopN hLT hmix [] [0, 1, 4, 6, 7, 8, 9, 10, 11, 12, 16, 17, 18, 19, 32] [1,9,10,11,4] [] (fun n t => ∃ (i : Nat), n = p.length - i ∧ i ≤ p.length ∧ begP o (p.drop i) = begP o p ∧ t = sBi p o i) (n := p.length) ⟨0, rfl, Nat.zero_le _, rfl, by unfold sBi; rw [← hlen]; rfl⟩ ?_
  rintro n t ⟨i, rfl, hi, hix, rfl⟩
  refine And.intro (fun h1 => ?_) (fun h1 => ?_)
  rotate_left
  · have h1 : ¬ ((i : Nat) : Int) < (p.length : Int) := of_decide_eq_false h1
    rw [List.drop_eq_nil_of_le (by omega)] at hix
    rw [← hix]
    exact And.intro rfl rfl
  have h1 : ((i : Nat) : Int) < (p.length : Int) := of_decide_eq_true h1
  have hip : i < p.length := by omega
  have hw := wrap_succ (i := i) (n := p.length) (by omega) hp.len
  have hst := hp.st p[i] (List.getElem_mem _)
  rw [begP_at hip] at hix
  refine ⟨(p).map rowR, rowR ((p)[i]'(by omega)), rfl, by omega, row_at' rowR (p) (by omega) (by omega), rfl, of_decide_eq_true rfl, ?_⟩
  generalize p[i] = r at hst hix ⊢
  have hls : ((r.st.map rowS).length : Int) = (r.st.length : Int) := by rw [List.length_map]
  show Ok _ _ _ _ _
  refine Ok.loopN hLT hmix [] [0, 1, 4, 6, 7, 8, 9, 10, 11, 12, 16, 17, 18, 19, 32] [1,6,9,10,11,16,17,18,4] [6] (fun n t => ∃ (j : Nat), n = r.st.length - j ∧ j ≤ r.st.length ∧ (begR r.srv o j (r.st.drop j) || begP o (p.drop (i + 1))) = begP o p ∧ t = sBj p r o i j) (n := r.st.length) ⟨0, rfl, Nat.zero_le _, hix, by unfold sBj; rw [← hls]; rfl⟩ ?_
  rintro n t ⟨j, rfl, hj, hjx, rfl⟩
  refine And.intro (fun g1 => ?_) (fun g1 => ?_)
  rotate_left
  · have g1 : ¬ ((j : Nat) : Int) < (r.st.length : Int) := of_decide_eq_false g1
    rw [List.drop_eq_nil_of_le (by omega)] at hjx
    refine ⟨p.length - (i + 1), by omega, i + 1, rfl, by omega, hjx, ?_⟩
    unfold sBi
    rw [← hw]
    rfl
  have g1 : ((j : Nat) : Int) < (r.st.length : Int) := of_decide_eq_true g1
  have hwj := wrap_succ (i := j) (n := r.st.length) (by omega) hst
  rw [begR_at (by omega)] at hjx
  refine ⟨(r.st).map rowS, rowS ((r.st)[j]'(by omega)), rfl, by omega, row_at' rowS (r.st) (by omega) (by omega), rfl, of_decide_eq_true rfl, ?_⟩
  generalize r.st[j] = x at hjx ⊢
  have again : ¬ ((j : Int) < r.srv ∧ x.ord = o) → (begR r.srv o (j + 1) (r.st.drop (j + 1)) || begP o (p.drop (i + 1))) = begP o p := fun h => by
    rw [← hjx]
    have : (decide ((j : Int) < r.srv) && decide (x.ord = o)) = false := by
      rw [Bool.eq_false_iff]
      intro q
      simp only [Bool.and_eq_true, decide_eq_true_eq] at q
      exact h q
    rw [this, Bool.false_or]
  refine And.intro (fun w1 => ?_) (fun w1 => ?_)
  · have w1 : ((j : Nat) : Int) < r.srv := of_decide_eq_true w1
    repeat (first | refine And.intro (fun _ => ?_) (fun h => Bool.noConfusion h) | refine And.intro (fun h => Bool.noConfusion h) (fun _ => ?_))
    refine And.intro (fun w2 => ?_) (fun w2 => ?_)
    · have w2 : x.ord = o := of_decide_eq_true w2
      repeat (first | refine And.intro (fun _ => ?_) (fun h => Bool.noConfusion h) | refine And.intro (fun h => Bool.noConfusion h) (fun _ => ?_))
      rw [decide_eq_true w1, decide_eq_true w2] at hjx
      rw [← hjx]
      exact And.intro rfl rfl
    · have w2 : ¬ x.ord = o := of_decide_eq_false w2
      repeat (first | refine And.intro (fun _ => ?_) (fun h => Bool.noConfusion h) | refine And.intro (fun h => Bool.noConfusion h) (fun _ => ?_))
      refine ⟨r.st.length - (j + 1), by omega, j + 1, rfl, by omega, again (fun h => w2 h.2), ?_⟩
      unfold sBj
      rw [← hwj]
      rfl
  · have w1 : ¬ ((j : Nat) : Int) < r.srv := of_decide_eq_false w1
    repeat (first | refine And.intro (fun _ => ?_) (fun h => Bool.noConfusion h) | refine And.intro (fun h => Bool.noConfusion h) (fun _ => ?_))
    refine ⟨r.st.length - (j + 1), by omega, j + 1, rfl, by omega, again (fun h => w1 h.1), ?_⟩
    unfold sBj
    rw [← hwj]
    rfl
theorem c_plan_begun (p : Pln) (hp : szP p) (o : Int) {r : Nat} {sto : List Ob} (hr : r ≤ sto.length) : Tri Try.prog 96 r [encP p, .int .i64 o] sto (fun d k => d = .bool (begP o p) ∧ k = sto) :=
  (c_plan_begun_0 p hp o).pure rfl (nrBL_P rfl) rfl rfl hr

abbrev Cnt := List (Int × Int)
noncomputable def encG (g : Cnt) : List (D × D) := g.map fun x => (.int .i64 x.1, .int .i64 x.2)
noncomputable def getC (k : Int) : Cnt → Option Int
  | [] => none
  | x :: r => if k = x.1 then some x.2 else getC k r
noncomputable def setC (k v : Int) : Cnt → Cnt
  | [] => [(k, v)]
  | x :: r => if k = x.1 then (x.1, v) :: r else x :: setC k v r
theorem findG (k : Int) : ∀ g : Cnt, findE LT 3 (.int .i64 k) (encG g) = some ((getC k g).map (D.int .i64))
  | [] => rfl
  | x :: r => by
    have ih := findG k r
    have e : eqD LT 3 (.int .i64 k) (.int .i64 x.1) = some (decide (k = x.1)) := rfl
    show (match eqD LT 3 (.int .i64 k) (.int .i64 x.1) with | some true => some (some (D.int .i64 x.2)) | some false => findE LT 3 (.int .i64 k) (encG r) | none => none) = _
    rw [e]
    unfold getC
    by_cases h : k = x.1
    · rw [decide_eq_true h, if_pos h]; rfl
    · rw [decide_eq_false h, if_neg h]; exact ih
theorem setG (k v : Int) : ∀ g : Cnt, setE LT 3 (.int .i64 k) (.int .i64 v) (encG g) = some (encG (setC k v g))
  | [] => rfl
  | x :: r => by
    have ih := setG k v r
    have e : eqD LT 3 (.int .i64 k) (.int .i64 x.1) = some (decide (k = x.1)) := rfl
    show (match eqD LT 3 (.int .i64 k) (.int .i64 x.1) with | some true => some ((D.int .i64 x.1, D.int .i64 v) :: encG r) | some false => (match setE LT 3 (.int .i64 k) (.int .i64 v) (encG r) with | some r' => some ((D.int .i64 x.1, D.int .i64 x.2) :: r') | none => none) | none => none) = _
    rw [e]
    unfold setC
    by_cases h : k = x.1
    · rw [decide_eq_true h, if_pos h]; rfl
    · rw [decide_eq_false h, if_neg h, ih]; rfl
theorem getC_set (k v : Int) : ∀ g : Cnt, getC k (setC k v g) = some v
  | [] => by simp [setC, getC]
  | x :: r => by
    unfold setC
    split
    · rename_i h; simp [getC, h]
    · rename_i h; simp [getC, h, getC_set k v r]
theorem getC_ne {k j : Int} (v : Int) (h : j ≠ k) : ∀ g : Cnt, getC j (setC k v g) = getC j g
  | [] => by simp [setC, getC, h]
  | x :: r => by
    unfold setC
    split
    · rename_i e; subst e; simp [getC, h]
    · rename_i e; simp [getC, getC_ne v h r]
noncomputable def goneB (p : Pln) (ids : List Int) (o : Int) : Bool := decide (o ∈ ids) && !begP o p
noncomputable def woR (p : Pln) (ids : List Int) (r : Rte) : Rte := ⟨r.drv, r.srv, r.st.filter fun s => !goneB p ids s.ord⟩
noncomputable def woP (p : Pln) (ids : List Int) : Pln := p.map (woR p ids)
structure goneG (p : Pln) (ids : List Int) (i : Nat) (g : Cnt) : Prop where
  some : ∀ k c, getC k g = some c → 1 ≤ c ∧ c ≤ (i : Int) ∧ goneB p (ids.take i) k = true
  none : ∀ k, getC k g = none → goneB p (ids.take i) k = false
noncomputable def sG1 (p : Pln) (ids : List Int) (g : Cnt) (i : Nat) : DS := ⟨[(0, encP p), (5, .map 0), (15, .list .imm (ids.map rowI)), (16, .int .i64 (ids.length : Int)), (17, .int .i64 (i : Int)), (4, .list (.own 0) [])], [], [.map (encG g)], mR 0⟩
noncomputable def sG2 (p q : Pln) (g : Cnt) (sz i : Nat) : DS := ⟨[(5, .map 0), (8, .list (.own sz) (q.map rowR)), (30, encP p), (31, .int .i64 (p.length : Int)), (32, .int .i64 (i : Int)), (4, .list (.own 0) [])], [], [.map (encG g)], mR 0⟩
noncomputable def sG3 (p q : Pln) (r : Rte) (l : List Stp) (g : Cnt) (sz z2 i j : Nat) : DS := ⟨[(5, .map 0), (8, .list (.own sz) (q.map rowR)), (10, .lptr 10 0 0), (11, .list (.own z2) (l.map rowS)), (30, encP p), (31, .int .i64 (p.length : Int)), (32, .int .i64 (i : Int)), (37, .list .imm (r.st.map rowS)), (38, .int .i64 (r.st.length : Int)), (39, .int .i64 (j : Int)), (4, .list (.own 0) [])], [(10, rowR r)], [.map (encG g)], mR 0⟩
set_option maxHeartbeats 8000000 in
theorem c_plan_Without_1 (p : Pln) (hp : szQ p) (ids : List Int) (hids : ids.length ≤ 1000000000000000) : Tri Try.prog 62 0 [encP p, .list .imm (ids.map rowI)] [] (fun d k => copD (woP p ids) d ∧ ∃ es, k = [.map es]) := by
  refine Tri.walk2 (L := LT) (c := {n := 61, ko := [4, 8, 11], xf := [48, 53, 55, 60]}) [] [0, 1, 4, 5, 7, 8, 10, 11, 13, 15, 16, 17, 18, 24, 30, 31, 32, 33, 37, 38, 39, 40, 47] hLT hmix Try.func62 rfl rfl ⟨rfl, rfl⟩ (by show 2 ≤ 61; decide) (by first | exact Nat.zero_le _ | exact Nat.le_refl _ | exact Nat.le_succ 1 | decide) ?_
  have hlen : ((p.map rowR).length : Int) = (p.length : Int) := by rw [List.length_map]
  have hli : ((ids.map rowI).length : Int) = (ids.length : Int) := by rw [List.length_map]
  show Ok _ _ _ _ _
  refine Ok.loopN hLT hmix [] [0, 1, 4, 5, 7, 8, 10, 11, 13, 15, 16, 17, 18, 24, 30, 31, 32, 33, 37, 38, 39, 40, 47] [0,5,15,16,17,4] [] (fun n t => ∃ (i : Nat) (g : Cnt), n = ids.length - i ∧ i ≤ ids.length ∧ goneG p ids i g ∧ t = sG1 p ids g i) (n := ids.length) ⟨0, [], rfl, Nat.zero_le _, ⟨fun k c h => (by cases h), fun k _ => (by simp [goneB])⟩, by unfold sG1; rw [← hli]; rfl⟩ ?_
  rintro n t ⟨i, g, rfl, hi, hg, rfl⟩
  refine And.intro (fun h1 => ?_) (fun h1 => ?_)
  · have h1 : ((i : Nat) : Int) < (ids.length : Int) := of_decide_eq_true h1
    have hii : i < ids.length := by omega
    have hw := wrap_succ (i := i) (n := ids.length) (by omega) hids
    have htk : ids.take (i + 1) = ids.take i ++ [ids[i]] := List.take_succ_eq_append_getElem hii
    refine ⟨(ids).map rowI, rowI ((ids)[i]'(by omega)), rfl, by omega, row_at' rowI (ids) (by omega) (by omega), rfl, of_decide_eq_true rfl, ?_⟩
    generalize ids[i] = k at htk ⊢
    refine ⟨rfl, Nat.zero_le 1, (c_plan_begun p hp.P k (r := 1) (sto := [.map (encG g)]) (Nat.le_refl 1)).mono ?_⟩
    rintro d l ⟨hd, rfl⟩
    cases hb : begP k p with
    | true =>
      rw [hb] at hd
      subst hd
      refine ⟨rfl, fun _ _ => rfl, rfl, ?_⟩
      repeat (first | refine And.intro (fun _ => ?_) (fun h => Bool.noConfusion h) | refine And.intro (fun h => Bool.noConfusion h) (fun _ => ?_))
      have same : ∀ o, goneB p (ids.take (i + 1)) o = goneB p (ids.take i) o := fun o => by
        unfold goneB
        rw [htk]
        by_cases e : o = k
        · subst e; rw [hb]; simp
        · simp [e]
      refine ⟨ids.length - (i + 1), by omega, i + 1, g, rfl, by omega, ⟨fun o c h => ?_, fun o h => ?_⟩, ?_⟩
      · obtain ⟨q1, q2, q3⟩ := hg.some o c h
        exact ⟨q1, by omega, by rw [same]; exact q3⟩
      · rw [same]; exact hg.none o h
      · unfold sG1
        rw [← hw]
        rfl
    | false =>
      rw [hb] at hd
      subst hd
      refine ⟨rfl, fun _ _ => rfl, rfl, ?_⟩
      repeat (first | refine And.intro (fun _ => ?_) (fun h => Bool.noConfusion h) | refine And.intro (fun h => Bool.noConfusion h) (fun _ => ?_))
      have here : goneB p (ids.take (i + 1)) k = true := by
        unfold goneB
        rw [htk, hb]
        simp
      have other : ∀ o, o ≠ k → goneB p (ids.take (i + 1)) o = goneB p (ids.take i) o := fun o e => by
        unfold goneB
        rw [htk]
        simp [e]
      refine And.intro rfl ⟨_, findG k g, ?_⟩
      have next : ∀ v : Int, 1 ≤ v → v ≤ ((i + 1 : Nat) : Int) → goneG p ids (i + 1) (setC k v g) := fun v v1 v2 => by
        refine ⟨fun o c h => ?_, fun o h => ?_⟩
        · by_cases e : o = k
          · subst e
            rw [getC_set] at h
            cases h
            exact ⟨v1, v2, here⟩
          · rw [getC_ne v e] at h
            obtain ⟨q1, q2, q3⟩ := hg.some o c h
            exact ⟨q1, by omega, by rw [other o e]; exact q3⟩
        · by_cases e : o = k
          · subst e
            rw [getC_set] at h
            cases h
          · rw [getC_ne v e] at h
            rw [other o e]
            exact hg.none o h
      cases hc : getC k g with
      | none =>
        refine And.intro ⟨Nat.zero_le _, rfl, rfl⟩ (Exists.intro (encG (setC k (IntKind.i64.wrap (0 + 1)) g)) (And.intro (setG k _ g) ?_))
        refine ⟨ids.length - (i + 1), by omega, i + 1, setC k (IntKind.i64.wrap (0 + 1)) g, rfl, by omega, next _ (by decide) (by rw [show IntKind.i64.wrap (0 + 1) = 1 by decide]; omega), ?_⟩
        unfold sG1
        rw [← hw]
        rfl
      | some c =>
        obtain ⟨q1, q2, q3⟩ := hg.some k c hc
        have hwc : IntKind.i64.wrap (c + 1) = c + 1 := wrap64 (by omega) (by omega)
        refine And.intro ⟨Nat.zero_le _, rfl, rfl⟩ (Exists.intro (encG (setC k (IntKind.i64.wrap (c + 1)) g)) (And.intro (setG k _ g) ?_))
        refine ⟨ids.length - (i + 1), by omega, i + 1, setC k (IntKind.i64.wrap (c + 1)) g, rfl, by omega, next _ (by rw [hwc]; omega) (by rw [hwc]; omega), ?_⟩
        unfold sG1
        rw [← hw]
        rfl
  · have h1 : ¬ ((i : Nat) : Int) < (ids.length : Int) := of_decide_eq_false h1
    have hie : i = ids.length := by omega
    have hgs : ∀ k c, getC k g = some c → 1 ≤ c ∧ goneB p ids k = true := fun k c h => by
      obtain ⟨q1, _, q3⟩ := hg.some k c h
      rw [hie, List.take_length] at q3
      exact ⟨q1, q3⟩
    have hgn : ∀ k, getC k g = none → goneB p ids k = false := fun k h => by
      have := hg.none k h
      rwa [hie, List.take_length] at this
    show Ok _ _ _ _ _
    refine Ok.loopN hLT hmix [] [0, 1, 4, 5, 7, 8, 10, 11, 13, 15, 16, 17, 18, 24, 30, 31, 32, 33, 37, 38, 39, 40, 47] [5,8,30,31,32,4] [] (fun n t => ∃ (i sz : Nat), n = p.length - i ∧ i ≤ p.length ∧ (sz = 0 ∨ sz = 3) ∧ t = sG2 p (woP p ids |>.take i) g sz i) (n := p.length) ⟨0, 0, rfl, Nat.zero_le _, .inl rfl, by unfold sG2; rw [← hlen]; rfl⟩ ?_
    rintro n t ⟨i, sz, rfl, hi, hsz, rfl⟩
    have hwl : (woP p ids).length = p.length := by simp [woP]
    refine And.intro (fun g1 => ?_) (fun g1 => ?_)
    rotate_left
    · have g1 : ¬ ((i : Nat) : Int) < (p.length : Int) := of_decide_eq_false g1
      rw [List.take_of_length_le (by omega)]
      exact And.intro ⟨sz, rfl, hsz⟩ ⟨_, rfl⟩
    have g1 : ((i : Nat) : Int) < (p.length : Int) := of_decide_eq_true g1
    have hip : i < p.length := by omega
    have hpl := hp.len
    have hw := wrap_succ (i := i) (n := p.length) (by omega) (by omega)
    have hst := hp.st p[i] (List.getElem_mem _)
    have htk : (woP p ids).take (i + 1) = (woP p ids).take i ++ [woR p ids p[i]] := by
      rw [List.take_succ_eq_append_getElem (by omega)]
      simp [woP]
    refine ⟨(p).map rowR, rowR ((p)[i]'(by omega)), rfl, by omega, row_at' rowR (p) (by omega) (by omega), rfl, of_decide_eq_true rfl, ?_⟩
    generalize p[i] = r at hst htk ⊢
    generalize hq : (woP p ids).take i = q at htk ⊢
    have hql : q.length ≤ i := by rw [← hq, List.length_take]; omega
    have hls : ((r.st.map rowS).length : Int) = (r.st.length : Int) := by rw [List.length_map]
    show Ok _ _ _ _ _
    refine Ok.loopN hLT hmix [] [0, 1, 4, 5, 7, 8, 10, 11, 13, 15, 16, 17, 18, 24, 30, 31, 32, 33, 37, 38, 39, 40, 47] [5,8,10,11,30,31,32,37,38,39,4] [10] (fun n t => ∃ (j z2 : Nat), n = r.st.length - j ∧ j ≤ r.st.length ∧ (z2 = 0 ∨ z2 = 2) ∧ t = sG3 p q r ((r.st.take j).filter fun s => !goneB p ids s.ord) g sz z2 i j) (n := r.st.length) ⟨0, 0, rfl, Nat.zero_le _, .inl rfl, by unfold sG3; rw [← hls]; rfl⟩ ?_
    rintro n t ⟨j, z2, rfl, hj, hz2, rfl⟩
    refine And.intro (fun w1 => ?_) (fun w1 => ?_)
    rotate_left
    · have w1 : ¬ ((j : Nat) : Int) < (r.st.length : Int) := of_decide_eq_false w1
      rw [List.take_of_length_le (by omega)]
      refine And.intro trivial (And.intro (show ((sz == 0 || sz == LT.size 40) && decide (0 < LT.size 40) && decide (0 < LT.bytes 40) && (LT.zero 40).isSome) = true by rcases hsz with rfl | rfl <;> rfl) (And.intro (show ((q.map rowR).length + 1) * 40 ≤ 140737488355328 by rw [List.length_map]; omega) (And.intro rfl ?_)))
      refine ⟨p.length - (i + 1), by omega, i + 1, 3, rfl, by omega, .inr rfl, ?_⟩
      unfold sG2
      rw [htk, ← hw, List.map_append]
      rfl
    have w1 : ((j : Nat) : Int) < (r.st.length : Int) := of_decide_eq_true w1
    have hjr : j < r.st.length := by omega
    have hwj := wrap_succ (i := j) (n := r.st.length) (by omega) (by omega)
    have hfk : ∀ b, goneB p ids r.st[j].ord = b → (r.st.take (j + 1)).filter (fun s => !goneB p ids s.ord) = (r.st.take j).filter (fun s => !goneB p ids s.ord) ++ (if b = true then [] else [r.st[j]]) := fun b hb => by
      rw [List.take_succ_eq_append_getElem hjr, List.filter_append]
      cases b <;> simp [List.filter_cons, hb]
    have hfl : ((r.st.take j).filter fun s => !goneB p ids s.ord).length ≤ j := by
      have := List.length_filter_le (fun s => !goneB p ids s.ord) (r.st.take j)
      rw [List.length_take] at this
      omega
    refine ⟨(r.st).map rowS, rowS ((r.st)[j]'(by omega)), rfl, by omega, row_at' rowS (r.st) (by omega) (by omega), rfl, of_decide_eq_true rfl, ?_⟩
    generalize r.st[j] = x at hfk ⊢
    generalize ((r.st.take j).filter fun s => !goneB p ids s.ord) = l at hfk hfl ⊢
    refine And.intro rfl ⟨_, findG x.ord g, ?_⟩
    cases hc : getC x.ord g with
    | none =>
      repeat (first | refine And.intro (fun _ => ?_) (fun h => Bool.noConfusion h) | refine And.intro (fun h => Bool.noConfusion h) (fun _ => ?_))
      have hgo := hfk false (hgn _ hc)
      refine And.intro trivial (And.intro (show ((z2 == 0 || z2 == LT.size 37) && decide (0 < LT.size 37) && decide (0 < LT.bytes 37) && (LT.zero 37).isSome) = true by rcases hz2 with rfl | rfl <;> rfl) (And.intro (show ((l.map rowS).length + 1) * 16 ≤ 140737488355328 by rw [List.length_map]; omega) (And.intro rfl ?_)))
      refine ⟨r.st.length - (j + 1), by omega, j + 1, 2, rfl, by omega, .inr rfl, ?_⟩
      unfold sG3
      rw [hgo, ← hwj, List.map_append]
      rfl
    | some c =>
      obtain ⟨q1, q2⟩ := hgs _ _ hc
      refine And.intro (fun h => absurd (of_decide_eq_true h) (by show ¬ c = 0; omega)) (fun _ => ?_)
      have hgo := hfk true q2
      refine ⟨r.st.length - (j + 1), by omega, j + 1, z2, rfl, by omega, hz2, ?_⟩
      unfold sG3
      rw [hgo, ← hwj]
      simp only [if_true, List.append_nil]
      rfl
theorem c_plan_Without_0 (p : Pln) (hp : szQ p) (ids : List Int) (hids : ids.length ≤ 1000000000000000) : Tri Try.prog 62 0 [encP p, .list .imm (ids.map rowI)] [] (fun d k => copD (woP p ids) d ∧ k = []) :=
  Tri.forget (c_plan_Without_1 p hp ids hids) (fun d l h _ => ⟨0, Nat.zero_le _, Nat.zero_le _, nrB_nr (copD_ok h.1).2, fun o ho => absurd ho (by simp), h.1, rfl⟩)
theorem c_plan_Without (p : Pln) (hp : szQ p) (ids : List Int) (hids : ids.length ≤ 1000000000000000) {r : Nat} {sto : List Ob} (hr : r ≤ sto.length) : Tri Try.prog 62 r [encP p, .list .imm (ids.map rowI)] sto (fun d k => copD (woP p ids) d ∧ k = sto) :=
  (c_plan_Without_0 p hp ids hids).pureR rfl (nrBL_P (by show (nrBLL 0 (ids.map rowI) && true) = true; rw [nrBLL_I]; rfl)) (fun d h => copD_ok h) hr
end Go.Lv

namespace Go.Lv
open Go.Proofs

theorem walkS_ok {m : Mp} (hm : okMp m) {d : Drv} : ∀ {ls : List Leg} {c : Nat} {r : Sta × Bool}, okSta c r.1 → (∀ l, l ∈ ls → okLeg l) → okSta (c + ls.length) (walkS m d ls r).1
  | [], c, r, h, _ => h
  | l :: ls, c, r, h, hl => by
    unfold walkS
    split
    · have := walkS_ok hm (d := d) (ls := ls) (r := (stepS m r.1 l, stepB m d r.1 l)) (stepS_ok hm h (hl l (by simp))) (fun x hx => hl x (by simp [hx]))
      rw [List.length_cons, show c + (ls.length + 1) = c + 1 + ls.length by omega]
      exact this
    · exact h.mono (by omega)
theorem stepX_ok {m : Mp} (hm : okMp m) {d : Drv} {l : Leg} {c : Nat} {r : Sta × Bool} (h : okSta c r.1) (hl : okLeg l) : okSta (c + 1) (stepX m d l r).1 := by
  unfold stepX
  split
  · exact stepS_ok hm h hl
  · exact h.mono (by omega)
theorem priceW_le {m : Mp} (hm : okMp m) {x : Srch} (hx : okX x) {i j : Nat} (hij : i ≤ j) (hj : j ≤ x.legs.length) : -500000000 ≤ priceW m x i j ∧ priceW m x i j ≤ 500000000 := by
  have hlen := hx.len
  have hpre := hx.pre
  have hi : i < x.pre.length := by omega
  have hn : x.legs.length < x.pre.length := by omega
  have h0 := stepS_ok hm (hx.st x.pre[i] (List.getElem_mem _)) hx.pick
  have hk := hx.st x.pre[x.legs.length] (List.getElem_mem _)
  have h1 := walkS_ok hm (d := x.d) (ls := (x.legs.drop i).take (j - i)) (r := (stepS m x.pre[i] x.pick, stepB m x.d x.pre[i] x.pick)) h0 (fun l hl => hx.legs l (List.mem_of_mem_drop (List.mem_of_mem_take hl)))
  have h2 := stepX_ok hm (d := x.d) h1 hx.drop
  have h3 := walkS_ok hm (d := x.d) (ls := x.legs.drop j) h2 (fun l hl => hx.legs l (List.mem_of_mem_drop hl))
  have h4 : okSta 400 (endS m x i j).1 := by
    unfold endS
    rw [List.getD_eq_getElem?_getD, List.getElem?_eq_getElem hi]
    refine h3.mono ?_
    rw [List.length_take, List.length_drop, List.length_drop]
    omega
  unfold priceW
  rw [List.getD_eq_getElem?_getD, List.getElem?_eq_getElem hn]
  have a1 := h4.w0
  have a2 := h4.w1
  have a3 := hk.w0
  have a4 := hk.w1
  show -500000000 ≤ _ - (x.pre[x.legs.length]).way ∧ _ - (x.pre[x.legs.length]).way ≤ 500000000
  omega
noncomputable def okPs (n : Nat) (ps : List (Nat × Nat)) : Prop := ∀ q, q ∈ ps → q.1 ≤ q.2 ∧ q.2 ≤ n
theorem rowJ_ok {i n : Nat} : ∀ {k j : Nat}, i ≤ j → j + k ≤ n + 1 → okPs n (rowJ i j k)
  | 0, j, _, _ => fun q hq => by cases hq
  | k + 1, j, h1, h2 => fun q hq => by
    rcases List.mem_cons.1 (show q ∈ (i, j) :: rowJ i (j + 1) k from hq) with e | hq
    · subst e
      exact ⟨h1, by show j ≤ n; omega⟩
    · exact rowJ_ok (by omega) (by omega) q hq
theorem rowsI_ok {n : Nat} : ∀ {k i : Nat}, i + k ≤ n + 1 → okPs n (rowsI n i k)
  | 0, i, _ => fun q hq => by cases hq
  | k + 1, i, h => fun q hq => by
    rcases List.mem_append.1 (show q ∈ rowJ i i (n + 1 - i) ++ rowsI n (i + 1) k from hq) with hq | hq
    · exact rowJ_ok (Nat.le_refl _) (by omega) q hq
    · exact rowsI_ok (by omega) q hq
noncomputable def okCost (z : Int) : Prop := -500000000 ≤ z ∧ z ≤ 500000000
theorem bestG_cost {m : Mp} (hm : okMp m) {x : Srch} (hx : okX x) {B : Int} : ∀ {ps : List (Nat × Nat)} {o : Spt} {t : Int} {f : Bool}, okPs x.legs.length ps → okCost o.cost → okCost (bestG m x B ps o t f).1.cost
  | [], o, t, f, _, h => h
  | (i, j) :: ps, o, t, f, hp, h => by
    have hq := hp (i, j) (by simp)
    have hr : okPs x.legs.length ps := fun q hq => hp q (by simp [hq])
    unfold bestG
    split
    · exact h
    · split
      · exact bestG_cost hm hx hr (priceW_le hm hx hq.1 hq.2)
      · exact bestG_cost hm hx hr h
theorem bestX_cost {m : Mp} (hm : okMp m) {x : Srch} (hx : okX x) {s : Nat} {B : Int} : okCost (bestX m x s B).1.cost := by
  unfold bestX
  by_cases h : s ≤ x.legs.length + 1
  · exact bestG_cost hm hx (rowsI_ok (by omega)) ⟨by decide, by decide⟩
  · rw [show x.legs.length + 1 - s = 0 by omega]
    exact (show okCost 0 from ⟨by decide, by decide⟩)
theorem lookG_cost {m : Mp} (hm : okMp m) {ds : List Drv} {os : List Ord} (ho : okOs m.n os) {o : Ord} (hoo : errO m.n o = 0) {B : Int} : ∀ {p : Pln} {out : Spt} {t : Int} {f : Bool}, (∀ r, r ∈ p → r.st.length ≤ 80 ∧ errD m.n (drOf r.drv ds) = 0) → okCost out.cost → okCost (lookG m ds os o B p out t f).1.cost
  | [], out, t, f, _, h => h
  | r :: p, out, t, f, hp, h => by
    have hq := hp r (by simp)
    have hr : ∀ r, r ∈ p → r.st.length ≤ 80 ∧ errD m.n (drOf r.drv ds) = 0 := fun q hq => hp q (by simp [hq])
    unfold lookG
    split
    · exact lookG_cost hm ho hoo hr h
    · split
      · exact lookG_cost hm ho hoo hr (bestX_cost hm (madeX_ok hm hq.2 ho hq.1 hoo))
      · exact lookG_cost hm ho hoo hr h
theorem cheapR_cost {m : Mp} (hm : okMp m) {ds : List Drv} {os : List Ord} {p : Pln} {o : Ord} {B : Int} : okCost (cheapR m ds os p o B).1.cost := by
  unfold cheapR
  split
  · rename_i h
    have hl := look_ok h.1
    have := lookG_cost hm (makeR_tog h.1).2.1 h.2.1 (ds := ds) (B := B) (p := p) (out := ⟨0, 0, 0, 0⟩) (t := 0) (f := false) (fun r hr => ⟨(hl r hr).1, (hl r hr).2.2.2⟩) ⟨by decide, by decide⟩
    unfold lookR
    generalize lookG m ds os o B p ⟨0, 0, 0, 0⟩ 0 false = x at this ⊢
    obtain ⟨a, b, c⟩ := x
    cases c
    · exact (show okCost 0 from ⟨by decide, by decide⟩)
    · exact this
  · exact ⟨by decide, by decide⟩
noncomputable def movedR (m : Mp) (ds : List Drv) (os : List Ord) (p : Pln) (o : Ord) (B : Int) : Pln × Int × Bool :=
  if (cheapR m ds (othersO o.id os) (woP p [o.id]) o B).2.2 ≠ 0 ∨ totP m ds (othersO o.id os) (woP p [o.id]) + (cheapR m ds (othersO o.id os) (woP p [o.id]) o B).1.cost ≥ totP m ds os p then (p, (cheapR m ds (othersO o.id os) (woP p [o.id]) o B).2.1, false) else
  match withP (woP p [o.id]) o.id (cheapR m ds (othersO o.id os) (woP p [o.id]) o B).1 with
  | none => (p, (cheapR m ds (othersO o.id os) (woP p [o.id]) o B).2.1, false)
  | some q => (q, (cheapR m ds (othersO o.id os) (woP p [o.id]) o B).2.1, true)
noncomputable def isMv (x : Pln × Int × Bool) (d : D) : Prop := ∃ q, (q = .imm ∨ ∃ sz, q = .own sz) ∧ d = .tup [.list q (x.1.map rowR), .int .i64 x.2.1, .bool x.2.2]
theorem smP.Q {p : Pln} (h : smP p) : szQ p := ⟨by have := h.len; omega, fun r hr => by have := h.st r hr; omega⟩
theorem smP.wo {p : Pln} (h : smP p) (ids : List Int) : smP (woP p ids) := by
  refine ⟨by unfold woP; rw [List.length_map]; exact h.len, fun r hr => ?_⟩
  obtain ⟨x, hx, rfl⟩ := List.mem_map.1 hr
  have := h.st x hx
  show (x.st.filter _).length ≤ 80
  exact Nat.le_trans (List.length_filter_le _ _) this
theorem totG_le {m : Mp} (hm : okMp m) {ds : List Drv} {os : List Ord} : ∀ {p : Pln} {n : Int}, (∀ r, r ∈ p → r.st.length ≤ 80) → n ≤ totG m ds os n p ∧ totG m ds os n p ≤ n + 80000000 * (p.length : Int)
  | [], n, _ => ⟨Int.le_refl _, by show n ≤ n + 80000000 * (0 : Int); omega⟩
  | r :: p, n, h => by
    have h1 := totG_le hm (ds := ds) (os := os) (p := p) (n := n + wayP m (drOf r.drv ds) os r.st) (fun x hx => h x (by simp [hx]))
    have h2 := wayP_le hm (d := drOf r.drv ds) (os := os) (h r (by simp))
    unfold totG
    simp only [List.length_cons]
    omega
theorem totP_le {m : Mp} (hm : okMp m) {ds : List Drv} {os : List Ord} {p : Pln} (h : smP p) : 0 ≤ totP m ds os p ∧ totP m ds os p ≤ 640000000 := by
  have := totG_le hm (ds := ds) (os := os) (n := 0) h.st
  have := h.len
  unfold totP
  omega
set_option maxHeartbeats 8000000 in
theorem c_repair_moved_0 (m : Mp) (hm : okMp m) (ds : List Drv) (hds : ds.length ≤ 1000000000000000) (os : List Ord) (ho : os.length ≤ 1000000) (p : Pln) (hp : smP p) (o : Ord) (B : Int) : Tri Try.prog 43 1 [.gptr 0 0, encDs ds, encOs os, encP p, .agg (rowO o), .int .i64 B] [mbox m] (fun x k => isMv (movedR m ds os p o B) x ∧ k = [mbox m]) := by
  refine Tri.walk2 (L := LT) (c := {n := 76, ko := [12, 13, 14], xf := [62]}) [] [0, 1, 2, 3, 4, 5, 10, 12, 13, 14, 15, 16, 17, 18, 19, 20, 21, 59, 71] hLT hmix Try.func43 rfl rfl ⟨rfl, rfl⟩ (by show 6 ≤ 76; decide) (by first | exact Nat.zero_le _ | exact Nat.le_refl _ | exact Nat.le_succ 1 | decide) ?_
  have hpw := hp.wo [o.id]
  have hol : (othersO o.id os).length ≤ os.length := List.length_filter_le _ _
  have hwo := c_plan_Without p hp.Q [o.id] (by show 1 ≤ 1000000000000000; decide) (r := 1) (sto := [mbox m]) (Nat.le_refl 1)
  have hot := c_repair_others os ho o.id (r := 1) (sto := [mbox m]) (Nat.le_refl 1)
  have hch := c_insert_Cheapest m hm ds (othersO o.id os) (by omega) (woP p [o.id]) o B (r := 1) (sto := [mbox m]) (Nat.le_refl 1) rfl (Nat.lt_succ_self 0)
  have hcc := cheapR_cost (m := m) hm (ds := ds) (os := othersO o.id os) (p := woP p [o.id]) (o := o) (B := B)
  have ht1 := c_repair_total m hm ds hds (othersO o.id os) (by omega) (woP p [o.id]) hpw (r := 1) (sto := [mbox m]) (Nat.le_refl 1) rfl (Nat.lt_succ_self 0)
  have ht2 := c_repair_total m hm ds hds os (by omega) p hp (r := 1) (sto := [mbox m]) (Nat.le_refl 1) rfl (Nat.lt_succ_self 0)
  have hl1 := totP_le hm (ds := ds) (os := othersO o.id os) hpw
  have hl2 := totP_le hm (ds := ds) (os := os) hp
  have hsz := hpw.Q.P
  unfold movedR
  unfold lookD at hch
  generalize cheapR m ds (othersO o.id os) (woP p [o.id]) o B = c at hch hcc ⊢
  obtain ⟨cs, cn, ce⟩ := c
  generalize totP m ds (othersO o.id os) (woP p [o.id]) = t1 at ht1 hl1 ⊢
  generalize totP m ds os p = t2 at ht2 hl2 ⊢
  generalize othersO o.id os = rest at hot hch ht1
  generalize woP p [o.id] = less at hwo hch ht1 hsz ⊢
  have hwh := c_plan_With less hsz o.id cs (r := 1) (sto := [mbox m]) (Nat.le_refl 1)
  replace hcc : -500000000 ≤ cs.cost ∧ cs.cost ≤ 500000000 := hcc
  have hws : IntKind.i64.wrap (t1 + cs.cost) = t1 + cs.cost := wrap64 (by omega) (by omega)
  show wC _ _ _ _ _ _ _
  refine ⟨rfl, Nat.le_refl _, hwo.mono ?_⟩
  rintro x l ⟨⟨sz1, rfl, hsz1⟩, rfl⟩
  refine ⟨rfl, fun _ _ => rfl, rfl, ?_⟩
  refine ⟨rfl, Nat.le_refl _, hot.mono ?_⟩
  rintro x l ⟨⟨sz2, hsz2, rfl⟩, rfl⟩
  refine ⟨rfl, fun _ _ => rfl, rfl, ?_⟩
  refine ⟨rfl, (by first | exact Nat.zero_le _ | exact Nat.le_refl _ | exact Nat.le_succ 1 | decide), (hch).mono ?_⟩
  rintro d l ⟨rfl, rfl⟩
  refine ⟨rfl, fun _ _ => rfl, rfl, ?_⟩
  refine ⟨⟨262143, [0, 1, 2, 4, 4, 4, 4, 124, 4, 260, 644, 4, 4, 4, 4, 30852, 33796, 65540], [1, 3, 7, 15, 23, 39, 71, 255, 263, 775, 2047, 2055, 4103, 8199, 16391, 63743, 131071, 262143]⟩, by kernel_rfl, ?_⟩
  refine And.intro (fun h1 => ?_) (fun h1 => ?_)
  · have h1 : ¬ ce = 0 := nd_true h1
    refine And.intro (fun _ => ?_) (fun h => Bool.noConfusion h)
    refine And.intro (fun _ => ?_) (fun h => Bool.noConfusion h)
    repeat (first | refine And.intro (fun _ => ?_) (fun h => Bool.noConfusion h) | refine And.intro (fun h => Bool.noConfusion h) (fun _ => ?_))
    rw [if_pos (.inl h1)]
    exact And.intro ⟨.imm, .inl rfl, rfl⟩ rfl
  have h1 : ce = 0 := nd_false h1
  refine And.intro (fun h => Bool.noConfusion h) (fun _ => ?_)
  refine And.intro ?_ trivial
  refine ⟨rfl, (by first | exact Nat.zero_le _ | exact Nat.le_refl _ | exact Nat.le_succ 1 | decide), (ht1).mono ?_⟩
  rintro d l ⟨rfl, rfl⟩
  refine ⟨rfl, fun _ _ => rfl, rfl, ?_⟩
  refine And.intro (by repeat (first | exact trivial | refine And.intro ⟨rfl, rfl⟩ ?_)) ?_
  refine And.intro ?_ trivial
  refine ⟨rfl, (by first | exact Nat.zero_le _ | exact Nat.le_refl _ | exact Nat.le_succ 1 | decide), (ht2).mono ?_⟩
  rintro d l ⟨rfl, rfl⟩
  refine ⟨rfl, fun _ _ => rfl, rfl, ?_⟩
  refine And.intro (by repeat (first | exact trivial | refine And.intro ⟨rfl, rfl⟩ ?_)) ?_
  refine And.intro (fun h2 => ?_) (fun h2 => ?_)
  · have h2 : IntKind.i64.wrap (t1 + cs.cost) ≥ t2 := of_decide_eq_true h2
    rw [hws] at h2
    refine And.intro (fun _ => ?_) (fun h => Bool.noConfusion h)
    repeat (first | refine And.intro (fun _ => ?_) (fun h => Bool.noConfusion h) | refine And.intro (fun h => Bool.noConfusion h) (fun _ => ?_))
    rw [if_pos (.inr h2)]
    exact And.intro ⟨.imm, .inl rfl, rfl⟩ rfl
  have h2 : ¬ IntKind.i64.wrap (t1 + cs.cost) ≥ t2 := of_decide_eq_false h2
  rw [hws] at h2
  refine And.intro (fun h => Bool.noConfusion h) (fun _ => ?_)
  repeat (first | refine And.intro (fun _ => ?_) (fun h => Bool.noConfusion h) | refine And.intro (fun h => Bool.noConfusion h) (fun _ => ?_))
  rw [if_neg (by rintro (h | h); exact h h1; exact h2 h)]
  show wC _ _ _ _ _ _ _
  cases hw : withP less o.id cs with
  | none =>
    rw [hw] at hwh
    refine ⟨rfl, Nat.le_refl _, hwh.mono ?_⟩
    rintro x l ⟨hx, rfl⟩
    replace hx : x = .tup [.list (.own 0) [], .bool false] := hx
    subst hx
    refine ⟨rfl, fun _ _ => rfl, rfl, ?_⟩
    repeat (first | refine And.intro (fun _ => ?_) (fun h => Bool.noConfusion h) | refine And.intro (fun h => Bool.noConfusion h) (fun _ => ?_))
    exact And.intro ⟨.imm, .inl rfl, rfl⟩ rfl
  | some q =>
    rw [hw] at hwh
    refine ⟨rfl, Nat.le_refl _, hwh.mono ?_⟩
    rintro x l ⟨⟨sz, hx, hsz⟩, rfl⟩
    subst hx
    refine ⟨rfl, fun _ _ => rfl, rfl, ?_⟩
    repeat (first | refine And.intro (fun _ => ?_) (fun h => Bool.noConfusion h) | refine And.intro (fun h => Bool.noConfusion h) (fun _ => ?_))
    exact And.intro ⟨.imm, .inl rfl, rfl⟩ rfl
end Go.Lv

namespace Go.Lv
open Go.Proofs

theorem insS_len {l : List Stp} {o : Int} {i j : Nat} (hij : i ≤ j) : (insS l o i j).length ≤ l.length + 2 := by
  unfold insS
  simp only [List.length_append, List.length_cons, List.length_take, List.length_drop, List.length_nil]
  omega
theorem goW_sm {p0 : Pln} {o : Int} {s : Spt} (h : smP p0) : ∀ {p : Pln} {i : Nat} {q : Pln}, (∀ r, r ∈ p → r ∈ p0 ∧ 0 ≤ r.srv) → goW p0 o s i p = some q → smP q
  | [], i, q, _, hq => by cases hq
  | r :: p, i, q, hp, hq => by
    unfold goW at hq
    split at hq
    · split at hq
      · rename_i hok
        cases hq
        obtain ⟨h1, h2, h3, h4⟩ := hok
        have hs := (hp r (by simp)).2
        refine ⟨by rw [List.length_set]; exact h.len, fun x hx => ?_⟩
        rcases List.mem_or_eq_of_mem_set hx with hx | hx
        · exact h.st x hx
        · subst hx
          have := insS_len (l := r.st) (o := o) (i := s.pick.toNat) (j := s.drop.toNat) (by omega)
          show (insS r.st o s.pick.toNat s.drop.toNat).length ≤ 80
          omega
      · cases hq
    · exact goW_sm h (fun x hx => hp x (by simp [hx])) hq
theorem withP_sm {p q : Pln} {o : Int} {s : Spt} (h : withP p o s = some q) : smP q := by
  unfold withP at h
  split at h
  · rename_i hc
    have hr := rightP_st hc.1
    exact goW_sm (smP_right hc.1) (fun r hr' => ⟨hr', (hr.2 r hr').2.1⟩) h
  · cases h
theorem movedR_sm {m : Mp} {ds : List Drv} {os : List Ord} {p : Pln} {o : Ord} {B : Int} (h : smP p) : smP (movedR m ds os p o B).1 := by
  unfold movedR
  split
  · exact h
  · split
    · exact h
    · rename_i q hq
      exact withP_sm hq
theorem lookG_steps {m : Mp} {ds : List Drv} {os : List Ord} {o : Ord} {B : Int} (hB : B ≤ 100000) : ∀ {p : Pln} {out : Spt} {t : Int} {f : Bool}, 0 ≤ t → 0 ≤ (lookG m ds os o B p out t f).2.1 ∧ (lookG m ds os o B p out t f).2.1 ≤ t + 100000 * (p.length : Int)
  | [], out, t, f, h => ⟨h, by show t ≤ t + 100000 * (0 : Int); omega⟩
  | r :: p, out, t, f, h => by
    have hb := bestX_le (m := m) (x := madeX m (drOf r.drv ds) os r.st o) (s := r.srv.toNat) (B := B - t) (by omega)
    unfold lookG
    simp only [List.length_cons]
    split
    · have := lookG_steps (m := m) (ds := ds) (os := os) (o := o) hB (p := p) (out := out) (t := t) (f := f) h
      omega
    · split
      · have := lookG_steps (m := m) (ds := ds) (os := os) (o := o) hB (p := p) (out := (bestX m (madeX m (drOf r.drv ds) os r.st o) r.srv.toNat (B - t)).1) (t := t + (bestX m (madeX m (drOf r.drv ds) os r.st o) r.srv.toNat (B - t)).2.1) (f := true) (by omega)
        omega
      · have := lookG_steps (m := m) (ds := ds) (os := os) (o := o) hB (p := p) (out := out) (t := t + (bestX m (madeX m (drOf r.drv ds) os r.st o) r.srv.toNat (B - t)).2.1) (f := f) (by omega)
        omega
theorem cheapR_steps {m : Mp} {ds : List Drv} {os : List Ord} {p : Pln} {o : Ord} {B : Int} (hp : p.length ≤ 8) : 0 ≤ (cheapR m ds os p o B).2.1 ∧ (cheapR m ds os p o B).2.1 ≤ 800000 := by
  unfold cheapR
  split
  · rename_i h
    have := lookG_steps (m := m) (ds := ds) (os := os) (o := o) h.2.2.2.2 (p := p) (out := ⟨0, 0, 0, 0⟩) (t := 0) (f := false) (by decide)
    unfold lookR
    generalize lookG m ds os o B p ⟨0, 0, 0, 0⟩ 0 false = x at this ⊢
    obtain ⟨a, b, c⟩ := x
    replace this : 0 ≤ b ∧ b ≤ 0 + 100000 * (p.length : Int) := this
    cases c
    · show 0 ≤ b ∧ b ≤ 800000
      omega
    · show 0 ≤ b ∧ b ≤ 800000
      omega
  · exact ⟨by show (0 : Int) ≤ 0; decide, by show (0 : Int) ≤ 800000; decide⟩
theorem movedR_steps {m : Mp} {ds : List Drv} {os : List Ord} {p : Pln} {o : Ord} {B : Int} (h : smP p) : 0 ≤ (movedR m ds os p o B).2.1 ∧ (movedR m ds os p o B).2.1 ≤ 800000 := by
  have := cheapR_steps (m := m) (ds := ds) (os := othersO o.id os) (o := o) (B := B) (h.wo [o.id]).len
  unfold movedR
  split
  · exact this
  · split
    · exact this
    · exact this
noncomputable def sortO (os : List Ord) : List Ord := sortB Ord.id os
noncomputable def passG (m : Mp) (ds : List Drv) (os : List Ord) (B : Int) : List Ord → Pln → Int → Bool → Pln × Int × Bool
  | [], out, t, ch => (out, t, ch)
  | o :: l, out, t, ch => if t ≥ B then (out, t, ch) else
    if movB out o.id = false then passG m ds os B l out t ch else
    passG m ds os B l (movedR m ds os out o (B - t)).1 (t + (movedR m ds os out o (B - t)).2.1) (ch || (movedR m ds os out o (B - t)).2.2)
noncomputable def passR (m : Mp) (ds : List Drv) (os : List Ord) (p : Pln) (B : Int) : Pln × Int × Bool := passG m ds os B (sortO os) p 0 false
theorem passG_at {m : Mp} {ds : List Drv} {os : List Ord} {B : Int} {l : List Ord} {out : Pln} {t : Int} {ch : Bool} {i : Nat} (h : i < l.length) : passG m ds os B (l.drop i) out t ch = if t ≥ B then (out, t, ch) else
    if movB out l[i].id = false then passG m ds os B (l.drop (i + 1)) out t ch else
    passG m ds os B (l.drop (i + 1)) (movedR m ds os out l[i] (B - t)).1 (t + (movedR m ds os out l[i] (B - t)).2.1) (ch || (movedR m ds os out l[i] (B - t)).2.2) := by
  rw [List.drop_eq_getElem_cons h]
  rfl
theorem distinct_of : ∀ {l : List Int}, l.Nodup → distinct l = true
  | [], _ => rfl
  | x :: r, h => by
    have := List.nodup_cons.1 h
    show (!r.contains x && distinct r) = true
    rw [distinct_of this.2, Bool.and_true, Bool.not_eq_true', ← Bool.not_eq_true]
    exact fun hc => this.1 (List.contains_iff_mem.1 hc)
theorem keyed_os {n : Int} {os : List Ord} (ho : okOs n os) : ((os.map rowO).all (keyedD 0 10) && distinct ((os.map rowO).map (keyD 0))) = true := by
  rw [Bool.and_eq_true]
  constructor
  · rw [List.all_eq_true]
    intro r hr
    obtain ⟨o, h, rfl⟩ := List.mem_map.1 hr
    have := errO_size (ho.2.1 o h)
    show (true && (decide (-4611686018427387904 ≤ o.id) && decide (o.id ≤ 4611686018427387903))) = true
    rw [decide_eq_true (by omega), decide_eq_true (by omega)]
    rfl
  · refine distinct_of ?_
    rw [List.map_map]
    show (os.map fun o => keyD 0 (rowO o)).Nodup
    rw [show (fun o => keyD 0 (rowO o)) = Ord.id from rfl]
    exact List.pairwise_map.2 ho.2.2
theorem sort_rows (os : List Ord) : sortB (keyD 0) (os.map rowO) = (sortO os).map rowO := (sortB_map rowO os (fun _ _ => rfl)).symm
noncomputable def sPs (m : Mp) (ds : List Drv) (os : List Ord) (B : Int) (l : List Ord) (out : Pln) (t : Int) (ch : Bool) (i : Nat) : DS := ⟨[(0, .gptr 0 0), (1, encDs ds), (2, encOs os), (4, .int .i64 B), (10, .list (.own 0) []), (11, .int .i64 0), (12, .bool false), (13, .list (.own 10) (l.map rowO)), (14, encP out), (15, .int .i64 t), (16, .bool ch), (28, .list (.cp 1 (some (⟨.slot 13, 0, 0⟩, 0))) (l.map rowO)), (29, .int .i64 ((l.map rowO).length : Int)), (30, .int .i64 (i : Int))], [], [mbox m], mR 1⟩
set_option maxHeartbeats 8000000 in
theorem c_repair_pass_0 (m : Mp) (hm : okMp m) (ds : List Drv) (hds : ds.length ≤ 1000000000000000) (os : List Ord) (ho : okOs m.n os) (p : Pln) (hp : smP p) (B : Int) (hB0 : 0 ≤ B) (hB : B ≤ 100000) : Tri Try.prog 25 1 [.gptr 0 0, encDs ds, encOs os, encP p, .int .i64 B] [mbox m] (fun x k => isMv (passR m ds os p B) x ∧ k = [mbox m]) := by
  refine Tri.walk2 (L := LT) (c := {n := 67, ko := [10, 11, 12, 13], xf := [42]}) [(40,3,[])] [0, 1, 2, 3, 4, 10, 11, 12, 13, 14, 15, 16, 18, 19, 20, 21, 28, 29, 30, 31, 36, 41] hLT hmix Try.func25 rfl rfl ⟨rfl, rfl⟩ (by show 5 ≤ 67; decide) (by first | exact Nat.zero_le _ | exact Nat.le_refl _ | exact Nat.le_succ 1 | decide) ?_
  have hol := ho.1
  have hrm : (0 + (os.map rowO).length) * 80 ≤ 140737488355328 := by rw [List.length_map]; omega
  have hal : allLen 10 (os.map rowO) = true := by simp [allLen, rowO]
  refine And.intro trivial (And.intro rfl (And.intro hrm (And.intro hal ?_)))
  refine OpOk.sortF sortOrdC rfl rfl rfl rfl rfl (fun h => ?_) (fun h => ⟨⟨rfl, rfl⟩, _, rfl, ⟨rfl, by show (os.map rowO).length < _; rw [List.length_map]; omega⟩, keyed_os ho, ?_⟩)
  · have hn : os = [] := by simpa using h
    have hcp := c_plan_Copy p hp.Q (r := 1) (sto := [mbox m]) (Nat.le_refl 1)
    refine ⟨rfl, Nat.le_refl _, hcp.mono ?_⟩
    rintro x l ⟨⟨sz1, rfl, hsz1⟩, rfl⟩
    refine ⟨rfl, fun _ _ => rfl, rfl, ?_⟩
    have hsl : (sortO os).length = os.length := (sortB_perm os).length_eq
    show Ok _ _ _ _ _
    refine Ok.loopN hLT hmix [(40,3,[])] [0, 1, 2, 3, 4, 10, 11, 12, 13, 14, 15, 16, 18, 19, 20, 21, 28, 29, 30, 31, 36, 41] [0,1,2,4,10,11,12,13,14,15,16,28,29,30] [] (fun n s => ∃ (i : Nat) (out : Pln) (t : Int) (ch : Bool), n = (sortO os).length - i ∧ i ≤ (sortO os).length ∧ smP out ∧ 0 ≤ t ∧ t ≤ 1000000 ∧ passG m ds os B ((sortO os).drop i) out t ch = passR m ds os p B ∧ s = sPs m ds os B (sortO os) out t ch i) (n := (sortO os).length) ⟨0, p, 0, false, rfl, Nat.zero_le _, hp, by omega, by omega, rfl, by unfold sPs; rw [hn]; rfl⟩ ?_
    rintro n s ⟨i, out, t, ch, rfl, hi, hso, ht0, ht1, hgo, rfl⟩
    refine And.intro (fun h1 => ?_) (fun h1 => ?_)
    rotate_left
    · have h1 : ¬ ((i : Nat) : Int) < (((sortO os).map rowO).length : Int) := of_decide_eq_false h1
      rw [List.length_map] at h1
      rw [List.drop_eq_nil_of_le (by omega)] at hgo
      rw [← hgo]
      exact And.intro ⟨.imm, .inl rfl, rfl⟩ rfl
    have h1 : ((i : Nat) : Int) < (((sortO os).map rowO).length : Int) := of_decide_eq_true h1
    rw [List.length_map] at h1
    have hil : i < (sortO os).length := by omega
    have hw := wrap_succ (i := i) (n := (sortO os).length) hil (by omega)
    rw [passG_at hil] at hgo
    have hrow : ((sortO os).map rowO)[((i : Nat) : Int).toNat]? = some (rowO (sortO os)[i]) := row_at _ hil
    refine ⟨(sortO os).map rowO, rowO (sortO os)[i], lsD_cp rfl ⟨rfl, rfl⟩ rfl, by omega, hrow, rfl, of_decide_eq_true rfl, ?_⟩
    refine ⟨_, _, (readD_elem ⟨rfl, rfl⟩ rfl hrow rfl).trans rfl, rfl, rfl, ?_⟩
    generalize (sortO os)[i] = o at hgo hrow ⊢
    refine And.intro (fun h2 => ?_) (fun h2 => ?_)
    · rw [if_pos (show t ≥ B from of_decide_eq_true h2)] at hgo
      rw [← hgo]
      exact And.intro ⟨.imm, .inl rfl, rfl⟩ rfl
    have h2 : ¬ t ≥ B := of_decide_eq_false h2
    rw [if_neg h2] at hgo
    have hmv := c_repair_movable out hso.Q.P o.id (r := 1) (sto := [mbox m]) (Nat.le_refl 1)
    have hwB : IntKind.i64.wrap (B - t) = B - t := wrap64 (by omega) (by omega)
    have hmd := c_repair_moved_0 m hm ds hds os (by omega) out hso o (IntKind.i64.wrap (B - t))
    have hsx := movedR_sm (m := m) (ds := ds) (os := os) (o := o) (B := IntKind.i64.wrap (B - t)) hso
    have hst := movedR_steps (m := m) (ds := ds) (os := os) (o := o) (B := IntKind.i64.wrap (B - t)) hso
    rw [← hwB] at hgo
    generalize movedR m ds os out o (IntKind.i64.wrap (B - t)) = x at hmd hsx hst hgo
    obtain ⟨x1, x2, x3⟩ := x
    replace hgo : (if movB out o.id = false then passG m ds os B ((sortO os).drop (i + 1)) out t ch else passG m ds os B ((sortO os).drop (i + 1)) x1 (t + x2) (ch || x3)) = passR m ds os p B := hgo
    replace hsx : smP x1 := hsx
    replace hst : 0 ≤ x2 ∧ x2 ≤ 800000 := hst
    have hwt : IntKind.i64.wrap (t + x2) = t + x2 := wrap64 (by omega) (by omega)
    generalize movB out o.id = mb at hmv hgo
    refine ⟨rfl, (by first | exact Nat.zero_le _ | exact Nat.le_refl _ | exact Nat.le_succ 1 | decide), (hmv).mono ?_⟩
    rintro d l ⟨rfl, rfl⟩
    refine ⟨rfl, fun _ _ => rfl, rfl, ?_⟩
    cases mb with
    | false =>
      rw [if_pos rfl] at hgo
      repeat (first | refine And.intro (fun _ => ?_) (fun h => Bool.noConfusion h) | refine And.intro (fun h => Bool.noConfusion h) (fun _ => ?_))
      refine ⟨(sortO os).length - (i + 1), by omega, i + 1, out, t, ch, rfl, by omega, hso, ht0, ht1, hgo, ?_⟩
      unfold sPs
      rw [← hw]
      rfl
    | true =>
      rw [if_neg (by decide)] at hgo
      repeat (first | refine And.intro (fun _ => ?_) (fun h => Bool.noConfusion h) | refine And.intro (fun h => Bool.noConfusion h) (fun _ => ?_))
      refine ⟨rfl, Nat.le_refl _, hmd.mono ?_⟩
      rintro x l ⟨⟨q, hq, rfl⟩, rfl⟩
      rcases hq with rfl | ⟨sz, rfl⟩
      · refine ⟨rfl, fun _ _ => rfl, rfl, ?_⟩
        cases ch with
        | true =>
          repeat (first | refine And.intro (fun _ => ?_) (fun h => Bool.noConfusion h) | refine And.intro (fun h => Bool.noConfusion h) (fun _ => ?_))
          refine ⟨(sortO os).length - (i + 1), by omega, i + 1, x1, IntKind.i64.wrap (t + x2), true, rfl, by omega, hsx, by rw [hwt]; omega, by rw [hwt]; omega, by rw [hwt]; exact hgo, ?_⟩
          unfold sPs
          rw [← hw]
          rfl
        | false =>
          repeat (first | refine And.intro (fun _ => ?_) (fun h => Bool.noConfusion h) | refine And.intro (fun h => Bool.noConfusion h) (fun _ => ?_))
          refine ⟨(sortO os).length - (i + 1), by omega, i + 1, x1, IntKind.i64.wrap (t + x2), x3, rfl, by omega, hsx, by rw [hwt]; omega, by rw [hwt]; omega, by rw [hwt]; exact hgo, ?_⟩
          unfold sPs
          rw [← hw]
          rfl
      · refine ⟨rfl, fun _ _ => rfl, rfl, ?_⟩
        cases ch with
        | true =>
          repeat (first | refine And.intro (fun _ => ?_) (fun h => Bool.noConfusion h) | refine And.intro (fun h => Bool.noConfusion h) (fun _ => ?_))
          refine ⟨(sortO os).length - (i + 1), by omega, i + 1, x1, IntKind.i64.wrap (t + x2), true, rfl, by omega, hsx, by rw [hwt]; omega, by rw [hwt]; omega, by rw [hwt]; exact hgo, ?_⟩
          unfold sPs
          rw [← hw]
          rfl
        | false =>
          repeat (first | refine And.intro (fun _ => ?_) (fun h => Bool.noConfusion h) | refine And.intro (fun h => Bool.noConfusion h) (fun _ => ?_))
          refine ⟨(sortO os).length - (i + 1), by omega, i + 1, x1, IntKind.i64.wrap (t + x2), x3, rfl, by omega, hsx, by rw [hwt]; omega, by rw [hwt]; omega, by rw [hwt]; exact hgo, ?_⟩
          unfold sPs
          rw [← hw]
          rfl
  · skip
    have hcp := c_plan_Copy p hp.Q (r := 1) (sto := [mbox m]) (Nat.le_refl 1)
    refine ⟨rfl, Nat.le_refl _, hcp.mono ?_⟩
    rintro x l ⟨⟨sz1, rfl, hsz1⟩, rfl⟩
    refine ⟨rfl, fun _ _ => rfl, rfl, ?_⟩
    have hsl : (sortO os).length = os.length := (sortB_perm os).length_eq
    show Ok _ _ _ _ _
    refine Ok.loopN hLT hmix [(40,3,[])] [0, 1, 2, 3, 4, 10, 11, 12, 13, 14, 15, 16, 18, 19, 20, 21, 28, 29, 30, 31, 36, 41] [0,1,2,4,10,11,12,13,14,15,16,28,29,30] [] (fun n s => ∃ (i : Nat) (out : Pln) (t : Int) (ch : Bool), n = (sortO os).length - i ∧ i ≤ (sortO os).length ∧ smP out ∧ 0 ≤ t ∧ t ≤ 1000000 ∧ passG m ds os B ((sortO os).drop i) out t ch = passR m ds os p B ∧ s = sPs m ds os B (sortO os) out t ch i) (n := (sortO os).length) ⟨0, p, 0, false, rfl, Nat.zero_le _, hp, by omega, by omega, rfl, by unfold sPs; rw [← sort_rows]; rfl⟩ ?_
    rintro n s ⟨i, out, t, ch, rfl, hi, hso, ht0, ht1, hgo, rfl⟩
    refine And.intro (fun h1 => ?_) (fun h1 => ?_)
    rotate_left
    · have h1 : ¬ ((i : Nat) : Int) < (((sortO os).map rowO).length : Int) := of_decide_eq_false h1
      rw [List.length_map] at h1
      rw [List.drop_eq_nil_of_le (by omega)] at hgo
      rw [← hgo]
      exact And.intro ⟨.imm, .inl rfl, rfl⟩ rfl
    have h1 : ((i : Nat) : Int) < (((sortO os).map rowO).length : Int) := of_decide_eq_true h1
    rw [List.length_map] at h1
    have hil : i < (sortO os).length := by omega
    have hw := wrap_succ (i := i) (n := (sortO os).length) hil (by omega)
    rw [passG_at hil] at hgo
    have hrow : ((sortO os).map rowO)[((i : Nat) : Int).toNat]? = some (rowO (sortO os)[i]) := row_at _ hil
    refine ⟨(sortO os).map rowO, rowO (sortO os)[i], lsD_cp rfl ⟨rfl, rfl⟩ rfl, by omega, hrow, rfl, of_decide_eq_true rfl, ?_⟩
    refine ⟨_, _, (readD_elem ⟨rfl, rfl⟩ rfl hrow rfl).trans rfl, rfl, rfl, ?_⟩
    generalize (sortO os)[i] = o at hgo hrow ⊢
    refine And.intro (fun h2 => ?_) (fun h2 => ?_)
    · rw [if_pos (show t ≥ B from of_decide_eq_true h2)] at hgo
      rw [← hgo]
      exact And.intro ⟨.imm, .inl rfl, rfl⟩ rfl
    have h2 : ¬ t ≥ B := of_decide_eq_false h2
    rw [if_neg h2] at hgo
    have hmv := c_repair_movable out hso.Q.P o.id (r := 1) (sto := [mbox m]) (Nat.le_refl 1)
    have hwB : IntKind.i64.wrap (B - t) = B - t := wrap64 (by omega) (by omega)
    have hmd := c_repair_moved_0 m hm ds hds os (by omega) out hso o (IntKind.i64.wrap (B - t))
    have hsx := movedR_sm (m := m) (ds := ds) (os := os) (o := o) (B := IntKind.i64.wrap (B - t)) hso
    have hst := movedR_steps (m := m) (ds := ds) (os := os) (o := o) (B := IntKind.i64.wrap (B - t)) hso
    rw [← hwB] at hgo
    generalize movedR m ds os out o (IntKind.i64.wrap (B - t)) = x at hmd hsx hst hgo
    obtain ⟨x1, x2, x3⟩ := x
    replace hgo : (if movB out o.id = false then passG m ds os B ((sortO os).drop (i + 1)) out t ch else passG m ds os B ((sortO os).drop (i + 1)) x1 (t + x2) (ch || x3)) = passR m ds os p B := hgo
    replace hsx : smP x1 := hsx
    replace hst : 0 ≤ x2 ∧ x2 ≤ 800000 := hst
    have hwt : IntKind.i64.wrap (t + x2) = t + x2 := wrap64 (by omega) (by omega)
    generalize movB out o.id = mb at hmv hgo
    refine ⟨rfl, (by first | exact Nat.zero_le _ | exact Nat.le_refl _ | exact Nat.le_succ 1 | decide), (hmv).mono ?_⟩
    rintro d l ⟨rfl, rfl⟩
    refine ⟨rfl, fun _ _ => rfl, rfl, ?_⟩
    cases mb with
    | false =>
      rw [if_pos rfl] at hgo
      repeat (first | refine And.intro (fun _ => ?_) (fun h => Bool.noConfusion h) | refine And.intro (fun h => Bool.noConfusion h) (fun _ => ?_))
      refine ⟨(sortO os).length - (i + 1), by omega, i + 1, out, t, ch, rfl, by omega, hso, ht0, ht1, hgo, ?_⟩
      unfold sPs
      rw [← hw]
      rfl
    | true =>
      rw [if_neg (by decide)] at hgo
      repeat (first | refine And.intro (fun _ => ?_) (fun h => Bool.noConfusion h) | refine And.intro (fun h => Bool.noConfusion h) (fun _ => ?_))
      refine ⟨rfl, Nat.le_refl _, hmd.mono ?_⟩
      rintro x l ⟨⟨q, hq, rfl⟩, rfl⟩
      rcases hq with rfl | ⟨sz, rfl⟩
      · refine ⟨rfl, fun _ _ => rfl, rfl, ?_⟩
        cases ch with
        | true =>
          repeat (first | refine And.intro (fun _ => ?_) (fun h => Bool.noConfusion h) | refine And.intro (fun h => Bool.noConfusion h) (fun _ => ?_))
          refine ⟨(sortO os).length - (i + 1), by omega, i + 1, x1, IntKind.i64.wrap (t + x2), true, rfl, by omega, hsx, by rw [hwt]; omega, by rw [hwt]; omega, by rw [hwt]; exact hgo, ?_⟩
          unfold sPs
          rw [← hw]
          rfl
        | false =>
          repeat (first | refine And.intro (fun _ => ?_) (fun h => Bool.noConfusion h) | refine And.intro (fun h => Bool.noConfusion h) (fun _ => ?_))
          refine ⟨(sortO os).length - (i + 1), by omega, i + 1, x1, IntKind.i64.wrap (t + x2), x3, rfl, by omega, hsx, by rw [hwt]; omega, by rw [hwt]; omega, by rw [hwt]; exact hgo, ?_⟩
          unfold sPs
          rw [← hw]
          rfl
      · refine ⟨rfl, fun _ _ => rfl, rfl, ?_⟩
        cases ch with
        | true =>
          repeat (first | refine And.intro (fun _ => ?_) (fun h => Bool.noConfusion h) | refine And.intro (fun h => Bool.noConfusion h) (fun _ => ?_))
          refine ⟨(sortO os).length - (i + 1), by omega, i + 1, x1, IntKind.i64.wrap (t + x2), true, rfl, by omega, hsx, by rw [hwt]; omega, by rw [hwt]; omega, by rw [hwt]; exact hgo, ?_⟩
          unfold sPs
          rw [← hw]
          rfl
        | false =>
          repeat (first | refine And.intro (fun _ => ?_) (fun h => Bool.noConfusion h) | refine And.intro (fun h => Bool.noConfusion h) (fun _ => ?_))
          refine ⟨(sortO os).length - (i + 1), by omega, i + 1, x1, IntKind.i64.wrap (t + x2), x3, rfl, by omega, hsx, by rw [hwt]; omega, by rw [hwt]; omega, by rw [hwt]; exact hgo, ?_⟩
          unfold sPs
          rw [← hw]
          rfl
theorem passR_ok {m : Mp} {x : Pln × Int × Bool} {d : D} (h : isMv x d) : partsOK d = true ∧ nrB 0 d = true := by
  obtain ⟨q, hq, rfl⟩ := h
  refine ⟨by rcases hq with rfl | ⟨sz, rfl⟩ <;> rfl, ?_⟩
  show (nrBLL 0 (x.1.map rowR) && _) = true
  rw [nrBLL_P]
  rfl
end Go.Lv

namespace Go.Lv
open Go.Proofs

theorem c_repair_pass (m : Mp) (hm : okMp m) (ds : List Drv) (hds : ds.length ≤ 1000000000000000) (os : List Ord) (ho : okOs m.n os) (p : Pln) (hp : smP p) (B : Int) (hB0 : 0 ≤ B) (hB : B ≤ 100000) {r b : Nat} {sto : List Ob} (hr : r ≤ sto.length) (hb : sto[b]? = some (mbox m)) (hbr : b < r) : Tri Try.prog 25 r [.gptr b 0, encDs ds, encOs os, encP p, .int .i64 B] sto (fun x k => isMv (passR m ds os p B) x ∧ k = sto) :=
  (c_repair_pass_0 m hm ds hds os ho p hp B hB0 hB).boxRO (nr_mcs m) rfl (nrBL_Dr (nrBL_O (nrBL_P rfl))) (fun d h => passR_ok (m := m) h) hr hb hbr
noncomputable def isPs (x : Pln × Int × Int) (d : D) : Prop := ∃ q, (q = .imm ∨ ∃ sz, q = .own sz) ∧ d = .tup [.list q (x.1.map rowR), .int .i64 x.2.1, .int .i64 x.2.2]
noncomputable def PassR (m : Mp) (ds : List Drv) (os : List Ord) (p : Pln) (B : Int) : Pln × Int × Int := if askR m ds os p B then ((passR m ds os p B).1, (passR m ds os p B).2.1, 0) else ([], 0, 1)
set_option maxHeartbeats 4000000 in
theorem c_repair_Pass_0 (m : Mp) (hm : okMp m) (ds : List Drv) (os : List Ord) (p : Pln) (B : Int) : Tri Try.prog 10 1 [.gptr 0 0, encDs ds, encOs os, encP p, .int .i64 B] [mbox m] (fun x k => isPs (PassR m ds os p B) x ∧ k = [mbox m]) := by
  refine Tri.walk2 (L := LT) (c := {n := 35, ko := [10, 11, 12], xf := [23]}) [] [0, 1, 2, 3, 4, 10, 11, 12, 13, 14, 22] hLT hmix Try.func10 rfl rfl ⟨rfl, rfl⟩ (by show 5 ≤ 35; decide) (by first | exact Nat.zero_le _ | exact Nat.le_refl _ | exact Nat.le_succ 1 | decide) ?_
  refine ⟨rfl, (by first | exact Nat.zero_le _ | exact Nat.le_refl _ | exact Nat.le_succ 1 | decide), (c_repair_asked m hm ds os p B (r := 1) (sto := [mbox m]) (Nat.le_refl 1) rfl (Nat.lt_succ_self 0)).mono ?_⟩
  rintro d l ⟨rfl, rfl⟩
  refine ⟨rfl, fun _ _ => rfl, rfl, ?_⟩
  unfold PassR
  cases h1 : decide (askR m ds os p B) with
  | false =>
    repeat (first | refine And.intro (fun _ => ?_) (fun h => Bool.noConfusion h) | refine And.intro (fun h => Bool.noConfusion h) (fun _ => ?_))
    rw [if_neg (of_decide_eq_false h1)]
    exact And.intro ⟨.own 0, .inr ⟨0, rfl⟩, rfl⟩ rfl
  | true =>
    repeat (first | refine And.intro (fun _ => ?_) (fun h => Bool.noConfusion h) | refine And.intro (fun h => Bool.noConfusion h) (fun _ => ?_))
    have h1 := of_decide_eq_true h1
    rw [if_pos h1]
    have hg := makeR_tog h1.1
    have hps := c_repair_pass m hm ds (by have := hg.1; omega) os hg.2.1 p (smP_right hg.2.2.1) B h1.2.1 h1.2.2 (r := 1) (sto := [mbox m]) (Nat.le_refl 1) rfl (Nat.lt_succ_self 0)
    generalize passR m ds os p B = x at hps ⊢
    obtain ⟨x1, x2, x3⟩ := x
    refine ⟨rfl, Nat.le_refl _, hps.mono ?_⟩
    rintro x l ⟨⟨q, hq, rfl⟩, rfl⟩
    rcases hq with rfl | ⟨sz, rfl⟩
    · refine ⟨rfl, fun _ _ => rfl, rfl, ?_⟩
      exact And.intro ⟨.imm, .inl rfl, rfl⟩ rfl
    · refine ⟨rfl, fun _ _ => rfl, rfl, ?_⟩
      exact And.intro ⟨.imm, .inl rfl, rfl⟩ rfl
end Go.Lv

namespace Go.Lv
open Go.Proofs

theorem bestG_found {m : Mp} {x : Srch} {B : Int} : ∀ {ps : List (Nat × Nat)} {o : Spt} {t : Int} {f : Bool}, t ≤ (bestG m x B ps o t f).2.1 ∧ ((bestG m x B ps o t f).2.2 = true → f = true ∨ t + 1 ≤ (bestG m x B ps o t f).2.1)
  | [], o, t, f => ⟨Int.le_refl _, fun h => .inl h⟩
  | (i, j) :: ps, o, t, f => by
    unfold bestG
    split
    · exact ⟨Int.le_refl _, fun h => .inl h⟩
    · split
      · have := bestG_found (m := m) (x := x) (B := B) (ps := ps) (o := ⟨x.d.id, i, j, priceW m x i j⟩) (t := t + 1) (f := true)
        exact ⟨by omega, fun _ => .inr this.1⟩
      · have := bestG_found (m := m) (x := x) (B := B) (ps := ps) (o := o) (t := t + 1) (f := f)
        exact ⟨by omega, fun h => (this.2 h).imp id (fun q => by omega)⟩
theorem bestX_found {m : Mp} {x : Srch} {s : Nat} {B : Int} (h : (bestX m x s B).2.2 = true) : 1 ≤ (bestX m x s B).2.1 := by
  have := (bestG_found (m := m) (x := x) (B := B) (ps := rowsI x.legs.length s (x.legs.length + 1 - s)) (o := ⟨0, 0, 0, 0⟩) (t := 0) (f := false)).2 h
  rcases this with h | h
  · cases h
  · exact h
theorem lookG_found {m : Mp} {ds : List Drv} {os : List Ord} {o : Ord} {B : Int} (hB : B ≤ 100000) : ∀ {p : Pln} {out : Spt} {t : Int} {f : Bool}, 0 ≤ t → t ≤ (lookG m ds os o B p out t f).2.1 ∧ ((lookG m ds os o B p out t f).2.2 = true → f = true ∨ t + 1 ≤ (lookG m ds os o B p out t f).2.1)
  | [], out, t, f, _ => ⟨Int.le_refl _, fun h => .inl h⟩
  | r :: p, out, t, f, h => by
    have hb := bestX_le (m := m) (x := madeX m (drOf r.drv ds) os r.st o) (s := r.srv.toNat) (B := B - t) (by omega)
    have hf := bestX_found (m := m) (x := madeX m (drOf r.drv ds) os r.st o) (s := r.srv.toNat) (B := B - t)
    unfold lookG
    generalize bestX m (madeX m (drOf r.drv ds) os r.st o) r.srv.toNat (B - t) = b at hb hf ⊢
    split
    · exact lookG_found hB h
    · split
      · rename_i hc
        have := lookG_found (m := m) (ds := ds) (os := os) (o := o) hB (p := p) (out := b.1) (t := t + b.2.1) (f := true) (by omega)
        have h1 := hf hc.1
        exact ⟨by omega, fun _ => .inr (by omega)⟩
      · have := lookG_found (m := m) (ds := ds) (os := os) (o := o) hB (p := p) (out := out) (t := t + b.2.1) (f := f) (by omega)
        exact ⟨by omega, fun q => (this.2 q).imp id (fun q => by omega)⟩
theorem cheapR_found {m : Mp} {ds : List Drv} {os : List Ord} {p : Pln} {o : Ord} {B : Int} (h : (cheapR m ds os p o B).2.2 = 0) : 1 ≤ (cheapR m ds os p o B).2.1 := by
  unfold cheapR at h ⊢
  split at h
  · rename_i hc
    rw [if_pos hc]
    have := lookG_found (m := m) (ds := ds) (os := os) (o := o) hc.2.2.2.2 (p := p) (out := ⟨0, 0, 0, 0⟩) (t := 0) (f := false) (by decide)
    unfold lookR at h ⊢
    generalize lookG m ds os o B p ⟨0, 0, 0, 0⟩ 0 false = x at this h ⊢
    obtain ⟨a, b, c⟩ := x
    cases c
    · exact absurd h (by show ¬ (20 : Int) = 0; decide)
    · rcases this.2 rfl with q | q
      · cases q
      · exact q
  · exact absurd h (by show ¬ (1 : Int) = 0; decide)
theorem movedR_found {m : Mp} {ds : List Drv} {os : List Ord} {p : Pln} {o : Ord} {B : Int} (h : (movedR m ds os p o B).2.2 = true) : 1 ≤ (movedR m ds os p o B).2.1 := by
  unfold movedR at h ⊢
  split at h
  · cases h
  · rename_i hc
    rw [if_neg hc]
    have hce : (cheapR m ds (othersO o.id os) (woP p [o.id]) o B).2.2 = 0 := Classical.byContradiction fun q => hc (.inl q)
    have := cheapR_found hce
    split
    · exact this
    · exact this
theorem passG_found {m : Mp} {ds : List Drv} {os : List Ord} {B : Int} (hB : B ≤ 100000) : ∀ {l : List Ord} {out : Pln} {t : Int} {ch : Bool}, smP out → 0 ≤ t → t ≤ 1000000 → (t ≤ (passG m ds os B l out t ch).2.1 ∧ (passG m ds os B l out t ch).2.1 ≤ 1000000 ∧ smP (passG m ds os B l out t ch).1) ∧ ((passG m ds os B l out t ch).2.2 = true → ch = true ∨ t + 1 ≤ (passG m ds os B l out t ch).2.1)
  | [], out, t, ch, hs, h0, h1 => ⟨⟨Int.le_refl _, h1, hs⟩, fun h => .inl h⟩
  | o :: l, out, t, ch, hs, h0, h1 => by
    have hst := movedR_steps (m := m) (ds := ds) (os := os) (o := o) (B := B - t) hs
    have hsm := movedR_sm (m := m) (ds := ds) (os := os) (o := o) (B := B - t) hs
    have hf := movedR_found (m := m) (ds := ds) (os := os) (p := out) (o := o) (B := B - t)
    unfold passG
    generalize movedR m ds os out o (B - t) = x at hst hsm hf ⊢
    split
    · exact ⟨⟨Int.le_refl _, h1, hs⟩, fun h => .inl h⟩
    · split
      · exact passG_found hB hs h0 h1
      · have := passG_found (m := m) (ds := ds) (os := os) hB (l := l) (out := x.1) (t := t + x.2.1) (ch := ch || x.2.2) hsm (by omega) (by omega)
        refine ⟨⟨by omega, this.1.2.1, this.1.2.2⟩, fun q => ?_⟩
        rcases this.2 q with q | q
        · rw [Bool.or_eq_true] at q
          rcases q with q | q
          · exact .inl q
          · have := hf q
            exact .inr (by omega)
        · exact .inr (by omega)
theorem passR_found {m : Mp} {ds : List Drv} {os : List Ord} {p : Pln} {B : Int} (hB : B ≤ 100000) (hp : smP p) : (0 ≤ (passR m ds os p B).2.1 ∧ (passR m ds os p B).2.1 ≤ 1000000 ∧ smP (passR m ds os p B).1) ∧ ((passR m ds os p B).2.2 = true → 1 ≤ (passR m ds os p B).2.1) := by
  have := passG_found (m := m) (ds := ds) (os := os) hB (l := sortO os) (out := p) (t := 0) (ch := false) hp (by decide) (by decide)
  refine ⟨this.1, fun h => ?_⟩
  rcases this.2 h with q | q
  · cases q
  · exact q
noncomputable def repG (m : Mp) (ds : List Drv) (os : List Ord) (B : Int) : Nat → Pln → Int → Int → Bool → Pln × Int × Int
  | 0, out, t, k, _ => (out, t, k)
  | n + 1, out, t, k, ch => if ch = false ∨ t ≥ B then (out, t, k) else repG m ds os B n (passR m ds os out (B - t)).1 (t + (passR m ds os out (B - t)).2.1) (k + 1) (passR m ds os out (B - t)).2.2
noncomputable def repR (m : Mp) (ds : List Drv) (os : List Ord) (p : Pln) (B : Int) : Pln × Int × Int := repG m ds os B (B.toNat + 1) p 0 0 true
noncomputable def isRp (x : Pln × Int × Int) (e : Int) (d : D) : Prop := ∃ q, (q = .imm ∨ ∃ sz, q = .own sz) ∧ d = .tup [.list q (x.1.map rowR), .int .i64 x.2.1, .int .i64 x.2.2, .int .i64 e]
noncomputable def sRp (m : Mp) (ds : List Drv) (os : List Ord) (B : Int) (out : Pln) (t k : Int) (ch : Bool) : DS := ⟨[(0, .gptr 0 0), (1, encDs ds), (2, encOs os), (4, .int .i64 B), (10, .list (.own 0) []), (11, .int .i64 0), (12, .int .i64 0), (13, .int .i64 0), (14, encP out), (15, .int .i64 t), (16, .int .i64 k), (17, .bool ch)], [], [mbox m], mR 1⟩
theorem repG_off {m : Mp} {ds : List Drv} {os : List Ord} {B : Int} {n : Nat} {out : Pln} {t k : Int} {ch : Bool} (h : ch = false ∨ t ≥ B) : repG m ds os B n out t k ch = (out, t, k) := by
  cases n with
  | zero => rfl
  | succ n =>
    unfold repG
    rw [if_pos h]
set_option maxHeartbeats 8000000 in
theorem c_repair_Repair_0 (m : Mp) (hm : okMp m) (ds : List Drv) (os : List Ord) (p : Pln) (B : Int) : Tri Try.prog 11 1 [.gptr 0 0, encDs ds, encOs os, encP p, .int .i64 B] [mbox m] (fun x k => ((askR m ds os p B ∧ isRp (repR m ds os p B) 0 x) ∨ (¬ askR m ds os p B ∧ isRp ([], 0, 0) 1 x)) ∧ k = [mbox m]) := by
  refine Tri.walk2 (L := LT) (c := {n := 56, ko := [10, 11, 12, 13], xf := [34]}) [] [0, 1, 2, 3, 4, 10, 11, 12, 13, 14, 15, 16, 17, 18, 19, 20, 27, 30, 33] hLT hmix Try.func11 rfl rfl ⟨rfl, rfl⟩ (by show 5 ≤ 56; decide) (by first | exact Nat.zero_le _ | exact Nat.le_refl _ | exact Nat.le_succ 1 | decide) ?_
  refine ⟨rfl, (by first | exact Nat.zero_le _ | exact Nat.le_refl _ | exact Nat.le_succ 1 | decide), (c_repair_asked m hm ds os p B (r := 1) (sto := [mbox m]) (Nat.le_refl 1) rfl (Nat.lt_succ_self 0)).mono ?_⟩
  rintro d l ⟨rfl, rfl⟩
  refine ⟨rfl, fun _ _ => rfl, rfl, ?_⟩
  cases h1 : decide (askR m ds os p B) with
  | false =>
    repeat (first | refine And.intro (fun _ => ?_) (fun h => Bool.noConfusion h) | refine And.intro (fun h => Bool.noConfusion h) (fun _ => ?_))
    exact And.intro (.inr ⟨of_decide_eq_false h1, .own 0, .inr ⟨0, rfl⟩, rfl⟩) rfl
  | true =>
  repeat (first | refine And.intro (fun _ => ?_) (fun h => Bool.noConfusion h) | refine And.intro (fun h => Bool.noConfusion h) (fun _ => ?_))
  have h1 := of_decide_eq_true h1
  have hg := makeR_tog h1.1
  have hsp := smP_right hg.2.2.1
  have hB0 := h1.2.1
  have hB1 := h1.2.2
  have hcp := c_plan_Copy p hsp.Q (r := 1) (sto := [mbox m]) (Nat.le_refl 1)
  refine ⟨rfl, Nat.le_refl _, hcp.mono ?_⟩
  rintro x l ⟨⟨sz1, rfl, hsz1⟩, rfl⟩
  refine ⟨rfl, fun _ _ => rfl, rfl, ?_⟩
  show Ok _ _ _ _ _
  refine Ok.loopN hLT hmix [] [0, 1, 2, 3, 4, 10, 11, 12, 13, 14, 15, 16, 17, 18, 19, 20, 27, 30, 33] [0,1,2,4,10,11,12,13,14,15,16,17] [] (fun n s => ∃ (out : Pln) (t k : Int) (ch : Bool), n ≤ B.toNat + 1 ∧ smP out ∧ 0 ≤ t ∧ t ≤ 1200000 ∧ (0 ≤ k ∧ k ≤ (B.toNat : Int) + 1 - n) ∧ (ch = true → (B - t).toNat < n) ∧ repG m ds os B n out t k ch = repR m ds os p B ∧ s = sRp m ds os B out t k ch) (n := (B.toNat + 1)) ⟨p, 0, 0, true, Nat.le_refl _, hsp, by omega, by omega, by omega, fun _ => by omega, rfl, rfl⟩ ?_
  rintro n s ⟨out, t, k, ch, hn, hso, ht0, ht1, hk, hch, hgo, rfl⟩
  cases ch with
  | false =>
    rw [repG_off (.inl rfl)] at hgo
    repeat (first | refine And.intro (fun _ => ?_) (fun h => Bool.noConfusion h) | refine And.intro (fun h => Bool.noConfusion h) (fun _ => ?_))
    exact And.intro (.inl ⟨h1, by rw [← hgo]; exact ⟨.imm, .inl rfl, rfl⟩⟩) rfl
  | true =>
  repeat (first | refine And.intro (fun _ => ?_) (fun h => Bool.noConfusion h) | refine And.intro (fun h => Bool.noConfusion h) (fun _ => ?_))
  refine And.intro (fun h2 => ?_) (fun h2 => ?_)
  · have h2 : t ≥ B := of_decide_eq_true h2
    rw [repG_off (.inr h2)] at hgo
    exact And.intro (.inl ⟨h1, by rw [← hgo]; exact ⟨.imm, .inl rfl, rfl⟩⟩) rfl
  have h2 : ¬ t ≥ B := of_decide_eq_false h2
  have hch := hch rfl
  obtain ⟨n, rfl⟩ : ∃ n', n = n' + 1 := ⟨n - 1, by omega⟩
  unfold repG at hgo
  rw [if_neg (by rintro (h | h); cases h; exact h2 h)] at hgo
  have hwB : IntKind.i64.wrap (B - t) = B - t := wrap64 (by omega) (by omega)
  have hps := c_repair_pass m hm ds (by have := hg.1; omega) os hg.2.1 out hso (IntKind.i64.wrap (B - t)) (by rw [hwB]; omega) (by rw [hwB]; omega) (r := 1) (sto := [mbox m]) (Nat.le_refl 1) rfl (Nat.lt_succ_self 0)
  have hfd := passR_found (m := m) (ds := ds) (os := os) (B := IntKind.i64.wrap (B - t)) (by rw [hwB]; omega) hso
  rw [← hwB] at hgo
  generalize passR m ds os out (IntKind.i64.wrap (B - t)) = x at hps hfd hgo
  obtain ⟨x1, x2, x3⟩ := x
  replace hgo : repG m ds os B n x1 (t + x2) (k + 1) x3 = repR m ds os p B := hgo
  replace hfd : (0 ≤ x2 ∧ x2 ≤ 1000000 ∧ smP x1) ∧ (x3 = true → 1 ≤ x2) := hfd
  have hsx := hfd.1.2.2
  have hfx := hfd.2
  have hwt : IntKind.i64.wrap (t + x2) = t + x2 := wrap64 (by omega) (by omega)
  have hwk : IntKind.i64.wrap (k + 1) = k + 1 := wrap64 (by omega) (by omega)
  refine ⟨rfl, Nat.le_refl _, hps.mono ?_⟩
  rintro x l ⟨⟨q, hq, rfl⟩, rfl⟩
  rcases hq with rfl | ⟨sz, rfl⟩
  · refine ⟨rfl, fun _ _ => rfl, rfl, ?_⟩
    refine ⟨n, by omega, x1, IntKind.i64.wrap (t + x2), IntKind.i64.wrap (k + 1), x3, by omega, hsx, by rw [hwt]; omega, by rw [hwt]; omega, by rw [hwk]; omega, fun q => by have := hfx q; rw [hwt]; omega, by rw [hwt, hwk]; exact hgo, ?_⟩
    rfl
  · refine ⟨rfl, fun _ _ => rfl, rfl, ?_⟩
    refine ⟨n, by omega, x1, IntKind.i64.wrap (t + x2), IntKind.i64.wrap (k + 1), x3, by omega, hsx, by rw [hwt]; omega, by rw [hwt]; omega, by rw [hwk]; omega, fun q => by have := hfx q; rw [hwt]; omega, by rw [hwt, hwk]; exact hgo, ?_⟩
    rfl
end Go.Lv

namespace Go.Lv
open Go.Proofs

noncomputable def diagO (n : Int) (l : List Int) (k : Nat) : Prop := ∀ a, a < k → l.getD (a * n.toNat + a) 0 = 0
noncomputable instance (n : Int) (l : List Int) (k : Nat) : Decidable (diagO n l k) := by unfold diagO; infer_instance
noncomputable def timesO (l : List Int) : Prop := ∀ t, t ∈ l → 0 ≤ t ∧ t ≤ 1000000
noncomputable instance (l : List Int) : Decidable (timesO l) := by unfold timesO; infer_instance
noncomputable def newE (n : Int) (l : List Int) : Int :=
  if n < 1 ∨ n > 12 then 1 else
  if (l.length : Int) ≠ n * n then 2 else
  if ¬ timesO l then 7 else
  if ¬ diagO n l n.toNat then 4 else 0
noncomputable def isNew (n : Int) (l : List Int) (N : Nat) (sto : List Ob) (d : D) (k : List Ob) : Prop := (newE n l = 0 ∧ okMp ⟨n, l⟩ ∧ d = .tup [.gptr N 0, .int .i64 0] ∧ k = sto ++ [mbox ⟨n, l⟩]) ∨ (newE n l ≠ 0 ∧ d = .tup [.nil, .int .i64 (newE n l)] ∧ k = sto)
theorem isNew_no {n : Int} {l : List Int} {N : Nat} {sto : List Ob} {e : Int} (h : newE n l = e) (he : e ≠ 0) : isNew n l N sto (.tup [.nil, .int .i64 e]) sto := .inr ⟨by rw [h]; exact he, by rw [h], rfl⟩
theorem diag_idx {n : Int} {a : Nat} (h1 : 1 ≤ n) (h2 : n ≤ 12) (ha : (a : Int) < n) {len : Nat} (hl : (len : Int) = n * n) : IntKind.i64.wrap (IntKind.i64.wrap ((a : Int) * n) + (a : Int)) = ((a * n.toNat + a : Nat) : Int) ∧ a * n.toNat + a < len := by
  have h5 := idx_lt (n := n) (a := (a : Int)) (b := (a : Int)) (by omega) (by omega) ha ha
  have h8 : n * n ≤ 12 * 12 := Int.mul_le_mul h2 h2 (by omega) (by decide)
  have h9 : ((a * n.toNat + a : Nat) : Int) = (a : Int) * n + a := by
    rw [Int.natCast_add, Int.natCast_mul, Int.toNat_of_nonneg (by omega)]
  have h10 : 0 ≤ (a : Int) * n := Int.mul_nonneg (by omega) (by omega)
  refine ⟨?_, by omega⟩
  rw [wrap64 (z := (a : Int) * n) (by omega) (by omega), wrap64 (by omega) (by omega), h9]
theorem Tri.newAny {P : Program} {f : Nat} {args : List D} {n : Int} {l : List Int} (h : Tri P f 0 args [] (fun d k => isNew n l 0 [] d k)) (ha : args.all cellsOK = true) (hn : nrBL 0 args = true) {r : Nat} {sto : List Ob} (hr : r ≤ sto.length) : Tri P f r args sto (fun d k => isNew n l sto.length sto d k) := by
  have := Tri.ren (r := r) (sto := sto) (fun k => k) h (fun i j hi => by cases hi) (fun i o hi => by simp at hi) (fun i hi => by cases hi) hr ha (fun x hx => nrBL_nr hn x hx) (fun o ho => by cases ho) rfl (fun d' l' hh => by
    rcases hh with ⟨_, _, rfl, rfl⟩ | ⟨_, rfl, rfl⟩
    · exact ⟨rfl, rfl⟩
    · exact ⟨rfl, rfl⟩)
  rw [renL_id _ hn] at this
  refine this.mono fun d k ⟨d1, l1, hh, h3, h4⟩ => ?_
  subst h3 h4
  rcases hh with ⟨h1, h2, rfl, rfl⟩ | ⟨h1, rfl, rfl⟩
  · refine .inl ⟨h1, h2, ?_, ?_⟩
    · show D.tup [.gptr (extR _ 0 sto.length 0) 0, .int .i64 0] = _
      simp [extR]
    · show _ ++ [Ob.box (renL _ (mcs ⟨n, l⟩))] = _
      rw [renL_id _ (nr_mcs _)]
      rfl
  · refine .inr ⟨h1, rfl, ?_⟩
    simp [backSto]

noncomputable def sgeo_New1 (n : Int) (l : List Int) (i : Nat) : DS := ⟨[(0, .int .i64 n), (1, .list .imm (l.map rowI)), (4, .nil), (5, .int .i64 0), (21, .list .imm (l.map rowI)), (22, .int .i64 (l.length : Int)), (23, .int .i64 (i : Int))], [], [], mR 0⟩
noncomputable def sgeo_New2 (n : Int) (l : List Int) (i : Nat) : DS := ⟨[(0, .int .i64 n), (1, .list .imm (l.map rowI)), (4, .nil), (5, .int .i64 0), (34, .int .i64 n), (35, .int .i64 (i : Int))], [], [], mR 0⟩
set_option maxHeartbeats 8000000 in
theorem c_geo_New_0 (n : Int) (l : List Int) (hl : l.length ≤ 1000000000000000) : Tri Try.prog 8 0 [.int .i64 n, .list .imm (l.map rowI)] [] (fun d k => isNew n l 0 [] d k) := by
  refine Tri.walk2 (L := LT) (c := {n := 53, gl := [52], ko := [4, 5]}) [] [0, 1, 4, 5, 7, 8, 14, 20, 21, 22, 23, 24, 32, 34, 35, 36, 46] hLT hmix Try.func8 rfl rfl ⟨rfl, rfl⟩ (by show 2 ≤ 53; decide) (by first | exact Nat.zero_le _ | exact Nat.le_refl _ | exact Nat.le_succ 1 | decide) ?_
  refine And.intro (fun h0 => ?_) (fun h0 => ?_)
  · have h0 : n < 1 := of_decide_eq_true h0
    repeat (first | refine And.intro (fun _ => ?_) (fun h => Bool.noConfusion h) | refine And.intro (fun h => Bool.noConfusion h) (fun _ => ?_))
    exact isNew_no (show newE n l = 1 by unfold newE; rw [if_pos (.inl h0)]) (by decide)
  have h0 : ¬ n < 1 := of_decide_eq_false h0
  repeat (first | refine And.intro (fun _ => ?_) (fun h => Bool.noConfusion h) | refine And.intro (fun h => Bool.noConfusion h) (fun _ => ?_))
  refine And.intro (fun h1 => ?_) (fun h1 => ?_)
  · have h1 : n > 12 := of_decide_eq_true h1
    repeat (first | refine And.intro (fun _ => ?_) (fun h => Bool.noConfusion h) | refine And.intro (fun h => Bool.noConfusion h) (fun _ => ?_))
    exact isNew_no (show newE n l = 1 by unfold newE; rw [if_pos (.inr h1)]) (by decide)
  have h1 : ¬ n > 12 := of_decide_eq_false h1
  repeat (first | refine And.intro (fun _ => ?_) (fun h => Bool.noConfusion h) | refine And.intro (fun h => Bool.noConfusion h) (fun _ => ?_))
  have hnn : n * n ≤ 12 * 12 := Int.mul_le_mul (by omega) (by omega) (by omega) (by decide)
  have hn0 : 0 ≤ n * n := Int.mul_nonneg (by omega) (by omega)
  have hwm : IntKind.i64.wrap (n * n) = n * n := wrap64 (by omega) (by omega)
  have hi0 : ¬ (n < 1 ∨ n > 12) := by omega
  refine And.intro (fun h2 => ?_) (fun h2 => ?_)
  · have h2 : ¬ ((l.map rowI).length : Int) = IntKind.i64.wrap (n * n) := nd_true h2
    rw [List.length_map, hwm] at h2
    exact isNew_no (show newE n l = 2 by unfold newE; rw [if_neg hi0, if_pos h2]) (by decide)
  have h2 : ((l.map rowI).length : Int) = IntKind.i64.wrap (n * n) := nd_false h2
  rw [List.length_map, hwm] at h2
  show Ok _ _ _ _ _
  refine Ok.loopN hLT hmix [] [0, 1, 4, 5, 7, 8, 14, 20, 21, 22, 23, 24, 32, 34, 35, 36, 46] [0,1,4,5,21,22,23] [] (fun k s => ∃ i : Nat, k = l.length - i ∧ i ≤ l.length ∧ timesO (l.take i) ∧ s = sgeo_New1 n l i) (n := l.length) ⟨0, rfl, Nat.zero_le _, (fun t ht => by simp at ht), by unfold sgeo_New1; rw [← List.length_map (f := rowI)]; rfl⟩ ?_
  rintro k s ⟨i, rfl, hi, hti, rfl⟩
  refine And.intro (fun h3 => ?_) (fun h3 => ?_)
  · have h3 : ((i : Nat) : Int) < (l.length : Int) := of_decide_eq_true h3

    have hil : i < l.length := by omega
    have hw := wrap_succ (i := i) (n := l.length) hil hl
    refine ⟨(l).map rowI, rowI ((l)[i]'(by omega)), rfl, by omega, row_at' rowI (l) (by omega) (by omega), rfl, of_decide_eq_true rfl, ?_⟩
    refine And.intro (fun h4 => ?_) (fun h4 => ?_)
    · have h4 : l[i] < 0 := of_decide_eq_true h4
      repeat (first | refine And.intro (fun _ => ?_) (fun h => Bool.noConfusion h) | refine And.intro (fun h => Bool.noConfusion h) (fun _ => ?_))
      exact isNew_no (show newE n l = 7 by unfold newE; rw [if_neg hi0, if_neg (fun h => h h2), if_pos (fun h => by have := h l[i] (List.getElem_mem _); omega)]) (by decide)
    have h4 : ¬ l[i] < 0 := of_decide_eq_false h4
    repeat (first | refine And.intro (fun _ => ?_) (fun h => Bool.noConfusion h) | refine And.intro (fun h => Bool.noConfusion h) (fun _ => ?_))
    
    refine And.intro (fun h5 => ?_) (fun h5 => ?_)
    · have h5 : l[i] > 1000000 := of_decide_eq_true h5
      repeat (first | refine And.intro (fun _ => ?_) (fun h => Bool.noConfusion h) | refine And.intro (fun h => Bool.noConfusion h) (fun _ => ?_))
      exact isNew_no (show newE n l = 7 by unfold newE; rw [if_neg hi0, if_neg (fun h => h h2), if_pos (fun h => by have := h l[i] (List.getElem_mem _); omega)]) (by decide)
    have h5 : ¬ l[i] > 1000000 := of_decide_eq_false h5
    repeat (first | refine And.intro (fun _ => ?_) (fun h => Bool.noConfusion h) | refine And.intro (fun h => Bool.noConfusion h) (fun _ => ?_))
    refine ⟨l.length - (i + 1), by omega, i + 1, rfl, by omega, fun t ht => ?_, ?_⟩
    · rw [List.take_succ_eq_append_getElem hil] at ht
      rcases List.mem_append.1 ht with ht | ht
      · exact hti t ht
      · rw [List.mem_singleton.1 ht]
        omega
    · unfold sgeo_New1
      rw [← hw]
      rfl
  have h3 : ¬ ((i : Nat) : Int) < (l.length : Int) := of_decide_eq_false h3

  rw [List.take_of_length_le (by omega)] at hti
  show Ok _ _ _ _ _
  refine Ok.loopN hLT hmix [] [0, 1, 4, 5, 7, 8, 14, 20, 21, 22, 23, 24, 32, 34, 35, 36, 46] [0,1,4,5,34,35] [] (fun k s => ∃ i : Nat, k = n.toNat - i ∧ i ≤ n.toNat ∧ diagO n l i ∧ s = sgeo_New2 n l i) (n := n.toNat) ⟨0, rfl, Nat.zero_le _, (fun a ha => absurd ha (Nat.not_lt_zero _)), rfl⟩ ?_
  rintro k s ⟨i, rfl, hi, hdi, rfl⟩
  refine And.intro (fun h3 => ?_) (fun h3 => ?_)
  · have h3 : ((i : Nat) : Int) < n := of_decide_eq_true h3
    have hw := wrap_succ (i := i) (n := n.toNat) (by omega) (by omega)
    obtain ⟨q1, q2⟩ := diag_idx (a := i) (by omega) (by omega) h3 h2
    refine ⟨(l).map rowI, rowI ((l)[i * n.toNat + i]'q2), rfl, by rw [q1]; exact Int.natCast_nonneg _, row_at' rowI l q1 q2, rfl, of_decide_eq_true rfl, ?_⟩
    have hgd : l.getD (i * n.toNat + i) 0 = l[i * n.toNat + i] := by rw [List.getD_eq_getElem?_getD, List.getElem?_eq_getElem q2]; rfl
    refine And.intro (fun h4 => ?_) (fun h4 => ?_)
    · have h4 := nd_true h4
      exact isNew_no (show newE n l = 4 by unfold newE; rw [if_neg hi0, if_neg (fun h => h h2), if_neg (fun h => h hti), if_pos (fun h => h4 (by rw [← hgd]; exact h i (by omega)))]) (by decide)
    have h4 := nd_false h4
    refine ⟨n.toNat - (i + 1), by omega, i + 1, rfl, by omega, fun a ha => ?_, ?_⟩
    · rcases Nat.lt_or_ge a i with h | h
      · exact hdi a h
      · rw [show a = i by omega, hgd]
        exact h4
    · unfold sgeo_New2
      rw [← hw]
      rfl
  have h3 : ¬ ((i : Nat) : Int) < n := of_decide_eq_false h3
  have hdn : diagO n l n.toNat := by rw [show n.toNat = i by omega]; exact hdi
  have hnew : newE n l = 0 := by unfold newE; rw [if_neg hi0, if_neg (fun h => h h2), if_neg (fun h => h hti), if_neg (fun h => h hdn)]
  have hok : okMp ⟨n, l⟩ := ⟨by show 1 ≤ n; omega, by show n ≤ 12; omega, h2, hti⟩
  have hrm : (0 + (l.map rowI).length) * 8 ≤ 140737488355328 := by rw [List.length_map]; omega
  have hal : allLen 1 (l.map rowI) = true := by simp [allLen, rowI]
  refine And.intro trivial (And.intro rfl (And.intro hrm (And.intro hal ?_)))
  exact .inl ⟨hnew, hok, rfl, rfl⟩
theorem c_geo_New (n : Int) (l : List Int) (hl : l.length ≤ 1000000000000000) {r : Nat} {sto : List Ob} (hr : r ≤ sto.length) : Tri Try.prog 8 r [.int .i64 n, .list .imm (l.map rowI)] sto (fun d k => isNew n l sto.length sto d k) :=
  (c_geo_New_0 n l hl).newAny rfl (by show (true && (nrBLL 0 (l.map rowI) && true)) = true; rw [nrBLL_I]; rfl) hr

end Go.Lv

namespace Go.Lv
open Go.Proofs

noncomputable def mq : Mp := ⟨2, [0, 5, 7, 0]⟩
noncomputable def oq1 : Ord := ⟨1, 3, ⟨0, ⟨2, 9⟩, 1⟩, ⟨1, ⟨0, 20⟩, 2⟩⟩
noncomputable def oq2 : Ord := ⟨2, 1, ⟨0, ⟨0, 100⟩, 1⟩, ⟨1, ⟨0, 100⟩, 2⟩⟩
noncomputable def dq1 : Drv := ⟨4, 4, 1, ⟨1, 30⟩, false⟩
noncomputable def dq2 : Drv := ⟨5, 4, 0, ⟨1, 30⟩, false⟩
noncomputable def pq0 : Pln := [⟨4, 0, [⟨1, false⟩, ⟨1, true⟩]⟩, ⟨5, 0, [⟨2, false⟩, ⟨2, true⟩]⟩]
noncomputable def pq1 : Pln := [⟨4, 0, []⟩, ⟨5, 0, [⟨1, false⟩, ⟨2, false⟩, ⟨1, true⟩, ⟨2, true⟩]⟩]
set_option maxHeartbeats 4000000 in
theorem r0_make : (makeR mq [dq1, dq2] [oq1, oq2] pq0).2.2 = 0 := by kernel_rfl
set_option maxHeartbeats 4000000 in
theorem r0_total : totP mq [dq1, dq2] [oq1, oq2] pq0 = 17 := by kernel_rfl
set_option maxHeartbeats 4000000 in
theorem r0_pass : passR mq [dq1, dq2] [oq1, oq2] pq0 100 = (pq1, 14, true) := by kernel_rfl
set_option maxHeartbeats 4000000 in
theorem r0_rep : repR mq [dq1, dq2] [oq1, oq2] pq0 100 = (pq1, 28, 2) := by kernel_rfl
set_option maxHeartbeats 4000000 in
theorem r0_rep0 : repR mq [dq1, dq2] [oq1, oq2] pq0 0 = (pq0, 0, 0) := by kernel_rfl
theorem r0_new : newE 2 [0, 5, 7, 0] = 0 := by kernel_rfl
end Go.Lv

namespace Go.Lv
open Go.Proofs

theorem newQ {d : D} {k : List Ob} (h : isNew 2 [0, 5, 7, 0] 0 [] d k) : d = .tup [.gptr 0 0, .int .i64 0] ∧ k = [mbox mq] := by
  rcases h with ⟨_, _, h1, h2⟩ | ⟨h, _⟩
  · exact ⟨h1, h2⟩
  · exact absurd r0_new h
theorem okMq : okMp mq := by
  constructor
  · decide
  · decide
  · rfl
  · intro x hx
    have hx : x ∈ [(0 : Int), 5, 7, 0] := hx
    simp only [List.mem_cons, List.not_mem_nil, or_false] at hx
    rcases hx with rfl | rfl | rfl | rfl <;> decide
theorem askQ (B : Int) (h0 : 0 ≤ B) (h1 : B ≤ 100000) : askR mq [dq1, dq2] [oq1, oq2] pq0 B := ⟨r0_make, h0, h1⟩
theorem totQ : totalD mq [dq1, dq2] [oq1, oq2] pq0 = .tup [.int .i64 17, .bool true] := by
  unfold totalD
  rw [if_pos r0_make, r0_total]
theorem PassQ : PassR mq [dq1, dq2] [oq1, oq2] pq0 100 = (pq1, 14, 0) := by
  unfold PassR
  rw [if_pos (askQ 100 (by decide) (by decide)), r0_pass]
theorem PassQn : PassR mq [dq1, dq2] [oq1, oq2] pq0 (-1) = ([], 0, 1) := by
  unfold PassR
  rw [if_neg (fun h => absurd h.2.1 (by decide))]
theorem szq0 : szP pq0 := ⟨by decide, fun r hr => by
  have hr : r ∈ [(⟨4, 0, [⟨1, false⟩, ⟨1, true⟩]⟩ : Rte), ⟨5, 0, [⟨2, false⟩, ⟨2, true⟩]⟩] := hr
  simp only [List.mem_cons, List.not_mem_nil, or_false] at hr
  rcases hr with rfl | rfl <;> (show (2 : Nat) ≤ _; decide)⟩
theorem szq1 : szP pq1 := ⟨by decide, fun r hr => by
  have hr : r ∈ [(⟨4, 0, []⟩ : Rte), ⟨5, 0, [⟨1, false⟩, ⟨2, false⟩, ⟨1, true⟩, ⟨2, true⟩]⟩] := hr
  simp only [List.mem_cons, List.not_mem_nil, or_false] at hr
  rcases hr with rfl | rfl
  · show (0 : Nat) ≤ _; decide
  · show (4 : Nat) ≤ _; decide⟩
set_option maxHeartbeats 8000000 in
theorem c_Runs_1 : Tri Try.prog 3 0 [] [] (fun d k => d = .bool true ∧ k = [mbox mq]) := by
  refine Tri.walk2 (L := LT) (c := {n := 192, ko := [0], xf := [79, 88, 98, 108]}) [] [0, 1, 2, 3, 4, 5, 6, 7, 8, 9, 10, 11, 12, 13, 14, 15, 16, 17, 18, 19, 20, 21, 22, 25, 55, 163] hLT hmix Try.func3 rfl rfl ⟨rfl, rfl⟩ (by show 0 ≤ 192; decide) (by first | exact Nat.zero_le _ | exact Nat.le_refl _ | exact Nat.le_succ 1 | decide) ?_
  have hnw := c_geo_New 2 [0, 5, 7, 0] (by decide) (r := 0) (sto := []) (Nat.le_refl 0)
  refine ⟨rfl, Nat.le_refl _, hnw.mono ?_⟩
  intro d l hh
  obtain ⟨rfl, rfl⟩ := newQ hh
  refine ⟨rfl, fun k hk => absurd hk (Nat.not_lt_zero k), rfl, ?_⟩
  repeat (first | refine And.intro (fun _ => ?_) (fun h => Bool.noConfusion h) | refine And.intro (fun h => Bool.noConfusion h) (fun _ => ?_))
  refine ⟨⟨255, [0, 0, 3, 0, 0, 24, 7, 127], [1, 2, 7, 8, 16, 56, 71, 255]⟩, by kernel_rfl, ?_⟩
  refine (fun (hrest : _) => And.intro (by
      refine And.intro (by repeat (first | exact trivial | refine And.intro ⟨rfl, rfl⟩ ?_)) ?_
      refine And.intro (by
        refine And.intro (by repeat (first | exact trivial | refine And.intro ⟨rfl, rfl⟩ ?_)) ?_
        refine And.intro ?_ trivial
        refine And.intro (by repeat (first | exact trivial | refine And.intro ⟨rfl, rfl⟩ ?_)) ?_
        refine And.intro ?_ trivial
        refine And.intro (by repeat (first | exact trivial | refine And.intro ⟨rfl, rfl⟩ ?_)) ?_
        exact hrest) (And.intro (by
        refine And.intro (by repeat (first | exact trivial | refine And.intro ⟨rfl, rfl⟩ ?_)) ?_
        refine And.intro ?_ trivial
        refine And.intro (by repeat (first | exact trivial | refine And.intro ⟨rfl, rfl⟩ ?_)) ?_
        refine And.intro ?_ trivial
        refine And.intro (by repeat (first | exact trivial | refine And.intro ⟨rfl, rfl⟩ ?_)) ?_
        exact hrest) trivial)) (And.intro (by
      refine And.intro (by repeat (first | exact trivial | refine And.intro ⟨rfl, rfl⟩ ?_)) ?_
      refine And.intro ?_ trivial
      refine And.intro (by repeat (first | exact trivial | refine And.intro ⟨rfl, rfl⟩ ?_)) ?_
      refine And.intro ?_ trivial
      refine And.intro (by repeat (first | exact trivial | refine And.intro ⟨rfl, rfl⟩ ?_)) ?_
      refine And.intro ?_ trivial
      refine And.intro (by repeat (first | exact trivial | refine And.intro ⟨rfl, rfl⟩ ?_)) ?_
      exact hrest) trivial)) ?_
  have ht := c_repair_Total mq okMq [dq1, dq2] [oq1, oq2] pq0 (r := 1) (b := 0) (sto := [mbox mq]) (Nat.le_refl 1) rfl (by decide)
  rw [totQ] at ht
  refine ⟨rfl, (by first | exact Nat.zero_le _ | exact Nat.le_refl _ | exact Nat.le_succ 1 | decide), (ht).mono ?_⟩
  rintro d l ⟨rfl, rfl⟩
  refine ⟨rfl, fun _ _ => rfl, rfl, ?_⟩
  have hp1 := c_repair_Pass_0 mq okMq [dq1, dq2] [oq1, oq2] pq0 100
  rw [PassQ] at hp1
  have hr1 := (c_repair_Repair_0 mq okMq [dq1, dq2] [oq1, oq2] pq0 100).mono (R' := fun x k => isRp (pq1, 28, 2) 0 x ∧ k = [mbox mq]) (fun x k h => ⟨by
    rcases h.1 with h | h
    · rw [← r0_rep]; exact h.2
    · exact absurd (askQ 100 (by decide) (by decide)) h.1, h.2⟩)
  have hr2 := (c_repair_Repair_0 mq okMq [dq1, dq2] [oq1, oq2] pq0 0).mono (R' := fun x k => isRp (pq0, 0, 0) 0 x ∧ k = [mbox mq]) (fun x k h => ⟨by
    rcases h.1 with h | h
    · rw [← r0_rep0]; exact h.2
    · exact absurd (askQ 0 (by decide) (by decide)) h.1, h.2⟩)
  have hp2 := c_repair_Pass_0 mq okMq [dq1, dq2] [oq1, oq2] pq0 (-1)
  rw [PassQn] at hp2
  refine ⟨rfl, Nat.zero_le _, (hp1).mono ?_⟩
  rintro x l ⟨⟨q, hq, rfl⟩, rfl⟩
  rcases hq with rfl | ⟨sz, rfl⟩
  all_goals
    refine ⟨rfl, fun _ _ => rfl, rfl, ?_⟩
    refine ⟨rfl, Nat.zero_le _, (hr1).mono ?_⟩
    rintro x l ⟨⟨q, hq, rfl⟩, rfl⟩
    rcases hq with rfl | ⟨sz, rfl⟩
    all_goals
      refine ⟨rfl, fun _ _ => rfl, rfl, ?_⟩
      refine ⟨rfl, Nat.zero_le _, (hr2).mono ?_⟩
      rintro x l ⟨⟨q, hq, rfl⟩, rfl⟩
      rcases hq with rfl | ⟨sz, rfl⟩
      all_goals
        refine ⟨rfl, fun _ _ => rfl, rfl, ?_⟩
        refine ⟨rfl, Nat.zero_le _, (hp2).mono ?_⟩
        rintro x l ⟨⟨q, hq, rfl⟩, rfl⟩
        rcases hq with rfl | ⟨sz, rfl⟩
        all_goals
          refine ⟨rfl, fun _ _ => rfl, rfl, ?_⟩
          repeat (first | refine And.intro (fun _ => ?_) (fun h => Bool.noConfusion h) | refine And.intro (fun h => Bool.noConfusion h) (fun _ => ?_))
          refine ⟨_, _, rfl, by decide, rfl, rfl, of_decide_eq_true rfl, ?_⟩
          repeat (first | refine And.intro (fun _ => ?_) (fun h => Bool.noConfusion h) | refine And.intro (fun h => Bool.noConfusion h) (fun _ => ?_))
          refine ⟨_, _, rfl, by decide, rfl, rfl, of_decide_eq_true rfl, ?_⟩
          refine ⟨rfl, (by first | exact Nat.zero_le _ | exact Nat.le_refl _ | exact Nat.le_succ 1 | decide), (c_draybook_Same_Stop [⟨1, false⟩, ⟨2, false⟩, ⟨1, true⟩, ⟨2, true⟩] [⟨1, false⟩, ⟨2, false⟩, ⟨1, true⟩, ⟨2, true⟩] (by decide) (by decide) (r := 1) (sto := [mbox mq]) (Nat.le_refl 1)).mono ?_⟩
          rintro d l ⟨rfl, rfl⟩
          refine ⟨rfl, fun _ _ => rfl, rfl, ?_⟩
          repeat (first | refine And.intro (fun _ => ?_) (fun h => Bool.noConfusion h) | refine And.intro (fun h => Bool.noConfusion h) (fun _ => ?_))
          refine ⟨rfl, (by first | exact Nat.zero_le _ | exact Nat.le_refl _ | exact Nat.le_succ 1 | decide), (c_draykeep_Routes pq1 pq1 szq1 szq1 (r := 1) (sto := [mbox mq]) (Nat.le_refl 1)).mono ?_⟩
          rintro d l ⟨rfl, rfl⟩
          refine ⟨rfl, fun _ _ => rfl, rfl, ?_⟩
          repeat (first | refine And.intro (fun _ => ?_) (fun h => Bool.noConfusion h) | refine And.intro (fun h => Bool.noConfusion h) (fun _ => ?_))
          refine ⟨rfl, (by first | exact Nat.zero_le _ | exact Nat.le_refl _ | exact Nat.le_succ 1 | decide), (c_draykeep_Routes pq0 pq0 szq0 szq0 (r := 1) (sto := [mbox mq]) (Nat.le_refl 1)).mono ?_⟩
          rintro d l ⟨rfl, rfl⟩
          refine ⟨rfl, fun _ _ => rfl, rfl, ?_⟩
          repeat (first | refine And.intro (fun _ => ?_) (fun h => Bool.noConfusion h) | refine And.intro (fun h => Bool.noConfusion h) (fun _ => ?_))
          exact And.intro rfl rfl
end Go.Lv

namespace Go.Lv
open Go.Proofs
theorem tRuns : Tri Try.prog 3 0 [] [] (fun d l => d = .bool true ∧ l = []) :=
  Tri.forget c_Runs_1 (fun d l h _ => ⟨0, Nat.zero_le _, Nat.zero_le _, by rw [h.1]; exact .bool _, fun o ho => absurd ho (by simp), h.1, rfl⟩)
end Go.Lv
