/-
  A32: a run with fuel of loaded code on data, and that what it answers is so.
-/
import Derived.Test.YtpfoccpolaggiaaA31
set_option linter.all false
namespace Go.Lv

/-- An answer, or where there is none. -/
inductive Rz (α : Type) where
  | ok (a : α)
  | no (why : List Nat)
def Rz.at {α : Type} (k : List Nat) : Rz α → Rz α
  | .ok a => .ok a
  | .no w => .no (k ++ w)

/-- A function's settings. -/
structure FS where
  gl : List Nat := []
  ko : List Nat := []
  kb : List Nat := []
  xf : List Nat := []
  fs : List Nat := []
  pu : Bool := true
def FS.fc (x : FS) (n : Nat) : FC := ⟨n, x.gl, x.ko, x.kb, x.xf, x.fs⟩

abbrev Caller := Nat → Nat → List D → List Ob → Rz (D × List Ob)

/-- What an evaluation goes by: the table of types, the functions' settings, how often a loop may go round, the functions that are known otherwise. -/
structure Ev where
  L : Ly
  S : List (Nat × FS) := []
  F : Nat := 1000
  hk : Nat → St → DS → Oper → Option (Rz DS) := fun _ _ _ _ => none

def Ev.fs (E : Ev) (f : Nat) : FS := match lk f E.S with | some x => x | none => {}

mutual
def nrB (k : Nat) : D → Bool
  | .gptr j _ => decide (j < k)
  | .map j => decide (j < k)
  | .fn _ ds => nrBL k ds
  | .list _ xs => nrBLL k xs
  | .agg cs => nrBL k cs
  | .tup cs => nrBL k cs
  | .int _ _ | .bool _ | .str _ | .nil | .nilmap | .nilfn | .dead => true
  | _ => false
def nrBL (k : Nat) : List D → Bool
  | [] => true
  | d :: r => nrB k d && nrBL k r
def nrBLL (k : Nat) : List (List D) → Bool
  | [] => true
  | d :: r => nrBL k d && nrBLL k r
end
mutual
theorem nrB_nr {k : Nat} : ∀ {d : D}, nrB k d = true → NR k d
  | .gptr j _, h => .gptr _ _ (by simpa [nrB] using h)
  | .map j, h => .map _ (by simpa [nrB] using h)
  | .fn _ ds, h => .fn _ _ (nrBL_nr (by simpa [nrB] using h))
  | .list _ xs, h => .list _ _ (nrBLL_nr (by simpa [nrB] using h))
  | .agg cs, h => .agg _ (nrBL_nr (by simpa [nrB] using h))
  | .tup cs, h => .tup _ (nrBL_nr (by simpa [nrB] using h))
  | .int _ _, _ => .int _ _
  | .bool _, _ => .bool _
  | .str _, _ => .str _
  | .nil, _ => .nil
  | .nilmap, _ => .nilmap
  | .nilfn, _ => .nilfn
  | .dead, _ => .dead
  | .lptr _ _ _, h => by simp [nrB] at h
  | .eptr _ _ _ _ _, h => by simp [nrB] at h
  | .stamp _ _ _, h => by simp [nrB] at h
theorem nrBL_nr {k : Nat} : ∀ {ds : List D}, nrBL k ds = true → ∀ d, d ∈ ds → NR k d
  | [], _ => fun d hd => nomatch hd
  | x :: r, h => by
    intro d hd
    simp only [nrBL, Bool.and_eq_true] at h
    rcases List.mem_cons.1 hd with e | hd
    · rw [e]; exact nrB_nr h.1
    · exact nrBL_nr h.2 d hd
theorem nrBLL_nr {k : Nat} : ∀ {ds : List (List D)}, nrBLL k ds = true → ∀ r, r ∈ ds → ∀ d, d ∈ r → NR k d
  | [], _ => fun r hr => nomatch hr
  | x :: r, h => by
    intro d hd
    simp only [nrBLL, Bool.and_eq_true] at h
    rcases List.mem_cons.1 hd with e | hd
    · rw [e]; exact nrBL_nr h.1
    · exact nrBLL_nr h.2 d hd
end
def nrO (k : Nat) : Ob → Bool
  | .box cs => nrBL k cs
  | .map _ => true
theorem nrO_nr {k : Nat} {o : Ob} (h : nrO k o = true) : NRo k o := by
  cases o with
  | box cs => exact nrBL_nr h
  | map es => exact trivial

/-- A call that gives its arguments away. -/
def evGive (call : Caller) (T : St) (s : DS) (dst : Option Nat) (f r : Nat) (ds caps : List D) (s1 : DS) : Rz DS :=
  match call r f (ds ++ caps) s.sto with
  | .no w => .no w
  | .ok (d, sto') =>
    if partsOK d && (sto'.drop r).all boxOK then
      match put T.c dst d (afterC s1 r ds sto') with
      | some s2 => .ok s2
      | none => .no [2]
    else .no [3]
/-- A call that is lent its arguments. -/
def evLend (call : Caller) (T : St) (s : DS) (dst : Option Nat) (f : Nat) (ds : List D) : Rz DS :=
  match call s.sto.length f ds s.sto with
  | .no w => .no w
  | .ok (d, sto') =>
    if sto'.length == s.sto.length && flatT d then
      match put T.c dst (unlD s.m.ep d) s with
      | some s2 => .ok s2
      | none => .no [4]
    else .no [5]
def isNilL {α : Type} : List α → Bool
  | [] => true
  | _ => false
def evCall (E : Ev) (call : Caller) (T : St) (s : DS) (dst : Option Nat) (f : Nat) (caps : List D) (args : List Operand) : Rz DS :=
  match takeL s args with
  | none => .no [6]
  | some (ds, s1) =>
    if (E.fs f).pu && (ds.all cellsOK && stoOK T.ro s.sto.length s.sto) && decide (T.ro ≤ s.sto.length) then evGive call T s dst f s.sto.length ds caps s1
    else if (E.fs f).pu && (isNilL caps && (s.sto.drop T.ro).all boxSt) then
      match lendL s args with
      | some ds => evLend call T s dst f ds
      | none => .no [7]
    else if ds.all cellsOK && stoOK T.ro T.ro s.sto then evGive call T s dst f T.ro ds caps s1
    else .no [8]

def evOp (E : Ev) (call : Caller) (T : St) (s : DS) (o : Oper) : Rz DS :=
  match o.op with
  | .call { callee := .value x, args, argTypes } => match lookO s x with
    | some (.fn f caps) => match E.hk f T s o with
      | some r => r
      | none => (evCall E call T s o.dst f caps args.toList).at [f]
    | _ => .no [9]
  | _ => match opD T.L T.c T.ro s o with
    | some s1 => .ok s1
    | none => .no [10]

def evStep (E : Ev) (call : Caller) (T : St) (ops : Array Oper) (i : Nat) (s : DS) : Rz DS :=
  match ops[i]? with
  | none => .no [11]
  | some o => match wantD ops s o with
    | some true => (evOp E call T s o).at [i]
    | some false => match put T.c o.dst (.tup []) s with
      | some s1 => .ok s1
      | none => .no [i, 12]
    | none => .no [i, 13]

def evOps (E : Ev) (call : Caller) (T : St) (ops : Array Oper) : List Nat → DS → Rz DS
  | [], s => .ok s
  | i :: r, s => match evStep E call T ops i s with
    | .ok s1 => evOps E call T ops r s1
    | .no w => .no w

/-- All that may be read ahead. -/
def readPass (T : St) (ops : Array Oper) : List Nat → List Nat → List Nat → DS → List Nat × List Nat × List Nat × DS
  | [], L, V, s => ([], L, V, s)
  | i :: r, L, V, s => match dstOf ops i with
    | none => readPass T ops r L V s
    | some t => if !L.contains i && rdy ops L i && aloneK ops i && !ownAt t s.env then
        match roV T ops s i with
        | some d => match readPass T ops r (i :: L) (i :: V) (putS t d s) with
          | (is, x) => (i :: is, x)
        | none => readPass T ops r L V s
      else readPass T ops r L V s
def optEq : Option D → D → Bool
  | some x, y => dEq x y
  | none, _ => false
def stillB (T : St) (ops : Array Oper) (V : List Nat) (s s1 : DS) : Bool :=
  V.all fun i => match dstOf ops i with
    | none => true
    | some t => match roV T ops s i with
      | some d => optEq (roV T ops s1 i) d && optEq (lk t s1.env) d
      | none => true
def allIn (n : Nat) (L : List Nat) : Bool := (List.range n).all L.contains
def evDraw (E : Ev) (call : Caller) (T : St) (ops : Array Oper) : Nat → Nat → List Nat → List Nat → DS → Rz DS
  | 0, _, _, _, _ => .no [14]
  | m + 1, n, L, V, s => match readPass T ops (List.range ops.size) L V s with
    | (is, L1, V1, s1) =>
      if allIn ops.size L1 && decide (is.length ≤ n) then .ok s1 else
      match (List.range ops.size).filter (fun j => !L1.contains j && rdy ops L1 j) with
      | [j] => if is.length + 1 ≤ n then
          match evStep E call T ops j s1 with
          | .no w => .no w
          | .ok s2 =>
            if stillB T ops (V1.filter fun i => !waits ops j i) s1 s2 then evDraw E call T ops m (n - (is.length + 1)) (j :: L1) (V1.filter fun i => !waits ops j i) s2
            else .no [j, 15]
        else .no [16]
      | js => .no (17 :: js)

def evIter (body : DS → Rz (Ex × DS)) : Nat → DS → Rz (Ex × DS)
  | 0, _ => .no [18]
  | n + 1, s => match body s with
    | .ok (.nx, s1) => evIter body n s1
    | .ok (x, s1) => .ok (x, s1)
    | .no w => .no w
def Ex.unblk (id : Nat) : Ex → Ex
  | .out id' => if id' = id then .nx else .out id'
  | x => x
def rzOut : Rz (Ex × DS) → (Ex → Ex) → Rz (Ex × DS)
  | .ok (x, s), f => .ok (f x, s)
  | .no w, _ => .no w
def rzNx : Rz DS → Rz (Ex × DS)
  | .ok s => .ok (.nx, s)
  | .no w => .no w
def evC (E : Ev) (call : Caller) (T : St) : Code → DS → Rz (Ex × DS)
  | .skip, s => .ok (.nx, s)
  | .label _, s => .ok (.nx, s)
  | .exit id, s => .ok (.out id, s)
  | .ret, s => .ok (.ret, s)
  | .seq x y, s => match evC E call T x s with
    | .ok (.nx, s1) => evC E call T y s1
    | r => r
  | .cond c x y, s => match lookO s c with
    | some (.bool true) => evC E call T x s
    | some (.bool false) => evC E call T y s
    | _ => .no [19]
  | .block id c, s => rzOut (evC E call T c s) (Ex.unblk id)
  | .loop c, s => evIter (evC E call T c) E.F s
  | .region id ops false, s => (rzNx (evOps E call T ops (List.range ops.size) s)).at [id]
  | .region id ops true, s => if wfK ops then (rzNx (evDraw E call T ops (ops.size + 1) ops.size [] [] s)).at [id] else .no [id, 20]
  | _, s => .no [21]

/-- What only reads leaves nothing that is led to: it is forgotten. -/
def forgetD (pu : Bool) (n : Nat) (d : D) (l : List Ob) : D × List Ob :=
  if pu && decide (n < l.length) && nrB n d && (l.take n).all (nrO n) then (d, l.take n) else (d, l)

def evF (P : Program) (E : Ev) : Nat → Caller
  | 0 => fun _ _ _ _ => .no [22]
  | n + 1 => fun r f args sto => match P.funcs[f]? with
    | none => .no [f, 23]
    | some fn => match fn.body with
      | none => .no [f, 24]
      | some code =>
        if !(fn.name == "runtime.NumGoroutine") && decide (args.length ≤ fn.ntmps) && decide (r ≤ sto.length) then
          match evC E (evF P E n) ⟨E.L, (E.fs f).fc fn.ntmps, r, sto.length⟩ code (s0 r args sto) with
          | .no w => .no w
          | .ok (.out _, _) => .no [25]
          | .ok (_, s1) => match resD E.L r s1 fn.results.toList with
            | some (d, s2) => .ok (forgetD (E.fs f).pu sto.length d s2.sto)
            | none => .no [26]
        else .no [27]

/-! ### What it answers is so -/
section
variable {P : Program} {E : Ev} {T : St} {call : Caller} {s s' s1 : DS} {o : Oper} {ops : Array Oper}

/-- A caller that may be trusted. -/
def CallOk (P : Program) (call : Caller) : Prop :=
  ∀ r f args sto d sto', call r f args sto = .ok (d, sto') → Tri P f r args sto (fun d' l => d' = d ∧ l = sto') ∧ Pre r sto sto'
structure EvOk (P : Program) (E : Ev) : Prop where
  L : LyOK P E.L
  m : P.follows .mixedOrders = true
  hk : ∀ f T s o s' x args tys caps, T.L = E.L → T.ro ≤ s.sto.length → o.op = .call { callee := .value x, args := args, argTypes := tys } → lookO s x = some (.fn f caps) → E.hk f T s o = some (.ok s') → OpOk P T o s (fun s1 => s1 = s') ∧ Pre T.ro s.sto s'.sto

theorem evGive_ok (hc : CallOk P call) {x : Operand} {args : Array Operand} {tys : Array TypeId} (ho : o.op = .call { callee := .value x, args, argTypes := tys }) {f r : Nat} {caps ds : List D}
    (hx : lookO s x = some (.fn f caps)) (ht : takeL s args.toList = some (ds, s1)) (hds : ds.all cellsOK = true) (hok : stoOK T.ro r s.sto = true) (hr : T.ro ≤ r) (h : evGive call T s o.dst f r ds caps s1 = .ok s') :
    OpOk P T o s (fun s2 => s2 = s') ∧ Pre T.ro s.sto s'.sto := by
  unfold evGive at h
  split at h
  · cases h
  · rename_i d sto' hcall
    obtain ⟨h1, h2⟩ := hc _ _ _ _ _ _ hcall
    split at h
    · rename_i hp
      simp only [Bool.and_eq_true] at hp
      split at h
      · rename_i s2 hput
        cases h
        refine ⟨OpOk.call ho hx ht hds hok hr h1 fun d' l hd hl => ?_, ?_⟩
        · obtain ⟨rfl, rfl⟩ := hd
          exact ⟨hp.1, h2.2, hp.2, _, hput, rfl⟩
        · rw [put_sto hput]
          exact h2.mono hr
      · cases h
    · cases h

theorem evCall_ok (hc : CallOk P call) {x : Operand} {args : Array Operand} {tys : Array TypeId} (ho : o.op = .call { callee := .value x, args, argTypes := tys }) {f : Nat} {caps : List D}
    (hx : lookO s x = some (.fn f caps)) (h : evCall E call T s o.dst f caps args.toList = .ok s') : OpOk P T o s (fun s2 => s2 = s') ∧ Pre T.ro s.sto s'.sto := by
  unfold evCall at h
  split at h
  · cases h
  · rename_i ds s1 ht
    split at h
    · rename_i hg
      simp only [Bool.and_eq_true, decide_eq_true_eq] at hg
      exact evGive_ok hc ho hx ht hg.1.2.1 hg.1.2.2 hg.2 h
    · split at h
      · rename_i hg
        simp only [Bool.and_eq_true] at hg
        split at h
        · rename_i ds' hl
          unfold evLend at h
          split at h
          · cases h
          · rename_i d sto' hcall
            obtain ⟨h1, h2⟩ := hc _ _ _ _ _ _ hcall
            split at h
            · rename_i hp
              simp only [Bool.and_eq_true, beq_iff_eq] at hp
              split at h
              · rename_i s2 hput
                cases h
                have hcaps : caps = [] := by cases caps with | nil => rfl | cons a b => simp [isNilL] at hg
                subst hcaps
                refine ⟨OpOk.callL ho hx hl hg.2.2 h1 fun d' l hd => ?_, ?_⟩
                · obtain ⟨rfl, rfl⟩ := hd
                  refine ⟨?_, hp.2, _, hput, rfl⟩
                  apply List.ext_getElem?
                  intro k
                  by_cases hk : k < s.sto.length
                  · exact h2.2 k hk
                  · rw [List.getElem?_eq_none (by omega), List.getElem?_eq_none (by omega)]
                · rw [put_sto hput]
                  exact Pre.refl _ _
              · cases h
            · cases h
        · cases h
      · split at h
        · rename_i hg
          simp only [Bool.and_eq_true] at hg
          exact evGive_ok hc ho hx ht hg.1 hg.2 (Nat.le_refl _) h
        · cases h

theorem at_ok {α : Type} {k : List Nat} {x : Rz α} {a : α} (h : x.at k = .ok a) : x = .ok a := by
  cases x with
  | ok b => exact h
  | no w => cases h

theorem evOp_ok (H : EvOk P E) (hc : CallOk P call) (hL : T.L = E.L) (hl : T.ro ≤ s.sto.length) (h : evOp E call T s o = .ok s') : OpOk P T o s (fun s2 => s2 = s') ∧ Pre T.ro s.sto s'.sto := by
  unfold evOp at h
  split at h
  · rename_i x args tys ho
    split at h
    · rename_i f caps hx
      split at h
      · rename_i r hr
        subst h
        exact H.hk f T s o s' x args tys caps hL hl ho hx hr
      · exact evCall_ok hc ho hx (at_ok h)
    · cases h
  · split at h
    · rename_i s1 h1
      cases h
      exact ⟨OpOk.op (by rw [hL]; exact H.L) h1 rfl, opD_pre h1 hl⟩
    · cases h

theorem evStep_ok (H : EvOk P E) (hc : CallOk P call) (hL : T.L = E.L) (hl : T.ro ≤ s.sto.length) {i : Nat} (h : evStep E call T ops i s = .ok s') : stepOk P T ops i s (fun s2 => s2 = s') ∧ Pre T.ro s.sto s'.sto := by
  unfold evStep at h
  unfold stepOk
  cases ho : ops[i]? with
  | none => rw [ho] at h; cases h
  | some o =>
    rw [ho] at h
    simp only at h ⊢
    cases hw : wantD ops s o with
    | none => rw [hw] at h; cases h
    | some b =>
      rw [hw] at h
      cases b with
      | true => exact evOp_ok H hc hL hl (at_ok h)
      | false =>
        simp only at h ⊢
        cases hp : put T.c o.dst (.tup []) s with
        | none => rw [hp] at h; cases h
        | some s2 =>
          rw [hp] at h
          cases h
          exact ⟨rfl, Pre.of_eq (put_sto hp)⟩

theorem evOps_ok (H : EvOk P E) (hc : CallOk P call) (hL : T.L = E.L) : ∀ {l : List Nat} {s : DS}, T.ro ≤ s.sto.length → evOps E call T ops l s = .ok s' → OpsOk P T ops l s (fun s2 => s2 = s') ∧ Pre T.ro s.sto s'.sto
  | [], s, _, h => by
    simp [evOps] at h
    subst h
    exact ⟨rfl, Pre.refl _ _⟩
  | i :: r, s, hl, h => by
    simp only [evOps] at h
    split at h
    · rename_i s1 h1
      obtain ⟨q1, q2⟩ := evStep_ok H hc hL hl h1
      obtain ⟨q3, q4⟩ := evOps_ok H hc hL (Nat.le_trans hl q2.1) h
      refine ⟨?_, q2.trans q4⟩
      unfold stepOk at q1
      simp only [OpsOk]
      cases ho : ops[i]? with
      | none => rw [ho] at q1; exact q1.elim
      | some o =>
        rw [ho] at q1
        simp only at q1 ⊢
        cases hw : wantD ops s o with
        | none => rw [hw] at q1; exact q1.elim
        | some b =>
          rw [hw] at q1
          cases b with
          | true => exact OpOk.mono q1 fun s2 h2 => by subst h2; exact q3
          | false =>
            simp only at q1 ⊢
            cases hp : put T.c o.dst (.tup []) s with
            | none => rw [hp] at q1; exact q1.elim
            | some s2 => rw [hp] at q1; simp only at q1 ⊢; subst q1; exact q3
    · cases h

theorem readPass_ahead : ∀ {l L V : List Nat} {s : DS} {is L1 V1 : List Nat} {s1 : DS}, readPass T ops l L V s = (is, L1, V1, s1) → aheadD T ops is L V s = some (L1, V1, s1) ∧ s1.sto = s.sto
  | [], L, V, s, is, L1, V1, s1, h => by
    simp only [readPass, Prod.mk.injEq] at h
    obtain ⟨rfl, rfl, rfl, rfl⟩ := h
    exact ⟨rfl, rfl⟩
  | i :: r, L, V, s, is, L1, V1, s1, h => by
    simp only [readPass] at h
    split at h
    · exact readPass_ahead h
    · rename_i t ht
      split at h
      · rename_i hg
        split at h
        · rename_i d hd
          cases hx : readPass T ops r (i :: L) (i :: V) (putS t d s) with
          | mk is' x =>
          rw [hx] at h
          cases h
          obtain ⟨q1, q2⟩ := readPass_ahead hx
          refine ⟨?_, q2⟩
          simp only [aheadD, ht, if_pos hg, hd]
          exact q1
        · exact readPass_ahead h
      · exact readPass_ahead h

theorem optEq_eq {x : Option D} {y : D} (h : optEq x y = true) : x = some y := by
  cases x with
  | none => cases h
  | some z => rw [dEq_eq (show dEq z y = true from h)]
theorem stillB_ok {V : List Nat} (h : stillB T ops V s s1 = true) : stillV T ops V s s1 := by
  intro i hi t d ht hd hlk
  have := List.all_eq_true.1 h i hi
  rw [ht] at this
  simp only [hd, Bool.and_eq_true] at this
  exact ⟨optEq_eq this.1, optEq_eq this.2⟩
theorem stepOk.mono {j : Nat} {K K' : DS → Prop} (h : stepOk P T ops j s K) (hk : ∀ s, K s → K' s) : stepOk P T ops j s K' := by
  unfold stepOk at h ⊢
  cases ho : ops[j]? with
  | none => rw [ho] at h; exact h.elim
  | some o =>
    rw [ho] at h
    simp only at h ⊢
    cases hw : wantD ops s o with
    | none => rw [hw] at h; exact h.elim
    | some b =>
      rw [hw] at h
      cases b with
      | true => exact OpOk.mono h hk
      | false =>
        simp only at h ⊢
        cases hp : put T.c o.dst (.tup []) s with
        | none => rw [hp] at h; exact h.elim
        | some s2 => rw [hp] at h; exact hk _ h

theorem evDraw_ok (H : EvOk P E) (hc : CallOk P call) (hL : T.L = E.L) : ∀ {m n : Nat} {L V : List Nat} {s : DS}, T.ro ≤ s.sto.length → evDraw E call T ops m n L V s = .ok s' → Sch P T ops n L V s (fun s2 => s2 = s') ∧ Pre T.ro s.sto s'.sto
  | 0, n, L, V, s, _, h => by cases h
  | m + 1, n, L, V, s, hl, h => by
    simp only [evDraw] at h
    obtain ⟨is, L1, V1, s1, hp⟩ : ∃ is L1 V1 s1, readPass T ops (List.range ops.size) L V s = (is, L1, V1, s1) := ⟨_, _, _, _, rfl⟩
    rw [hp] at h
    simp only at h
    obtain ⟨q1, q2⟩ := readPass_ahead hp
    split at h
    · rename_i hg
      cases h
      simp only [Bool.and_eq_true, decide_eq_true_eq] at hg
      refine ⟨?_, Pre.of_eq q2⟩
      obtain ⟨f, rfl⟩ : ∃ f, n = f + is.length := ⟨n - is.length, by omega⟩
      refine Sch.ahead q1 (Sch.done (fun k hk => ?_) rfl)
      exact List.contains_iff_mem.1 (List.all_eq_true.1 hg.1 k (List.mem_range.2 hk))
    · split at h
      · rename_i j hj
        have hj' : ∀ k, k < ops.size → (L1.contains k = false ∧ rdy ops L1 k = true) → k = j := fun k hk h2 => by
          have : k ∈ (List.range ops.size).filter (fun j => !L1.contains j && rdy ops L1 j) := List.mem_filter.2 ⟨List.mem_range.2 hk, by rw [h2.1, h2.2]; rfl⟩
          rw [hj] at this
          simpa using this
        have hjm : j ∈ (List.range ops.size).filter (fun j => !L1.contains j && rdy ops L1 j) := by rw [hj]; simp
        obtain ⟨hj1, hj2⟩ := List.mem_filter.1 hjm
        simp only [Bool.and_eq_true, Bool.not_eq_true'] at hj2
        split at h
        · rename_i hn
          split at h
          · cases h
          · rename_i s2 hs2
            obtain ⟨q3, q4⟩ := evStep_ok H hc hL (by rw [q2]; exact hl) hs2
            split at h
            · rename_i hst
              obtain ⟨q5, q6⟩ := evDraw_ok H hc hL (Nat.le_trans (by rw [q2]; exact hl) q4.1) h
              refine ⟨?_, (Pre.of_eq q2).trans (q4.trans q6)⟩
              obtain ⟨f, rfl⟩ : ∃ f, n = (f + 1) + is.length := ⟨n - (is.length + 1), by omega⟩
              rw [show f + 1 + is.length - (is.length + 1) = f by omega] at q5
              refine Sch.ahead q1 (Sch.step1 (List.mem_range.1 hj1) (fun hm => ?_) (List.all_eq_true.2 fun k hk => ?_) (q3.mono fun s3 h3 => ?_))
              · rw [List.contains_iff_mem.2 hm] at hj2
                cases hj2.1
              · by_cases hk2 : L1.contains k = false ∧ rdy ops L1 k = true
                · simp [hj' k (List.mem_range.1 hk) hk2]
                · cases h5 : L1.contains k with
                  | true => rfl
                  | false =>
                    cases h6 : rdy ops L1 k with
                    | true => exact absurd ⟨h5, h6⟩ hk2
                    | false => simp
              · subst h3
                exact ⟨stillB_ok hst, q5⟩
            · cases h
        · cases h
      · cases h

theorem rzNx_ok {x : Rz DS} {y : Ex × DS} (h : rzNx x = .ok y) : y.1 = .nx ∧ x = .ok y.2 := by
  cases x with
  | ok s => cases h; exact ⟨rfl, rfl⟩
  | no w => cases h

theorem evC_ok (H : EvOk P E) (hc : CallOk P call) (hL : T.L = E.L) : ∀ {c : Code} {s : DS} {y : Ex × DS}, T.ro ≤ s.sto.length → evC E call T c s = .ok y → Ok P T c s (fun x s2 => x = y.1 ∧ s2 = y.2) ∧ Pre T.ro s.sto y.2.sto := by
  intro c
  induction c with
  | skip => intro s y _ h; simp [evC] at h; subst h; exact ⟨Ok.skip ⟨rfl, rfl⟩, Pre.refl _ _⟩
  | label l => intro s y _ h; simp [evC] at h; subst h; exact ⟨Ok.label ⟨rfl, rfl⟩, Pre.refl _ _⟩
  | exit id => intro s y _ h; simp [evC] at h; subst h; exact ⟨Ok.exit ⟨rfl, rfl⟩, Pre.refl _ _⟩
  | ret => intro s y _ h; simp [evC] at h; subst h; exact ⟨Ok.ret ⟨rfl, rfl⟩, Pre.refl _ _⟩
  | seq c1 c2 ih1 ih2 =>
    intro s y hl h
    simp only [evC] at h
    split at h
    · rename_i s1 h1
      obtain ⟨q1, q2⟩ := ih1 hl h1
      obtain ⟨q3, q4⟩ := ih2 (Nat.le_trans hl q2.1) h
      refine ⟨Ok.seq (q1.mono fun x s2 hx => ?_), q2.trans q4⟩
      obtain ⟨rfl, rfl⟩ := hx
      exact q3
    · rename_i hne
      obtain ⟨q1, q2⟩ := ih1 hl h
      refine ⟨Ok.seq (q1.mono fun x s2 hx => ?_), q2⟩
      obtain ⟨rfl, rfl⟩ := hx
      obtain ⟨x, s2⟩ := y
      cases x with
      | nx => exact absurd h (hne s2)
      | out id => exact ⟨rfl, rfl⟩
      | ret => exact ⟨rfl, rfl⟩
  | cond co c1 c2 ih1 ih2 =>
    intro s y hl h
    simp only [evC] at h
    split at h
    · rename_i hb
      obtain ⟨q1, q2⟩ := ih1 hl h
      exact ⟨Ok.condT hb q1, q2⟩
    · rename_i hb
      obtain ⟨q1, q2⟩ := ih2 hl h
      exact ⟨Ok.condF hb q1, q2⟩
    · cases h
  | block id c ih =>
    intro s y hl h
    simp only [evC] at h
    cases hb : evC E call T c s with
    | no w => rw [hb] at h; cases h
    | ok z =>
      obtain ⟨x, s2⟩ := z
      rw [hb] at h
      cases h
      obtain ⟨q1, q2⟩ := ih hl hb
      refine ⟨Ok.block (q1.mono fun x' s3 hx => ?_), q2⟩
      obtain ⟨rfl, rfl⟩ := hx
      cases x' with
      | nx => exact ⟨rfl, rfl⟩
      | ret => exact ⟨rfl, rfl⟩
      | out id' =>
        simp only [Ex.blk, Ex.unblk]
        by_cases e : id' = id
        · simp [e]
        · simp [e]
  | loop c ih =>
    intro s y hl h
    simp only [evC] at h
    have hpre : ∀ (n : Nat) (s : DS), T.ro ≤ s.sto.length → evIter (evC E call T c) n s = .ok y → Pre T.ro s.sto y.2.sto := by
      intro n
      induction n with
      | zero => intro s _ h; cases h
      | succ n ihn =>
        intro s hl h
        simp only [evIter] at h
        split at h
        · rename_i s1 h1
          obtain ⟨q1, q2⟩ := ih hl h1
          exact q2.trans (ihn s1 (Nat.le_trans hl q2.1) h)
        · rename_i x s1 _ h1
          cases h
          exact (ih hl h1).2
        · cases h
    refine ⟨?_, hpre _ s hl h⟩
    refine Ok.loop (fun n s => T.ro ≤ s.sto.length ∧ evIter (evC E call T c) n s = .ok y) (n := E.F) ⟨hl, h⟩ ?_
    rintro n s ⟨hl, h⟩
    cases n with
    | zero => cases h
    | succ n =>
      simp only [evIter] at h
      split at h
      · rename_i s1 h1
        obtain ⟨q1, q2⟩ := ih hl h1
        refine q1.mono fun x s2 hx => ?_
        obtain ⟨rfl, rfl⟩ := hx
        exact ⟨n, by omega, Nat.le_trans hl q2.1, h⟩
      · rename_i x s1 hne h1
        cases h
        obtain ⟨q1, q2⟩ := ih hl h1
        refine q1.mono fun x' s2 hx => ?_
        obtain ⟨rfl, rfl⟩ := hx
        cases x' with
        | nx => exact (hne rfl).elim
        | out id => exact ⟨rfl, rfl⟩
        | ret => exact ⟨rfl, rfl⟩
      · cases h
  | region id ops dr =>
    intro s y hl h
    cases dr with
    | false =>
      simp only [evC] at h
      obtain ⟨q1, q2⟩ := rzNx_ok (at_ok h)
      obtain ⟨q3, q4⟩ := evOps_ok H hc hL hl q2
      refine ⟨Ok.region (OpsOk.mono q3 fun s2 h2 => ?_), q4⟩
      subst h2
      exact ⟨q1.symm, rfl⟩
    | true =>
      simp only [evC] at h
      split at h
      · rename_i hwf
        obtain ⟨q1, q2⟩ := rzNx_ok (at_ok h)
        obtain ⟨q3, q4⟩ := evDraw_ok H hc hL hl q2
        refine ⟨(Ok.draw (Q := fun x s2 => x = y.1 ∧ s2 = y.2) (by rw [hL]; exact H.L) H.m hwf ?_), q4⟩
        rw [q1]
        have e : (fun s2 : DS => s2 = y.2) = (fun s2 : DS => Ex.nx = Ex.nx ∧ s2 = y.2) := by funext s2; simp
        rw [← e]
        exact q3
      · cases h
  | _ => intro s y hl h; simp [evC] at h

theorem forgetD_ok {f r : Nat} {args : List D} {sto : List Ob} {d : D} {l : List Ob} {pu : Bool} (h : Tri P f r args sto (fun d' l' => d' = d ∧ l' = l)) : Tri P f r args sto (fun d' l' => d' = (forgetD pu sto.length d l).1 ∧ l' = (forgetD pu sto.length d l).2) := by
  unfold forgetD
  split
  · rename_i hg
    simp only [Bool.and_eq_true, decide_eq_true_eq] at hg
    refine Tri.forget h fun d' l' hd hl => ?_
    obtain ⟨rfl, rfl⟩ := hd
    exact ⟨sto.length, Nat.le_refl _, hl, nrB_nr hg.1.2, fun o ho => nrO_nr (List.all_eq_true.1 hg.2 o ho), rfl, rfl⟩
  · exact h

theorem evF_ok (H : EvOk P E) : ∀ n, CallOk P (evF P E n)
  | 0 => fun r f args sto d sto' h => by cases h
  | n + 1 => fun r f args sto d sto' h => by
    simp only [evF] at h
    split at h
    · cases h
    · rename_i fn hf
      split at h
      · cases h
      · rename_i code hb
        split at h
        · rename_i hg
          simp only [Bool.and_eq_true, Bool.not_eq_true', decide_eq_true_eq] at hg
          have key : ∀ (x : Ex) (s1 s2 : DS) (d1 : D), (∀ id, x ≠ .out id) → evC E (evF P E n) ⟨E.L, (E.fs f).fc fn.ntmps, r, sto.length⟩ code (s0 r args sto) = .ok (x, s1) → resD E.L r s1 fn.results.toList = some (d1, s2) → forgetD (E.fs f).pu sto.length d1 s2.sto = (d, sto') → Tri P f r args sto (fun d' l => d' = d ∧ l = sto') ∧ Pre r sto sto' := by
            intro x s1 s2 d1 hx h1 h2 h3
            obtain ⟨q1, q2⟩ := evC_ok (T := ⟨E.L, (E.fs f).fc fn.ntmps, r, sto.length⟩) H (evF_ok H n) rfl (s := s0 r args sto) hg.2 h1
            have q3 : Tri P f r args sto (fun d' l => d' = d1 ∧ l = s2.sto) := by
              refine Tri.of_ok (L := E.L) (c := (E.fs f).fc fn.ntmps) H.L hf hb hg.1.1 rfl hg.1.2 hg.2 (q1.mono fun x' s3 hx' => ?_)
              obtain ⟨rfl, rfl⟩ := hx'
              cases x' with
              | out id => exact (hx id rfl).elim
              | nx => exact ⟨d1, s2, h2, rfl, rfl⟩
              | ret => exact ⟨d1, s2, h2, rfl, rfl⟩
            have q4 := forgetD_ok (pu := (E.fs f).pu) q3
            rw [h3] at q4
            refine ⟨q4, ?_⟩
            have q5 : Pre r sto s2.sto := by rw [resD_sto h2]; exact q2
            unfold forgetD at h3
            split at h3
            · rename_i hg2
              cases h3
              simp only [Bool.and_eq_true, decide_eq_true_eq] at hg2
              refine ⟨by rw [List.length_take]; omega, fun k hk => ?_⟩
              rw [List.getElem?_take_of_lt (by omega)]
              exact q5.2 k hk
            · cases h3
              exact q5
          split at h
          · cases h
          · cases h
          · rename_i x s1 hne h1
            split at h
            · rename_i d1 s2 h2
              cases hq : forgetD (E.fs f).pu sto.length d1 s2.sto with
              | mk d2 l2 =>
                rw [hq] at h
                cases h
                exact key x s1 s2 d1 (fun id e => hne id e) h1 h2 hq
            · cases h
        · cases h
end

end Go.Lv
