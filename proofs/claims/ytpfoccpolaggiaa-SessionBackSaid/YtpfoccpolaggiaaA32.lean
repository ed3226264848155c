/-
  A32: a run with fuel of loaded code on data, and that what it answers is so.
-/
import Derived.Test.YtpfoccpolaggiaaE31
set_option linter.all false
namespace Go.Lv

/-- An answer, or where there is none. -/
inductive Rz (α : Type) where
  | ok (a : α)
  | no (why : List Nat)
noncomputable def Rz.at {α : Type} (k : List Nat) : Rz α → Rz α
  | .ok a => .ok a
  | .no w => .no (k ++ w)

/-- A function's settings. -/
structure FS where
  gl : List Nat := []
  ko : List Nat := []
  kb : List Nat := []
  xf : List Nat := []
  fs : List Nat := []
  oa : List Nat := []
  pu : Bool := true
  ld : Bool := true
  lv : List Nat := []
noncomputable def FS.fc (x : FS) (n : Nat) : FC := ⟨n, x.gl, x.ko, x.kb, x.xf, x.fs, []⟩

abbrev Caller := Nat → Nat → List D → List Ob → Rz (D × List Ob)

/-- What an evaluation goes by: the table of types, the functions' settings, how often a loop may go round, the functions that are known otherwise. -/
structure Ev where
  L : Ly
  S : List (Nat × FS) := []
  F : Nat := 1000
  hk : Nat → St → DS → Oper → Option (Rz DS) := fun _ _ _ _ => none
  sp : Nat → Option Caller := fun _ => none

noncomputable def Ev.fs (E : Ev) (f : Nat) : FS := match lk f E.S with | some x => x | none => {}

mutual
noncomputable def nrB (k : Nat) : D → Bool
  | .gptr j _ => decide (j < k)
  | .map j => decide (j < k)
  | .fn _ ds => nrBL k ds
  | .list _ xs => nrBLL k xs
  | .agg cs => nrBL k cs
  | .tup cs => nrBL k cs
  | .int _ _ | .bool _ | .str _ | .nil | .nilmap | .nilfn | .dead => true
  | _ => false
noncomputable def nrBL (k : Nat) : List D → Bool
  | [] => true
  | d :: r => nrB k d && nrBL k r
noncomputable def nrBLL (k : Nat) : List (List D) → Bool
  | [] => true
  | d :: r => nrBL k d && nrBLL k r
end
mutual
theorem nrB_nr {k : Nat} : ∀ {d : D}, nrB k d = true → NR k d
  | .gptr j _, h => .gptr _ _ (by simpa [nrB] using h)
  | .map j, h => .map _ (by simpa [nrB] using h)
  | .fn _ ds, h => .fn _ _ (nrBL_nr (by simpa [nrB] using h))
  | .list _ xs, h => .list _ _ (nrBLL_nr (by simpa [nrB] using h))
  | .agg cs, h => .agg _ (nrBL_nr (by simpa [nrB] using h))
  | .tup cs, h => .tup _ (nrBL_nr (by simpa [nrB] using h))
  | .int _ _, _ => .int _ _
  | .bool _, _ => .bool _
  | .str _, _ => .str _
  | .nil, _ => .nil
  | .nilmap, _ => .nilmap
  | .nilfn, _ => .nilfn
  | .dead, _ => .dead
  | .lptr _ _ _, h => by simp [nrB] at h
  | .eptr _ _ _ _ _, h => by simp [nrB] at h
  | .stamp _ _ _, h => by simp [nrB] at h
theorem nrBL_nr {k : Nat} : ∀ {ds : List D}, nrBL k ds = true → ∀ d, d ∈ ds → NR k d
  | [], _ => fun d hd => nomatch hd
  | x :: r, h => by
    intro d hd
    simp only [nrBL, Bool.and_eq_true] at h
    rcases List.mem_cons.1 hd with e | hd
    · rw [e]; exact nrB_nr h.1
    · exact nrBL_nr h.2 d hd
theorem nrBLL_nr {k : Nat} : ∀ {ds : List (List D)}, nrBLL k ds = true → ∀ r, r ∈ ds → ∀ d, d ∈ r → NR k d
  | [], _ => fun r hr => nomatch hr
  | x :: r, h => by
    intro d hd
    simp only [nrBLL, Bool.and_eq_true] at h
    rcases List.mem_cons.1 hd with e | hd
    · rw [e]; exact nrBL_nr h.1
    · exact nrBLL_nr h.2 d hd
end
noncomputable def nrO (k : Nat) : Ob → Bool
  | .box cs => nrBL k cs
  | .map _ => true
theorem nrO_nr {k : Nat} {o : Ob} (h : nrO k o = true) : NRo k o := by
  cases o with
  | box cs => exact nrBL_nr h
  | map es => exact trivial

/-- A call that gives its arguments away. -/
noncomputable def evGive (call : Caller) (T : St) (s : DS) (dst : Option Nat) (f r : Nat) (ds caps : List D) (s1 : DS) : Rz DS :=
  match call r f (ds ++ caps) s.sto with
  | .no w => .no w
  | .ok (d, sto') =>
    if partsOK d && (sto'.drop r).all boxOK then
      match put T.c dst d (afterC s1 r ds sto') with
      | some s2 => .ok s2
      | none => .no [2]
    else .no [3]
/-- A call that is lent its arguments. -/
noncomputable def evLend (call : Caller) (T : St) (s : DS) (dst : Option Nat) (f : Nat) (ds : List D) : Rz DS :=
  match call s.sto.length f ds s.sto with
  | .no w => .no w
  | .ok (d, sto') =>
    if sto'.length == s.sto.length && flatT d then
      match put T.c dst (unlD s.m.ep d) s with
      | some s2 => .ok s2
      | none => .no [4]
    else .no [5]
noncomputable def isNilL {α : Type} : List α → Bool
  | [] => true
  | _ => false
noncomputable def evCall (E : Ev) (call : Caller) (T : St) (s : DS) (dst : Option Nat) (f : Nat) (caps : List D) (args : List Operand) : Rz DS :=
  match takeL s args with
  | none => .no [6]
  | some (ds0, s1) =>
    let ds := frzA (E.fs f).oa 0 ds0
    if (E.fs f).pu && (ds.all cellsOK && stoOK T.ro s.sto.length s.sto) && decide (T.ro ≤ s.sto.length) then evGive call T s dst f s.sto.length ds caps s1
    else if (E.fs f).pu && ((E.fs f).ld && (isNilL caps && (s.sto.drop T.ro).all boxSt)) then
      match lendL s args with
      | some ds => evLend call T s dst f ds
      | none => .no [7]
    else if ds.all cellsOK && stoOK T.ro T.ro s.sto then evGive call T s dst f T.ro ds caps s1
    else .no [8]

noncomputable def evOp (E : Ev) (call : Caller) (T : St) (s : DS) (o : Oper) : Rz DS :=
  match o.op with
  | .call { callee := .value x, args, argTypes } => match lookO s x with
    | some (.fn f caps) => match E.hk f T s o with
      | some r => r
      | none => (evCall E call T s o.dst f caps args.toList).at [f]
    | _ => .no [9]
  | _ => match opE T.L T.c T.ro s o with
    | some s1 => .ok s1
    | none => .no [10]

noncomputable def evStep (E : Ev) (call : Caller) (T : St) (ops : Array Oper) (i : Nat) (s : DS) : Rz DS :=
  match ops[i]? with
  | none => .no [11]
  | some o => match wantD ops s o with
    | some true => (evOp E call T s o).at [i]
    | some false => match put T.c o.dst (.tup []) s with
      | some s1 => .ok s1
      | none => .no [i, 12]
    | none => .no [i, 13]

noncomputable def evOps (E : Ev) (call : Caller) (T : St) (ops : Array Oper) : List Nat → DS → Rz DS
  | [], s => .ok s
  | i :: r, s => match evStep E call T ops i s with
    | .ok s1 => evOps E call T ops r s1
    | .no w => .no w

/-! Lists of numbers as sets of bits (for the kernel's sake alone). -/
noncomputable def mskL (l : List Nat) : Nat := List.rec (motive := fun _ => Nat) 0 (fun x _ ih => Nat.lor (Nat.shiftLeft 1 x) ih) l
noncomputable def hasB (l : List Nat) (i : Nat) : Bool := Nat.beq (Nat.mod (Nat.shiftRight (mskL l) i) 2) 1
theorem hasB_bit (l : List Nat) (i : Nat) : hasB l i = (mskL l).testBit i := by
  rw [Nat.testBit_eq_decide_div_mod_eq]
  show Nat.beq ((mskL l >>> i) % 2) 1 = _
  rw [Nat.shiftRight_eq_div_pow]
  cases h : Nat.beq (mskL l / 2 ^ i % 2) 1 with
  | true => rw [decide_eq_true (Nat.eq_of_beq_eq_true h)]
  | false => rw [decide_eq_false (Nat.ne_of_beq_eq_false h)]
theorem mskL_bit : ∀ (l : List Nat) (i : Nat), (mskL l).testBit i = l.contains i
  | [], i => by
    show (0 : Nat).testBit i = _
    simp
  | x :: r, i => by
    show (1 <<< x ||| mskL r).testBit i = _
    rw [Nat.testBit_or, mskL_bit r i, List.contains_cons, Nat.one_shiftLeft, Nat.testBit_two_pow]
    congr 1
    by_cases h : x = i
    · rw [decide_eq_true h]; simp [h]
    · rw [decide_eq_false h]
      have : ¬ i = x := fun e => h e.symm
      simp [this]
theorem hasB_eq (l : List Nat) (i : Nat) : hasB l i = l.contains i := by rw [hasB_bit, mskL_bit]
noncomputable def depO (ops : Array Oper) (k : Nat) : Option Nat := match ops[k]? with
  | some o => some (mskL ((o.after.toList.filter fun e => Region.binds .any e).map (·.on)))
  | none => none
noncomputable def rdyF (ops : Array Oper) (L : List Nat) (k : Nat) : Bool := match depO ops k with
  | some d => Nat.beq (Nat.land d (mskL L)) d
  | none => false
theorem land_mskL (l L : List Nat) : Nat.beq (Nat.land (mskL l) (mskL L)) (mskL l) = l.all L.contains := by
  have key : (mskL l &&& mskL L = mskL l) ↔ ∀ x, x ∈ l → L.contains x = true := by
    constructor
    · intro h x hx
      have h1 : (mskL l).testBit x = true := by rw [mskL_bit]; exact List.contains_iff_mem.2 hx
      rw [← h, Nat.testBit_and, mskL_bit, mskL_bit] at h1
      simp only [Bool.and_eq_true] at h1
      exact h1.2
    · intro h
      refine Nat.eq_of_testBit_eq fun i => ?_
      rw [Nat.testBit_and, mskL_bit, mskL_bit]
      cases hc : l.contains i with
      | false => rfl
      | true => rw [h i (List.contains_iff_mem.1 hc)]; rfl
  cases hb : Nat.beq (Nat.land (mskL l) (mskL L)) (mskL l) with
  | true => exact (List.all_eq_true.2 (key.1 (Nat.eq_of_beq_eq_true hb))).symm
  | false =>
    cases ha : l.all L.contains with
    | false => rfl
    | true => exact absurd (key.2 (List.all_eq_true.1 ha)) (Nat.ne_of_beq_eq_false hb)
theorem rdyF_eq (ops : Array Oper) (L : List Nat) (k : Nat) : rdyF ops L k = rdy ops L k := by
  unfold rdyF rdy depO
  cases ops[k]? with
  | none => rfl
  | some o =>
    show Nat.beq (Nat.land (mskL _) (mskL L)) (mskL _) = _
    rw [land_mskL]
    show _ = o.after.all fun e => !Region.binds .any e || L.contains e.on
    rw [← Array.all_toList]
    generalize o.after.toList = l
    induction l with
    | nil => rfl
    | cons e r ih =>
      rw [List.filter_cons]
      cases hb : Region.binds .any e with
      | true =>
        simp only [if_true, List.map_cons, List.all_cons, ih, hb, Bool.not_true, Bool.false_or]
      | false =>
        simp only [List.all_cons, hb, Bool.not_false, Bool.true_or, Bool.true_and]
        exact ih
noncomputable def dropF (ops : Array Oper) (j : Nat) (V : List Nat) : List Nat := V.filter fun i => !hasB (befF ops (List.range j).reverse [j]) i
theorem dropF_eq (ops : Array Oper) (j : Nat) (V : List Nat) : dropF ops j V = dropB ops j V := by
  unfold dropF dropB
  congr 1
  funext i
  rw [hasB_eq]
/-- All that may be read ahead. -/
noncomputable def readPass (T : St) (ops : Array Oper) : List Nat → List Nat → List Nat → DS → List Nat × List Nat × List Nat × DS
  | [], L, V, s => ([], L, V, s)
  | i :: r, L, V, s => match dstOf ops i with
    | none => readPass T ops r L V s
    | some t => if !hasB L i && rdyF ops L i && aloneK ops i && !ownAt t s.env then
        match roV T ops s i with
        | some d => match readPass T ops r (i :: L) (i :: V) (putS t d s) with
          | (is, x) => (i :: is, x)
        | none => readPass T ops r L V s
      else readPass T ops r L V s
noncomputable def optEq : Option D → D → Bool
  | some x, y => dEq x y
  | none, _ => false
noncomputable def stillB (T : St) (ops : Array Oper) (V : List Nat) (s s1 : DS) : Bool :=
  V.all fun i => match dstOf ops i with
    | none => true
    | some t => match roV T ops s i with
      | some d => optEq (roV T ops s1 i) d && optEq (lk t s1.env) d
      | none => true
noncomputable def allIn (n : Nat) (L : List Nat) : Bool := (List.range n).all (hasB L)

/-- A state of a region under way: what is done or read ahead, what may be only read ahead. -/
structure PS where
  L : List Nat
  V : List Nat
  s : DS

noncomputable def mEq : List (D × D) → List (D × D) → Bool
  | [], [] => true
  | (a, b) :: x, (c, d) :: y => dEq a c && dEq b d && mEq x y
  | _, _ => false
noncomputable def obEq : Ob → Ob → Bool
  | .box a, .box b => dEqL a b
  | .map a, .map b => mEq a b
  | _, _ => false
noncomputable def obEqs : List Ob → List Ob → Bool
  | [], [] => true
  | x :: xs, y :: ys => obEq x y && obEqs xs ys
  | _, _ => false
noncomputable def optEqL : Option (List D) → List D → Bool
  | some x, y => dEqL x y
  | none, _ => false
noncomputable def joinM (m m' : Mt) : Mt := ⟨Cn.max m.vr m'.vr, Cn.max m.lv m'.lv, Cn.max m.al m'.al, max m.era m'.era, max m.ep m'.ep, m.ro⟩
noncomputable def isListD : D → Bool
  | .list _ _ => true
  | .dead => true
  | _ => false
noncomputable def joinC (a b : D) : Option D := if dEq a b then some a else if isListD a && isListD b then some .dead else none
noncomputable def joinL : List D → List D → Option (List D)
  | [], [] => some []
  | a :: x, b :: y => match joinC a b, joinL x y with
    | some c, some r => some (c :: r)
    | _, _ => none
  | _, _ => none
noncomputable def joinLoc (l l' : List (Nat × List D)) : List (Nat × List D) → List (Nat × List D)
  | [] => []
  | x :: r => match lk x.1 l, lk x.1 l' with
    | some a, some b => match joinL a b with
      | some c => (x.1, c) :: joinLoc l l' r
      | none => joinLoc l l' r
    | _, _ => joinLoc l l' r
/-- What two states have alike. -/
noncomputable def joinS (s s' : DS) : DS := ⟨s.env.filter fun x => optEq (lk x.1 s'.env) x.2 && optEq (lk x.1 s.env) x.2, joinLoc s.loc s'.loc s.loc, s.sto, joinM s.m s'.m⟩
noncomputable def sameSet (L L' : List Nat) : Bool := Nat.beq (mskL L) (mskL L')
noncomputable def joinP (T : St) (ops : Array Oper) (p q : PS) : Option PS :=
  let r := joinS p.s q.s
  if obEqs p.s.sto q.s.sto && decide (p.s.m.ro = q.s.m.ro) && stillB T ops p.V p.s r && stillB T ops q.V q.s r then some ⟨p.L, p.V ++ q.V, r⟩ else none
noncomputable def mergeIn (T : St) (ops : Array Oper) (p : PS) : List PS → Option (List PS)
  | [] => some [p]
  | q :: r => if sameSet p.L q.L then match joinP T ops p q with
      | some x => some (x :: r)
      | none => none
    else match mergeIn T ops p r with
      | some r' => some (q :: r')
      | none => none
noncomputable def readP (T : St) (ops : Array Oper) (p : PS) : PS := match readPass T ops (List.range ops.size) p.L p.V p.s with
  | (_, L, V, s) => ⟨L, V, s⟩
noncomputable def stepP (E : Ev) (call : Caller) (T : St) (ops : Array Oper) (p : PS) : List Nat → List PS → Rz (List PS)
  | [], acc => .ok acc
  | j :: js, acc => match evStep E call T ops j p.s with
    | .no w => .no w
    | .ok s2 =>
      if stillB T ops (dropF ops j p.V) p.s s2 then
        match mergeIn T ops (readP T ops ⟨j :: p.L, dropF ops j p.V, s2⟩) acc with
        | some acc' => stepP E call T ops p js acc'
        | none => .no [j, 15]
      else .no [j, 16]
noncomputable def readyL (ops : Array Oper) (L : List Nat) : List Nat := (List.range ops.size).filter fun j => !hasB L j && rdyF ops L j
noncomputable def stepAll (E : Ev) (call : Caller) (T : St) (ops : Array Oper) : List PS → List PS → Rz (List PS)
  | [], acc => .ok acc
  | p :: ps, acc => match readyL ops p.L with
    | [] => .no [17]
    | js => match stepP E call T ops p js acc with
      | .no w => .no w
      | .ok acc' => stepAll E call T ops ps acc'
noncomputable def evDag (E : Ev) (call : Caller) (T : St) (ops : Array Oper) : Nat → List PS → Rz DS
  | 0, _ => .no [14]
  | m + 1, ps => match ps with
    | [p] => if allIn ops.size p.L then .ok p.s else match stepAll E call T ops [p] [] with
      | .no w => .no w
      | .ok ps' => evDag E call T ops m ps'
    | ps => match stepAll E call T ops ps [] with
      | .no w => .no w
      | .ok ps' => evDag E call T ops m ps'
noncomputable def evDraw (E : Ev) (call : Caller) (T : St) (ops : Array Oper) (s : DS) : Rz DS := evDag E call T ops (ops.size + 1) [readP T ops ⟨[], [], s⟩]

noncomputable def evIter (body : DS → Rz (Ex × DS)) : Nat → DS → Rz (Ex × DS)
  | 0, _ => .no [18]
  | n + 1, s => match body s with
    | .ok (.nx, s1) => evIter body n s1
    | .ok (x, s1) => .ok (x, s1)
    | .no w => .no w
noncomputable def Ex.unblk (id : Nat) : Ex → Ex
  | .out id' => if id' = id then .nx else .out id'
  | x => x
noncomputable def rzOut : Rz (Ex × DS) → (Ex → Ex) → Rz (Ex × DS)
  | .ok (x, s), f => .ok (f x, s)
  | .no w, _ => .no w
noncomputable def rzNx : Rz DS → Rz (Ex × DS)
  | .ok s => .ok (.nx, s)
  | .no w => .no w
/-- Behind a region only these slots are kept. -/
noncomputable def prune (lv : List Nat) (s : DS) : DS := if isNilL lv then s else { s with env := keep lv s.env }
/-! Values worked out before they are handed on (for the kernel's sake alone). -/
noncomputable def fNat {β : Type} (n : Nat) (k : Nat → β) : β := Nat.rec (motive := fun _ => β) (k 0) (fun p _ => k (p + 1)) n
noncomputable def fSp {α β : Type} (l : List α) : (List α → β) → β := List.rec (motive := fun _ => (List α → β) → β) (fun k => k []) (fun x _ ih k => ih fun r => k (x :: r)) l
noncomputable def fMap {α β : Type} (f : α → (α → β) → β) (l : List α) : (List α → β) → β := List.rec (motive := fun _ => (List α → β) → β) (fun k => k []) (fun x _ ih k => f x fun y => ih fun r => k (y :: r)) l
noncomputable def fPr {β : Type} (x : Nat × List D) (k : Nat × List D → β) : β := fSp x.2 fun cs => k (x.1, cs)
noncomputable def fOb {β : Type} (x : Ob) (k : Ob → β) : β := Ob.rec (motive := fun _ => β) (fun cs => fSp cs fun cs => k (.box cs)) (fun es => fSp es fun es => k (.map es)) x
noncomputable def fCn {β : Type} (c : Cn) (k : Cn → β) : β := fMap (fun (x : Nat × Nat) k => fNat x.2 fun v => k (x.1, v)) c.l fun l => k ⟨l⟩
noncomputable def fMt {β : Type} (m : Mt) (k : Mt → β) : β := fCn m.vr fun vr => fCn m.lv fun lv => fCn m.al fun al => fNat m.era fun era => fNat m.ep fun ep => fNat m.ro fun ro => k ⟨vr, lv, al, era, ep, ro⟩
noncomputable def fDS {β : Type} (s : DS) (k : DS → β) : β := fSp s.env fun env => fMap fPr s.loc fun loc => fMap fOb s.sto fun sto => fMt s.m fun m => k ⟨env, loc, sto, m⟩
theorem fNat_eq {β : Type} (n : Nat) (k : Nat → β) : fNat n k = k n := by cases n <;> rfl
theorem fSp_eq {α β : Type} : ∀ (l : List α) (k : List α → β), fSp l k = k l
  | [], k => rfl
  | x :: r, k => by
    show fSp r (fun r => k (x :: r)) = _
    rw [fSp_eq r]
theorem fMap_eq {α β : Type} {f : α → (α → β) → β} (hf : ∀ x k, f x k = k x) : ∀ (l : List α) (k : List α → β), fMap f l k = k l
  | [], k => rfl
  | x :: r, k => by
    show f x (fun y => fMap f r (fun r => k (y :: r))) = _
    rw [hf, fMap_eq hf r]
theorem fDS_eq {β : Type} (s : DS) (k : DS → β) : fDS s k = k s := by
  have h1 : ∀ {γ : Type} (x : Nat × List D) (k : Nat × List D → γ), fPr x k = k x := fun x k => by unfold fPr; rw [fSp_eq]
  have h2 : ∀ {γ : Type} (x : Ob) (k : Ob → γ), fOb x k = k x := fun x k => by
    cases x with
    | box cs => show fSp cs _ = _; rw [fSp_eq]
    | map es => show fSp es _ = _; rw [fSp_eq]
  have h3 : ∀ {γ : Type} (c : Cn) (k : Cn → γ), fCn c k = k c := fun c k => by
    unfold fCn
    rw [fMap_eq (fun x k => by rw [fNat_eq])]
  unfold fDS fMt
  rw [fSp_eq, fMap_eq (fun x k => h1 x k), fMap_eq (fun x k => h2 x k), h3, h3, h3, fNat_eq, fNat_eq, fNat_eq]
noncomputable def rzPr (lv : List Nat) : Rz DS → Rz (Ex × DS)
  | .ok s => fDS (prune lv s) fun s => .ok (.nx, s)
  | .no w => .no w
noncomputable def evC (E : Ev) (call : Caller) (T : St) (lv : List Nat) : Code → DS → Rz (Ex × DS)
  | .skip, s => .ok (.nx, s)
  | .label _, s => .ok (.nx, s)
  | .exit id, s => .ok (.out id, s)
  | .ret, s => .ok (.ret, s)
  | .seq x y, s => match evC E call T lv x s with
    | .ok (.nx, s1) => evC E call T lv y s1
    | r => r
  | .cond c x y, s => match lookO s c with
    | some (.bool true) => evC E call T lv x s
    | some (.bool false) => evC E call T lv y s
    | _ => .no [19]
  | .block id c, s => rzOut (evC E call T lv c s) (Ex.unblk id)
  | .loop c, s => evIter (evC E call T lv c) E.F s
  | .scope c, s => evC E call T lv c s
  | .region id ops false, s => (rzPr lv (evOps E call T ops (List.range ops.size) s)).at [id]
  | .region id ops true, s => if wfK ops then (rzPr lv (evDraw E call T ops s)).at [id] else .no [id, 20]
  | _, s => .no [21]

/-- What only reads leaves nothing that is led to: it is forgotten. -/
noncomputable def forgetD (pu : Bool) (n : Nat) (d : D) (l : List Ob) : D × List Ob :=
  if pu && decide (n < l.length) && nrB n d && (l.take n).all (nrO n) then (d, l.take n) else (d, l)

noncomputable def evF (P : Program) (E : Ev) : Nat → Caller
  | 0 => fun _ _ _ _ => .no [22]
  | n + 1 => fun r f args sto => match E.sp f with
    | some g => g r f args sto
    | none => match P.funcs[f]? with
    | none => .no [f, 23]
    | some fn => match fn.body with
      | none => .no [f, 24]
      | some code =>
        if !(fn.name == "runtime.NumGoroutine") && decide (args.length ≤ fn.ntmps) && decide (r ≤ sto.length) then
          match evC E (evF P E n) ⟨E.L, (E.fs f).fc fn.ntmps, r, sto.length⟩ (E.fs f).lv code (s0 r args sto) with
          | .no w => .no w
          | .ok (.out _, _) => .no [25]
          | .ok (_, s1) => match resD E.L r s1 fn.results.toList with
            | some (d, s2) => .ok (forgetD (E.fs f).pu sto.length d s2.sto)
            | none => .no [26]
        else .no [27]

/-! ### What it answers is so -/
section
variable {P : Program} {E : Ev} {T : St} {call : Caller} {s s' s1 : DS} {o : Oper} {ops : Array Oper}

/-- A caller that may be trusted. -/
noncomputable def CallOk (P : Program) (call : Caller) : Prop :=
  ∀ r f args sto d sto', call r f args sto = .ok (d, sto') → Tri P f r args sto (fun d' l => d' = d ∧ l = sto') ∧ Pre r sto sto'
structure EvOk (P : Program) (E : Ev) : Prop where
  sp : ∀ f g, E.sp f = some g → ∀ r args sto d sto', g r f args sto = .ok (d, sto') → Tri P f r args sto (fun d' l => d' = d ∧ l = sto') ∧ Pre r sto sto'
  L : LyOK P E.L
  m : P.follows .mixedOrders = true
  hk : ∀ f T s o s' x args tys caps, T.L = E.L → T.ro ≤ s.sto.length → o.op = .call { callee := .value x, args := args, argTypes := tys } → lookO s x = some (.fn f caps) → E.hk f T s o = some (.ok s') → OpOk P T o s (fun s1 => s1 = s') ∧ Pre T.ro s.sto s'.sto

theorem evGive_ok (hc : CallOk P call) {x : Operand} {args : Array Operand} {tys : Array TypeId} (ho : o.op = .call { callee := .value x, args, argTypes := tys }) {f r : Nat} {caps ds : List D}
    {oa : List Nat} (hx : lookO s x = some (.fn f caps)) (ht : takeL s args.toList = some (ds, s1)) (hds : (frzA oa 0 ds).all cellsOK = true) (hok : stoOK T.ro r s.sto = true) (hr : T.ro ≤ r) (h : evGive call T s o.dst f r (frzA oa 0 ds) caps s1 = .ok s') :
    OpOk P T o s (fun s2 => s2 = s') ∧ Pre T.ro s.sto s'.sto := by
  unfold evGive at h
  split at h
  · cases h
  · rename_i d sto' hcall
    obtain ⟨h1, h2⟩ := hc _ _ _ _ _ _ hcall
    split at h
    · rename_i hp
      simp only [Bool.and_eq_true] at hp
      split at h
      · rename_i s2 hput
        cases h
        refine ⟨OpOk.call ho oa hx ht hds hok hr h1 fun d' l hd hl => ?_, ?_⟩
        · obtain ⟨rfl, rfl⟩ := hd
          exact ⟨hp.1, h2.2, hp.2, _, hput, rfl⟩
        · rw [put_sto hput]
          exact h2.mono hr
      · cases h
    · cases h

theorem evCall_ok (hc : CallOk P call) {x : Operand} {args : Array Operand} {tys : Array TypeId} (ho : o.op = .call { callee := .value x, args, argTypes := tys }) {f : Nat} {caps : List D}
    (hx : lookO s x = some (.fn f caps)) (h : evCall E call T s o.dst f caps args.toList = .ok s') : OpOk P T o s (fun s2 => s2 = s') ∧ Pre T.ro s.sto s'.sto := by
  unfold evCall at h
  split at h
  · cases h
  · rename_i ds s1 ht
    simp only at h
    split at h
    · rename_i hg
      simp only [Bool.and_eq_true, decide_eq_true_eq] at hg
      exact evGive_ok hc ho hx ht hg.1.2.1 hg.1.2.2 hg.2 h
    · split at h
      · rename_i hg
        simp only [Bool.and_eq_true] at hg
        split at h
        · rename_i ds' hl
          unfold evLend at h
          split at h
          · cases h
          · rename_i d sto' hcall
            obtain ⟨h1, h2⟩ := hc _ _ _ _ _ _ hcall
            split at h
            · rename_i hp
              simp only [Bool.and_eq_true, beq_iff_eq] at hp
              split at h
              · rename_i s2 hput
                cases h
                have hcaps : caps = [] := by cases caps with | nil => rfl | cons a b => simp [isNilL] at hg
                subst hcaps
                refine ⟨OpOk.callL ho hx hl hg.2.2.2 h1 fun d' l hd => ?_, ?_⟩
                · obtain ⟨rfl, rfl⟩ := hd
                  refine ⟨?_, hp.2, _, hput, rfl⟩
                  apply List.ext_getElem?
                  intro k
                  by_cases hk : k < s.sto.length
                  · exact h2.2 k hk
                  · rw [List.getElem?_eq_none (by omega), List.getElem?_eq_none (by omega)]
                · rw [put_sto hput]
                  exact Pre.refl _ _
              · cases h
            · cases h
        · cases h
      · split at h
        · rename_i hg
          simp only [Bool.and_eq_true] at hg
          exact evGive_ok hc ho hx ht hg.1 hg.2 (Nat.le_refl _) h
        · cases h

theorem at_ok {α : Type} {k : List Nat} {x : Rz α} {a : α} (h : x.at k = .ok a) : x = .ok a := by
  cases x with
  | ok b => exact h
  | no w => cases h

theorem evOp_ok (H : EvOk P E) (hc : CallOk P call) (hL : T.L = E.L) (hl : T.ro ≤ s.sto.length) (h : evOp E call T s o = .ok s') : OpOk P T o s (fun s2 => s2 = s') ∧ Pre T.ro s.sto s'.sto := by
  unfold evOp at h
  split at h
  · rename_i x args tys ho
    split at h
    · rename_i f caps hx
      split at h
      · rename_i r hr
        subst h
        exact H.hk f T s o s' x args tys caps hL hl ho hx hr
      · exact evCall_ok hc ho hx (at_ok h)
    · cases h
  · split at h
    · rename_i s1 h1
      cases h
      rw [opE_eq] at h1
      exact ⟨OpOk.op (by rw [hL]; exact H.L) h1 rfl, opD_pre h1 hl⟩
    · cases h

theorem evStep_ok (H : EvOk P E) (hc : CallOk P call) (hL : T.L = E.L) (hl : T.ro ≤ s.sto.length) {i : Nat} (h : evStep E call T ops i s = .ok s') : stepOk P T ops i s (fun s2 => s2 = s') ∧ Pre T.ro s.sto s'.sto := by
  unfold evStep at h
  unfold stepOk
  cases ho : ops[i]? with
  | none => rw [ho] at h; cases h
  | some o =>
    rw [ho] at h
    simp only at h ⊢
    cases hw : wantD ops s o with
    | none => rw [hw] at h; cases h
    | some b =>
      rw [hw] at h
      cases b with
      | true => exact evOp_ok H hc hL hl (at_ok h)
      | false =>
        simp only at h ⊢
        cases hp : put T.c o.dst (.tup []) s with
        | none => rw [hp] at h; cases h
        | some s2 =>
          rw [hp] at h
          cases h
          exact ⟨rfl, Pre.of_eq (put_sto hp)⟩

theorem evOps_ok (H : EvOk P E) (hc : CallOk P call) (hL : T.L = E.L) : ∀ {l : List Nat} {s : DS}, T.ro ≤ s.sto.length → evOps E call T ops l s = .ok s' → OpsOk P T ops l s (fun s2 => s2 = s') ∧ Pre T.ro s.sto s'.sto
  | [], s, _, h => by
    simp [evOps] at h
    subst h
    exact ⟨rfl, Pre.refl _ _⟩
  | i :: r, s, hl, h => by
    simp only [evOps] at h
    split at h
    · rename_i s1 h1
      obtain ⟨q1, q2⟩ := evStep_ok H hc hL hl h1
      obtain ⟨q3, q4⟩ := evOps_ok H hc hL (Nat.le_trans hl q2.1) h
      refine ⟨?_, q2.trans q4⟩
      unfold stepOk at q1
      simp only [OpsOk]
      cases ho : ops[i]? with
      | none => rw [ho] at q1; exact q1.elim
      | some o =>
        rw [ho] at q1
        simp only at q1 ⊢
        cases hw : wantD ops s o with
        | none => rw [hw] at q1; exact q1.elim
        | some b =>
          rw [hw] at q1
          cases b with
          | true => exact OpOk.mono q1 fun s2 h2 => by subst h2; exact q3
          | false =>
            simp only at q1 ⊢
            cases hp : put T.c o.dst (.tup []) s with
            | none => rw [hp] at q1; exact q1.elim
            | some s2 => rw [hp] at q1; simp only at q1 ⊢; subst q1; exact q3
    · cases h

theorem readPass_ahead : ∀ {l L V : List Nat} {s : DS} {is L1 V1 : List Nat} {s1 : DS}, readPass T ops l L V s = (is, L1, V1, s1) → aheadD T ops is L V s = some (L1, V1, s1) ∧ s1.sto = s.sto
  | [], L, V, s, is, L1, V1, s1, h => by
    simp only [readPass, Prod.mk.injEq] at h
    obtain ⟨rfl, rfl, rfl, rfl⟩ := h
    exact ⟨rfl, rfl⟩
  | i :: r, L, V, s, is, L1, V1, s1, h => by
    simp only [readPass] at h
    split at h
    · exact readPass_ahead h
    · rename_i t ht
      split at h
      · rename_i hg
        split at h
        · rename_i d hd
          cases hx : readPass T ops r (i :: L) (i :: V) (putS t d s) with
          | mk is' x =>
          rw [hx] at h
          cases h
          obtain ⟨q1, q2⟩ := readPass_ahead hx
          refine ⟨?_, q2⟩
          rw [hasB_eq, rdyF_eq] at hg
          simp only [aheadD, ht, if_pos hg, hd]
          exact q1
        · exact readPass_ahead h
      · exact readPass_ahead h

theorem optEq_eq {x : Option D} {y : D} (h : optEq x y = true) : x = some y := by
  cases x with
  | none => cases h
  | some z => rw [dEq_eq (show dEq z y = true from h)]
theorem stillB_ok {V : List Nat} (h : stillB T ops V s s1 = true) : stillV T ops V s s1 := by
  intro i hi t d ht hd hlk
  have := List.all_eq_true.1 h i hi
  rw [ht] at this
  simp only [hd, Bool.and_eq_true] at this
  exact ⟨optEq_eq this.1, optEq_eq this.2⟩
theorem stepOk.mono {j : Nat} {K K' : DS → Prop} (h : stepOk P T ops j s K) (hk : ∀ s, K s → K' s) : stepOk P T ops j s K' := by
  unfold stepOk at h ⊢
  cases ho : ops[j]? with
  | none => rw [ho] at h; exact h.elim
  | some o =>
    rw [ho] at h
    simp only at h ⊢
    cases hw : wantD ops s o with
    | none => rw [hw] at h; exact h.elim
    | some b =>
      rw [hw] at h
      cases b with
      | true => exact OpOk.mono h hk
      | false =>
        simp only at h ⊢
        cases hp : put T.c o.dst (.tup []) s with
        | none => rw [hp] at h; exact h.elim
        | some s2 => rw [hp] at h; exact hk _ h

theorem readPass_len : ∀ {l L V : List Nat} {s : DS} {is L1 V1 : List Nat} {s1 : DS}, readPass T ops l L V s = (is, L1, V1, s1) → is.length ≤ l.length
  | [], L, V, s, is, L1, V1, s1, h => by
    simp only [readPass, Prod.mk.injEq] at h
    obtain ⟨rfl, rfl, rfl, rfl⟩ := h
    exact Nat.le_refl _
  | i :: r, L, V, s, is, L1, V1, s1, h => by
    simp only [readPass] at h
    split at h
    · exact Nat.le_succ_of_le (readPass_len h)
    · split at h
      · split at h
        · cases hx : readPass T ops r (i :: L) (i :: V) (putS _ _ s) with
          | mk is' x =>
          rw [hx] at h
          cases h
          exact Nat.succ_le_succ (readPass_len hx)
        · exact Nat.le_succ_of_le (readPass_len h)
      · exact Nat.le_succ_of_le (readPass_len h)

theorem Sch.succ {K : DS → Prop} : ∀ {n : Nat} {L V : List Nat} {s : DS}, Sch P T ops n L V s K → Sch P T ops (n + 1) L V s K
  | 0, L, V, s, h => .inl h
  | n + 1, L, V, s, h => by
    rcases h with h | ⟨i, t, d, h1, h2, h3, h4, h5, h6, h7⟩ | ⟨h1, h2⟩ | ⟨L', V', s1, h1, h2, h3, h4, h5⟩
    · exact .inl h
    · exact .inr (.inl ⟨i, t, d, h1, h2, h3, h4, h5, h6, Sch.succ h7⟩)
    · exact .inr (.inr (.inl ⟨h1, fun j hj hjL hr => (h2 j hj hjL hr).mono fun s h => ⟨h.1, Sch.succ h.2⟩⟩))
    · exact .inr (.inr (.inr ⟨L', V', s1, h1, h2, h3, h4, Sch.succ h5⟩))
theorem Sch.upto {K : DS → Prop} {n m : Nat} (h : n ≤ m) {L V : List Nat} {s : DS} (hs : Sch P T ops n L V s K) : Sch P T ops m L V s K := by
  obtain ⟨k, rfl⟩ : ∃ k, m = n + k := ⟨m - n, by omega⟩
  induction k with
  | zero => exact hs
  | succ k ih => exact Sch.succ (ih (by omega))

/-- p's part of the work is done by q's. -/
structure CovP (T : St) (ops : Array Oper) (p q : PS) : Prop where
  L : ∀ k, k ∈ q.L ↔ k ∈ p.L
  V : ∀ k, k ∈ p.V → k ∈ q.V
  le : LeS p.s q.s
  st : stillV T ops p.V p.s q.s
theorem LeS.refl (s : DS) : LeS s s := ⟨fun _ _ h => h, fun _ cs h => ⟨cs, h, fun j c hc => ⟨c, hc, fun _ _ _ _ _ h => h⟩⟩, rfl, fun _ => Nat.le_refl _, fun _ => Nat.le_refl _, fun _ => Nat.le_refl _, Nat.le_refl _, Nat.le_refl _, rfl⟩
theorem LeS.trans {s s1 s2 : DS} (h : LeS s s1) (h' : LeS s1 s2) : LeS s s2 :=
  ⟨fun t d ht => h.env t d (h'.env t d ht), fun t cs ht => by
    obtain ⟨cs1, h1, w1⟩ := h'.loc t cs ht
    obtain ⟨cs0, h0, w0⟩ := h.loc t cs1 h1
    refine ⟨cs0, h0, fun j c hc => ?_⟩
    obtain ⟨c1, hc1, v1⟩ := w1 j c hc
    obtain ⟨c0, hc0, v0⟩ := w0 j c1 hc1
    exact ⟨c0, hc0, fun w G m p v hv => v1 w G m p v (v0 w G m p v hv)⟩, h'.sto.trans h.sto, fun t => Nat.le_trans (h.vr t) (h'.vr t), fun t => Nat.le_trans (h.lv t) (h'.lv t), fun t => Nat.le_trans (h.al t) (h'.al t), Nat.le_trans h.era h'.era, Nat.le_trans h.ep h'.ep, h'.ro.trans h.ro⟩
theorem CovP.refl (p : PS) : CovP T ops p p := ⟨fun _ => Iff.rfl, fun _ h => h, LeS.refl _, fun i _ t d _ h2 h3 => ⟨h2, h3⟩⟩
theorem CovP.trans {p q r : PS} (h : CovP T ops p q) (h' : CovP T ops q r) : CovP T ops p r :=
  ⟨fun k => (h'.L k).trans (h.L k), fun k hk => h'.V k (h.V k hk), h.le.trans h'.le, fun i hi t d h1 h2 h3 => by
    obtain ⟨q1, q2⟩ := h.st i hi t d h1 h2 h3
    exact h'.st i (h.V i hi) t d h1 q1 q2⟩
theorem CovP.sch {K : DS → Prop} {n : Nat} {p q : PS} (h : CovP T ops p q) (hs : Sch P T ops n q.L q.V q.s K) : Sch P T ops (n + 1) p.L p.V p.s K :=
  .inr (.inr (.inr ⟨q.L, q.V, q.s, h.L, h.V, h.le, h.st, hs⟩))

theorem lk_filter {α : Type} {f : Nat × α → Bool} {t : Nat} : ∀ {l : List (Nat × α)} {a : α}, lk t (l.filter f) = some a → f (t, a) = true
  | [], a, h => by simp [lk_nil] at h
  | x :: r, a, h => by
    rw [List.filter_cons] at h
    split at h
    · rename_i hf
      simp only [lk_cons] at h
      split at h
      · rename_i e
        cases h
        rw [← e]
        exact hf
      · exact lk_filter h
    · exact lk_filter h
theorem mEq_eq : ∀ {x y : List (D × D)}, mEq x y = true → x = y
  | [], [], _ => rfl
  | [], _ :: _, h => by simp [mEq] at h
  | _ :: _, [], h => by simp [mEq] at h
  | (a, b) :: x, (c, d) :: y, h => by
    simp only [mEq, Bool.and_eq_true] at h
    rw [dEq_eq h.1.1, dEq_eq h.1.2, mEq_eq h.2]
theorem obEqs_eq : ∀ {x y : List Ob}, obEqs x y = true → x = y
  | [], [], _ => rfl
  | [], _ :: _, h => by simp [obEqs] at h
  | _ :: _, [], h => by simp [obEqs] at h
  | a :: x, b :: y, h => by
    simp only [obEqs, Bool.and_eq_true] at h
    have : a = b := by
      cases a <;> cases b <;> simp only [obEq] at h
      · rw [dEqL_eq h.1]
      · simp at h
      · simp at h
      · rw [mEq_eq h.1]
    rw [this, obEqs_eq h.2]
theorem optEqL_eq {x : Option (List D)} {y : List D} (h : optEqL x y = true) : x = some y := by
  cases x with
  | none => cases h
  | some z => rw [dEqL_eq (show dEqL z y = true from h)]
theorem vc_dead {w : World} {G : Gh} {m : Mt} {p : Place} {d : D} {v : Value} (hd : isListD d = true) (h : VC w G m p d v) : VC w G m p .dead v := by
  cases d with
  | list q xs =>
    show v.oneCell' = true
    cases q with
    | own sz =>
      have h' : OwnL w G p sz xs v := h
      rcases h' with ⟨_, rfl⟩ | ⟨_, b, off, cap, rfl, _⟩ <;> rfl
    | cp e q =>
      have h' : CpL w G m e q xs v := h
      obtain ⟨A, cap, rfl, _⟩ := h'
      rfl
    | imm =>
      have h' : Imm w G.be G.st (.list .imm xs) v := h
      cases h' <;> rfl
  | dead => exact h
  | _ => cases hd
theorem joinC_le {a b c : D} (h : joinC a b = some c) : (∀ w G m p v, VC w G m p a v → VC w G m p c v) ∧ ∀ w G m p v, VC w G m p b v → VC w G m p c v := by
  unfold joinC at h
  split at h
  · rename_i he
    cases h
    rw [dEq_eq he]
    exact ⟨fun _ _ _ _ _ h => h, fun _ _ _ _ _ h => h⟩
  · split at h
    · rename_i he
      cases h
      simp only [Bool.and_eq_true] at he
      exact ⟨fun w G m p v h => vc_dead he.1 h, fun w G m p v h => vc_dead he.2 h⟩
    · cases h
theorem joinL_le : ∀ {x y z : List D}, joinL x y = some z → ∀ (j : Nat) (c : D), z[j]? = some c → (∃ a, x[j]? = some a ∧ ∀ w G m p v, VC w G m p a v → VC w G m p c v) ∧ ∃ b, y[j]? = some b ∧ ∀ w G m p v, VC w G m p b v → VC w G m p c v
  | [], [], z, h, j, c, hc => by
    simp [joinL] at h
    subst h
    simp at hc
  | [], _ :: _, z, h, _, _, _ => by simp [joinL] at h
  | _ :: _, [], z, h, _, _, _ => by simp [joinL] at h
  | a :: x, b :: y, z, h, j, c, hc => by
    simp only [joinL] at h
    split at h
    · rename_i c0 r h1 h2
      cases h
      cases j with
      | zero =>
        simp at hc
        subst hc
        obtain ⟨q1, q2⟩ := joinC_le h1
        exact ⟨⟨a, rfl, q1⟩, b, rfl, q2⟩
      | succ j => simpa using joinL_le h2 j c (by simpa using hc)
    · cases h
theorem joinLoc_le {l l' : List (Nat × List D)} : ∀ {q : List (Nat × List D)} {t : Nat} {cs : List D}, lk t (joinLoc l l' q) = some cs → ∃ a b, lk t l = some a ∧ lk t l' = some b ∧ joinL a b = some cs
  | [], t, cs, h => by simp [joinLoc, lk_nil] at h
  | x :: r, t, cs, h => by
    simp only [joinLoc] at h
    split at h
    · rename_i a b ha hb
      split at h
      · rename_i c hc
        simp only [lk_cons] at h
        split at h
        · rename_i e
          cases h
          subst e
          exact ⟨a, b, ha, hb, hc⟩
        · exact joinLoc_le h
      · exact joinLoc_le h
    · exact joinLoc_le h
theorem joinS_le {s s' : DS} (hs : obEqs s.sto s'.sto = true) (hr : s.m.ro = s'.m.ro) : LeS s (joinS s s') ∧ LeS s' (joinS s s') := by
  have hs' := obEqs_eq hs
  refine ⟨⟨fun t d h => ?_, fun t d h => ?_, rfl, fun t => (Cn.max_at _ _ t).1, fun t => (Cn.max_at _ _ t).1, fun t => (Cn.max_at _ _ t).1, Nat.le_max_left _ _, Nat.le_max_left _ _, rfl⟩, ⟨fun t d h => ?_, fun t d h => ?_, hs', fun t => (Cn.max_at _ _ t).2, fun t => (Cn.max_at _ _ t).2, fun t => (Cn.max_at _ _ t).2, Nat.le_max_right _ _, Nat.le_max_right _ _, hr⟩⟩
  · have := lk_filter h; simp only [Bool.and_eq_true] at this; exact optEq_eq this.2
  · obtain ⟨a, b, ha, hb, hj⟩ := joinLoc_le h
    exact ⟨a, ha, fun j c hc => (joinL_le hj j c hc).1⟩
  · have := lk_filter h; simp only [Bool.and_eq_true] at this; exact optEq_eq this.1
  · obtain ⟨a, b, ha, hb, hj⟩ := joinLoc_le h
    exact ⟨b, hb, fun j c hc => (joinL_le hj j c hc).2⟩
theorem sameSet_iff {L L' : List Nat} (h : sameSet L L' = true) (k : Nat) : k ∈ L ↔ k ∈ L' := by
  have e : mskL L = mskL L' := Nat.eq_of_beq_eq_true h
  have : L.contains k = L'.contains k := by rw [← mskL_bit, ← mskL_bit, e]
  exact ⟨fun hk => List.contains_iff_mem.1 (this ▸ List.contains_iff_mem.2 hk), fun hk => List.contains_iff_mem.1 (this.symm ▸ List.contains_iff_mem.2 hk)⟩
theorem joinP_cov {p q x : PS} (hL : sameSet p.L q.L = true) (h : joinP T ops p q = some x) : CovP T ops p x ∧ CovP T ops q x := by
  simp only [joinP] at h
  rw [Option.ite_none_right_eq_some] at h
  obtain ⟨hc, h⟩ := h
  cases h
  simp only [Bool.and_eq_true, decide_eq_true_eq] at hc
  obtain ⟨⟨⟨h1, h2⟩, h3⟩, h4⟩ := hc
  obtain ⟨l1, l2⟩ := joinS_le h1 h2
  exact ⟨⟨fun k => Iff.rfl, fun k hk => by simp [hk], l1, stillB_ok h3⟩, ⟨fun k => sameSet_iff hL k, fun k hk => by simp [hk], l2, stillB_ok h4⟩⟩
theorem mergeIn_cov {p : PS} : ∀ {acc acc' : List PS}, mergeIn T ops p acc = some acc' → (∃ x, x ∈ acc' ∧ CovP T ops p x) ∧ ∀ q, q ∈ acc → ∃ x, x ∈ acc' ∧ CovP T ops q x
  | [], acc', h => by
    simp [mergeIn] at h
    subst h
    exact ⟨⟨p, by simp, CovP.refl _⟩, fun q hq => nomatch hq⟩
  | q :: r, acc', h => by
    simp only [mergeIn] at h
    split at h
    · rename_i hL
      split at h
      · rename_i x hx
        cases h
        obtain ⟨c1, c2⟩ := joinP_cov hL hx
        refine ⟨⟨x, by simp, c1⟩, fun y hy => ?_⟩
        rcases List.mem_cons.1 hy with e | hy
        · rw [e]; exact ⟨x, by simp, c2⟩
        · exact ⟨y, by simp [hy], CovP.refl _⟩
      · cases h
    · split at h
      · rename_i r' hr
        cases h
        obtain ⟨⟨x, hx, c1⟩, c2⟩ := mergeIn_cov hr
        refine ⟨⟨x, by simp [hx], c1⟩, fun y hy => ?_⟩
        rcases List.mem_cons.1 hy with e | hy
        · rw [e]; exact ⟨q, by simp, CovP.refl _⟩
        · obtain ⟨z, hz, c3⟩ := c2 y hy
          exact ⟨z, by simp [hz], c3⟩
      · cases h
theorem readP_sch {K : DS → Prop} {n : Nat} {p : PS} (hs : Sch P T ops n (readP T ops p).L (readP T ops p).V (readP T ops p).s K) : Sch P T ops (n + ops.size) p.L p.V p.s K := by
  obtain ⟨is, L1, V1, s1, hp⟩ : ∃ is L1 V1 s1, readPass T ops (List.range ops.size) p.L p.V p.s = (is, L1, V1, s1) := ⟨_, _, _, _, rfl⟩
  have hl := readPass_len hp
  rw [List.length_range] at hl
  unfold readP at hs
  rw [hp] at hs
  exact Sch.upto (by omega) (Sch.ahead (readPass_ahead hp).1 hs)
theorem readP_sto (p : PS) : (readP T ops p).s.sto = p.s.sto := by
  obtain ⟨is, L1, V1, s1, hp⟩ : ∃ is L1 V1 s1, readPass T ops (List.range ops.size) p.L p.V p.s = (is, L1, V1, s1) := ⟨_, _, _, _, rfl⟩
  unfold readP
  rw [hp]
  exact (readPass_ahead hp).2

theorem stepP_ok {p : PS} : ∀ {js : List Nat} {acc acc' : List PS}, stepP E call T ops p js acc = .ok acc' → (∀ q, q ∈ acc → ∃ x, x ∈ acc' ∧ CovP T ops q x) ∧
    ∀ j, j ∈ js → ∃ s2, evStep E call T ops j p.s = .ok s2 ∧ stillV T ops (dropB ops j p.V) p.s s2 ∧ ∃ x, x ∈ acc' ∧ CovP T ops (readP T ops ⟨j :: p.L, dropB ops j p.V, s2⟩) x
  | [], acc, acc', h => by
    simp [stepP] at h
    subst h
    exact ⟨fun q hq => ⟨q, hq, CovP.refl _⟩, fun j hj => nomatch hj⟩
  | j :: js, acc, acc', h => by
    simp only [stepP, dropF_eq] at h
    split at h
    · cases h
    · rename_i s2 hs2
      split at h
      · rename_i hst
        split at h
        · rename_i acc1 hm
          obtain ⟨⟨x, hx, c1⟩, c2⟩ := mergeIn_cov hm
          obtain ⟨d1, d2⟩ := stepP_ok h
          refine ⟨fun q hq => ?_, fun k hk => ?_⟩
          · obtain ⟨y, hy, c3⟩ := c2 q hq
            obtain ⟨z, hz, c4⟩ := d1 y hy
            exact ⟨z, hz, c3.trans c4⟩
          · rcases List.mem_cons.1 hk with e | hk
            · subst e
              obtain ⟨z, hz, c4⟩ := d1 x hx
              exact ⟨s2, hs2, stillB_ok hst, z, hz, c1.trans c4⟩
            · exact d2 k hk
        · cases h
      · cases h
theorem stepAll_ok : ∀ {ps acc acc' : List PS}, stepAll E call T ops ps acc = .ok acc' → (∀ q, q ∈ acc → ∃ x, x ∈ acc' ∧ CovP T ops q x) ∧
    ∀ p, p ∈ ps → readyL ops p.L ≠ [] ∧ ∀ j, j ∈ readyL ops p.L → ∃ s2, evStep E call T ops j p.s = .ok s2 ∧ stillV T ops (dropB ops j p.V) p.s s2 ∧ ∃ x, x ∈ acc' ∧ CovP T ops (readP T ops ⟨j :: p.L, dropB ops j p.V, s2⟩) x
  | [], acc, acc', h => by
    simp [stepAll] at h
    subst h
    exact ⟨fun q hq => ⟨q, hq, CovP.refl _⟩, fun p hp => nomatch hp⟩
  | p :: ps, acc, acc', h => by
    simp only [stepAll] at h
    split at h
    · cases h
    · rename_i hne
      split at h
      · cases h
      · rename_i acc1 hm
        obtain ⟨c1, c2⟩ := stepP_ok hm
        obtain ⟨d1, d2⟩ := stepAll_ok h
        refine ⟨fun q hq => ?_, fun k hk => ?_⟩
        · obtain ⟨y, hy, c3⟩ := c1 q hq
          obtain ⟨z, hz, c4⟩ := d1 y hy
          exact ⟨z, hz, c3.trans c4⟩
        · rcases List.mem_cons.1 hk with e | hk
          · subst e
            refine ⟨fun e => hne e, fun j hj => ?_⟩
            obtain ⟨s2, q1, q2, x, q3, q4⟩ := c2 j hj
            obtain ⟨z, hz, c4⟩ := d1 x q3
            exact ⟨s2, q1, q2, z, hz, q4.trans c4⟩
          · exact d2 k hk

theorem mergeIn_ro {p : PS} : ∀ {acc acc' : List PS}, mergeIn T ops p acc = some acc' → T.ro ≤ p.s.sto.length → (∀ q, q ∈ acc → T.ro ≤ q.s.sto.length) → ∀ x, x ∈ acc' → T.ro ≤ x.s.sto.length
  | [], acc', h, h1, _, x, hx => by
    simp [mergeIn] at h
    subst h
    have : x = p := by simpa using hx
    rw [this]; exact h1
  | q :: r, acc', h, h1, h2, x, hx => by
    simp only [mergeIn] at h
    split at h
    · rename_i hL
      split at h
      · rename_i y hy
        cases h
        rcases List.mem_cons.1 hx with e | hx
        · rw [e, (joinP_cov hL hy).1.le.sto]; exact h1
        · exact h2 x (by simp [hx])
      · cases h
    · split at h
      · rename_i r' hr
        cases h
        rcases List.mem_cons.1 hx with e | hx
        · rw [e]; exact h2 q (by simp)
        · exact mergeIn_ro hr h1 (fun y hy => h2 y (by simp [hy])) x hx
      · cases h
theorem stepP_ro (H : EvOk P E) (hc : CallOk P call) (hL : T.L = E.L) {p : PS} (hl : T.ro ≤ p.s.sto.length) : ∀ {js : List Nat} {acc acc' : List PS}, (∀ q, q ∈ acc → T.ro ≤ q.s.sto.length) → stepP E call T ops p js acc = .ok acc' → ∀ x, x ∈ acc' → T.ro ≤ x.s.sto.length
  | [], acc, acc', h0, h => by
    simp [stepP] at h
    subst h
    exact h0
  | j :: js, acc, acc', h0, h => by
    simp only [stepP] at h
    split at h
    · cases h
    · rename_i s2 hs2
      split at h
      · split at h
        · rename_i acc1 hm
          refine stepP_ro H hc hL hl (mergeIn_ro hm ?_ h0) h
          rw [readP_sto]
          exact Nat.le_trans hl (evStep_ok H hc hL hl hs2).2.1
        · cases h
      · cases h
theorem stepAll_ro (H : EvOk P E) (hc : CallOk P call) (hL : T.L = E.L) : ∀ {ps acc acc' : List PS}, (∀ p, p ∈ ps → T.ro ≤ p.s.sto.length) → (∀ q, q ∈ acc → T.ro ≤ q.s.sto.length) → stepAll E call T ops ps acc = .ok acc' → ∀ x, x ∈ acc' → T.ro ≤ x.s.sto.length
  | [], acc, acc', _, h0, h => by
    simp [stepAll] at h
    subst h
    exact h0
  | p :: ps, acc, acc', hl, h0, h => by
    simp only [stepAll] at h
    split at h
    · cases h
    · split at h
      · cases h
      · rename_i acc1 hm
        exact stepAll_ro H hc hL (fun q hq => hl q (by simp [hq])) (stepP_ro H hc hL (hl p (by simp)) h0 hm) h
theorem evDag_ok (H : EvOk P E) (hc : CallOk P call) (hL : T.L = E.L) : ∀ {m : Nat} {ps : List PS}, (∀ p, p ∈ ps → T.ro ≤ p.s.sto.length) → evDag E call T ops m ps = .ok s' → ∀ p, p ∈ ps → Sch P T ops (m * (ops.size + 2)) p.L p.V p.s (fun s2 => s2 = s') ∧ Pre T.ro p.s.sto s'.sto
  | 0, ps, _, h => by cases h
  | m + 1, ps, hl, h => by
    have step : ∀ ps', stepAll E call T ops ps [] = .ok ps' → evDag E call T ops m ps' = .ok s' → ∀ p, p ∈ ps → Sch P T ops ((m + 1) * (ops.size + 2)) p.L p.V p.s (fun s2 => s2 = s') ∧ Pre T.ro p.s.sto s'.sto := by
      intro ps' h1 h2 p hp
      obtain ⟨_, c2⟩ := stepAll_ok h1
      -- each state of the next round is some step's
      have hro' : ∀ x, x ∈ ps' → T.ro ≤ x.s.sto.length := stepAll_ro H hc hL hl (fun q hq => by cases hq) h1
      have ih := evDag_ok H hc hL hro' h2
      obtain ⟨hne, hj⟩ := c2 p hp
      have hmem : ∀ j, j < ops.size → j ∉ p.L → rdy ops p.L j = true → j ∈ readyL ops p.L := fun j h1 h2 h3 => by
        refine List.mem_filter.2 ⟨List.mem_range.2 h1, ?_⟩
        rw [hasB_eq, rdyF_eq]
        have : p.L.contains j = false := by
          cases hh : p.L.contains j with
          | false => rfl
          | true => exact absurd (List.contains_iff_mem.1 hh) h2
        rw [this, h3]
        rfl
      constructor
      · rw [show (m + 1) * (ops.size + 2) = (m * (ops.size + 2) + 1 + ops.size) + 1 by rw [Nat.succ_mul]; omega]
        refine .inr (.inr (.inl ⟨?_, fun j h1 h2 h3 => ?_⟩))
        · obtain ⟨j, r, e⟩ := List.exists_cons_of_ne_nil hne
          have : j ∈ readyL ops p.L := by rw [e]; simp
          obtain ⟨q1, q2⟩ := List.mem_filter.1 this
          simp only [hasB_eq, Bool.and_eq_true, Bool.not_eq_true'] at q2
          exact ⟨j, List.mem_range.1 q1, fun hm => by rw [List.contains_iff_mem.2 hm] at q2; cases q2.1⟩
        · obtain ⟨s2, q1, q2, x, q3, q4⟩ := hj j (hmem j h1 h2 h3)
          refine (evStep_ok H hc hL (hl p hp) q1).1.mono fun s3 h3 => ?_
          subst h3
          exact ⟨q2, readP_sch (p := ⟨j :: p.L, _, s3⟩) (q4.sch (ih x q3).1)⟩
      · obtain ⟨j, r, e⟩ := List.exists_cons_of_ne_nil hne
        obtain ⟨s2, q1, q2, x, q3, q4⟩ := hj j (by rw [e]; simp)
        have p1 := (evStep_ok H hc hL (hl p hp) q1).2
        have p2 := (ih x q3).2
        rw [q4.le.sto, readP_sto] at p2
        exact p1.trans p2
    intro p hp
    simp only [evDag] at h
    split at h
    · rename_i p0
      split at h
      · rename_i hall
        cases h
        have e : p = p0 := by simpa using hp
        subst e
        refine ⟨Sch.done (fun k hk => ?_) rfl, Pre.refl _ _⟩
        exact List.contains_iff_mem.1 (by rw [← hasB_eq]; exact List.all_eq_true.1 hall k (List.mem_range.2 hk))
      · split at h
        · cases h
        · rename_i ps' h1
          exact step ps' h1 h p hp
    · split at h
      · cases h
      · rename_i ps' h1
        exact step ps' h1 h p hp
theorem evDraw_ok (H : EvOk P E) (hc : CallOk P call) (hL : T.L = E.L) {s : DS} (hl : T.ro ≤ s.sto.length) (h : evDraw E call T ops s = .ok s') : (∃ n, Sch P T ops n [] [] s (fun s2 => s2 = s')) ∧ Pre T.ro s.sto s'.sto := by
  unfold evDraw at h
  obtain ⟨q1, q2⟩ := evDag_ok H hc hL (ps := [readP T ops ⟨[], [], s⟩]) (fun p hp => by
    have e : p = readP T ops ⟨[], [], s⟩ := by simpa using hp
    rw [e, readP_sto]; exact hl) h (readP T ops ⟨[], [], s⟩) (by simp)
  rw [readP_sto] at q2
  exact ⟨⟨_, readP_sch (p := ⟨[], [], s⟩) q1⟩, q2⟩

theorem rzPr_ok {lv : List Nat} {x : Rz DS} {y : Ex × DS} (h : rzPr lv x = .ok y) : y.1 = .nx ∧ ∃ s, x = .ok s ∧ y.2 = prune lv s := by
  cases x with
  | ok s => simp only [rzPr, fDS_eq] at h; cases h; exact ⟨rfl, s, rfl, rfl⟩
  | no w => cases h
theorem prune_sto (lv : List Nat) (s : DS) : (prune lv s).sto = s.sto := by unfold prune; split <;> rfl
theorem Ok.prune {c : Code} {Q Q' : Ex → DS → Prop} (lv : List Nat) (h : Ok P T c s Q) (hq : ∀ x s', Q x s' → Q' x (Lv.prune lv s')) : Ok P T c s Q' := by
  intro X G a w hX hR
  refine wp_mono (h X G a w hX hR) fun e a' w' ⟨x, s', G', h1, h2, h3⟩ => ⟨x, Lv.prune lv s', G', h1, hq _ _ h2, ?_⟩
  unfold Lv.prune
  split
  · exact h3
  · exact h3.less _ s'.loc (fun t d ht => lk_keep lv t _ d ht) (fun _ _ h => h)
theorem rzNx_ok {x : Rz DS} {y : Ex × DS} (h : rzNx x = .ok y) : y.1 = .nx ∧ x = .ok y.2 := by
  cases x with
  | ok s => cases h; exact ⟨rfl, rfl⟩
  | no w => cases h

theorem evC_ok (H : EvOk P E) (hc : CallOk P call) (hL : T.L = E.L) (lv : List Nat) : ∀ {c : Code} {s : DS} {y : Ex × DS}, T.ro ≤ s.sto.length → evC E call T lv c s = .ok y → Ok P T c s (fun x s2 => x = y.1 ∧ s2 = y.2) ∧ Pre T.ro s.sto y.2.sto := by
  intro c
  induction c with
  | skip => intro s y _ h; simp [evC] at h; subst h; exact ⟨Ok.skip ⟨rfl, rfl⟩, Pre.refl _ _⟩
  | label l => intro s y _ h; simp [evC] at h; subst h; exact ⟨Ok.label ⟨rfl, rfl⟩, Pre.refl _ _⟩
  | exit id => intro s y _ h; simp [evC] at h; subst h; exact ⟨Ok.exit ⟨rfl, rfl⟩, Pre.refl _ _⟩
  | ret => intro s y _ h; simp [evC] at h; subst h; exact ⟨Ok.ret ⟨rfl, rfl⟩, Pre.refl _ _⟩
  | seq c1 c2 ih1 ih2 =>
    intro s y hl h
    simp only [evC] at h
    split at h
    · rename_i s1 h1
      obtain ⟨q1, q2⟩ := ih1 hl h1
      obtain ⟨q3, q4⟩ := ih2 (Nat.le_trans hl q2.1) h
      refine ⟨Ok.seq (q1.mono fun x s2 hx => ?_), q2.trans q4⟩
      obtain ⟨rfl, rfl⟩ := hx
      exact q3
    · rename_i hne
      obtain ⟨q1, q2⟩ := ih1 hl h
      refine ⟨Ok.seq (q1.mono fun x s2 hx => ?_), q2⟩
      obtain ⟨rfl, rfl⟩ := hx
      obtain ⟨x, s2⟩ := y
      cases x with
      | nx => exact absurd h (hne s2)
      | out id => exact ⟨rfl, rfl⟩
      | ret => exact ⟨rfl, rfl⟩
  | cond co c1 c2 ih1 ih2 =>
    intro s y hl h
    simp only [evC] at h
    split at h
    · rename_i hb
      obtain ⟨q1, q2⟩ := ih1 hl h
      exact ⟨Ok.condT hb q1, q2⟩
    · rename_i hb
      obtain ⟨q1, q2⟩ := ih2 hl h
      exact ⟨Ok.condF hb q1, q2⟩
    · cases h
  | block id c ih =>
    intro s y hl h
    simp only [evC] at h
    cases hb : evC E call T lv c s with
    | no w => rw [hb] at h; cases h
    | ok z =>
      obtain ⟨x, s2⟩ := z
      rw [hb] at h
      cases h
      obtain ⟨q1, q2⟩ := ih hl hb
      refine ⟨Ok.block (q1.mono fun x' s3 hx => ?_), q2⟩
      obtain ⟨rfl, rfl⟩ := hx
      cases x' with
      | nx => exact ⟨rfl, rfl⟩
      | ret => exact ⟨rfl, rfl⟩
      | out id' =>
        simp only [Ex.blk, Ex.unblk]
        by_cases e : id' = id
        · simp [e]
        · simp [e]
  | scope c ih =>
    intro s y hl h
    simp only [evC] at h
    obtain ⟨q1, q2⟩ := ih hl h
    exact ⟨Ok.scope q1, q2⟩
  | loop c ih =>
    intro s y hl h
    simp only [evC] at h
    have hpre : ∀ (n : Nat) (s : DS), T.ro ≤ s.sto.length → evIter (evC E call T lv c) n s = .ok y → Pre T.ro s.sto y.2.sto := by
      intro n
      induction n with
      | zero => intro s _ h; cases h
      | succ n ihn =>
        intro s hl h
        simp only [evIter] at h
        split at h
        · rename_i s1 h1
          obtain ⟨q1, q2⟩ := ih hl h1
          exact q2.trans (ihn s1 (Nat.le_trans hl q2.1) h)
        · rename_i x s1 _ h1
          cases h
          exact (ih hl h1).2
        · cases h
    refine ⟨?_, hpre _ s hl h⟩
    refine Ok.loop (fun n s => T.ro ≤ s.sto.length ∧ evIter (evC E call T lv c) n s = .ok y) (n := E.F) ⟨hl, h⟩ ?_
    rintro n s ⟨hl, h⟩
    cases n with
    | zero => cases h
    | succ n =>
      simp only [evIter] at h
      split at h
      · rename_i s1 h1
        obtain ⟨q1, q2⟩ := ih hl h1
        refine q1.mono fun x s2 hx => ?_
        obtain ⟨rfl, rfl⟩ := hx
        exact ⟨n, by omega, Nat.le_trans hl q2.1, h⟩
      · rename_i x s1 hne h1
        cases h
        obtain ⟨q1, q2⟩ := ih hl h1
        refine q1.mono fun x' s2 hx => ?_
        obtain ⟨rfl, rfl⟩ := hx
        cases x' with
        | nx => exact (hne rfl).elim
        | out id => exact ⟨rfl, rfl⟩
        | ret => exact ⟨rfl, rfl⟩
      · cases h
  | region id ops dr =>
    intro s y hl h
    cases dr with
    | false =>
      simp only [evC] at h
      obtain ⟨q1, s2, q2, q5⟩ := rzPr_ok (at_ok h)
      obtain ⟨q3, q4⟩ := evOps_ok H hc hL hl q2
      refine ⟨Ok.prune lv (Q := fun x s' => x = .nx ∧ s' = s2) (Ok.region (OpsOk.mono q3 fun s3 h3 => ⟨rfl, h3⟩)) fun x s' ⟨h1, h2⟩ => ?_, by rw [q5, prune_sto]; exact q4⟩
      subst h1; subst h2
      exact ⟨q1.symm, q5.symm⟩
    | true =>
      simp only [evC] at h
      split at h
      · rename_i hwf
        obtain ⟨q1, s2, q2, q5⟩ := rzPr_ok (at_ok h)
        obtain ⟨⟨nf, q3⟩, q4⟩ := evDraw_ok H hc hL hl q2
        refine ⟨Ok.prune lv (Q := fun x s' => x = .nx ∧ s' = s2) (Ok.draw (fu := nf) (Q := fun x s' => x = .nx ∧ s' = s2) (by rw [hL]; exact H.L) H.m hwf ?_) fun x s' ⟨h1, h2⟩ => ?_, by rw [q5, prune_sto]; exact q4⟩
        · have e : (fun s3 : DS => s3 = s2) = (fun s3 : DS => Ex.nx = Ex.nx ∧ s3 = s2) := by funext s3; simp
          rw [← e]
          exact q3
        · subst h1; subst h2
          exact ⟨q1.symm, q5.symm⟩
      · cases h
  | _ => intro s y hl h; simp [evC] at h

theorem forgetD_ok {f r : Nat} {args : List D} {sto : List Ob} {d : D} {l : List Ob} {pu : Bool} (h : Tri P f r args sto (fun d' l' => d' = d ∧ l' = l)) : Tri P f r args sto (fun d' l' => d' = (forgetD pu sto.length d l).1 ∧ l' = (forgetD pu sto.length d l).2) := by
  unfold forgetD
  split
  · rename_i hg
    simp only [Bool.and_eq_true, decide_eq_true_eq] at hg
    refine Tri.forget h fun d' l' hd hl => ?_
    obtain ⟨rfl, rfl⟩ := hd
    exact ⟨sto.length, Nat.le_refl _, hl, nrB_nr hg.1.2, fun o ho => nrO_nr (List.all_eq_true.1 hg.2 o ho), rfl, rfl⟩
  · exact h

theorem evF_ok (H : EvOk P E) : ∀ n, CallOk P (evF P E n)
  | 0 => fun r f args sto d sto' h => by cases h
  | n + 1 => fun r f args sto d sto' h => by
    simp only [evF] at h
    split at h
    · rename_i g hg
      exact H.sp f g hg r args sto d sto' h
    split at h
    · cases h
    · rename_i fn hf
      split at h
      · cases h
      · rename_i code hb
        split at h
        · rename_i hg
          simp only [Bool.and_eq_true, Bool.not_eq_true', decide_eq_true_eq] at hg
          have key : ∀ (x : Ex) (s1 s2 : DS) (d1 : D), (∀ id, x ≠ .out id) → evC E (evF P E n) ⟨E.L, (E.fs f).fc fn.ntmps, r, sto.length⟩ (E.fs f).lv code (s0 r args sto) = .ok (x, s1) → resD E.L r s1 fn.results.toList = some (d1, s2) → forgetD (E.fs f).pu sto.length d1 s2.sto = (d, sto') → Tri P f r args sto (fun d' l => d' = d ∧ l = sto') ∧ Pre r sto sto' := by
            intro x s1 s2 d1 hx h1 h2 h3
            obtain ⟨q1, q2⟩ := evC_ok (T := ⟨E.L, (E.fs f).fc fn.ntmps, r, sto.length⟩) H (evF_ok H n) rfl (E.fs f).lv (s := s0 r args sto) hg.2 h1
            have q3 : Tri P f r args sto (fun d' l => d' = d1 ∧ l = s2.sto) := by
              refine Tri.of_ok (L := E.L) (c := (E.fs f).fc fn.ntmps) H.L hf hb hg.1.1 ⟨rfl, rfl⟩ hg.1.2 hg.2 (q1.mono fun x' s3 hx' => ?_)
              obtain ⟨rfl, rfl⟩ := hx'
              cases x' with
              | out id => exact (hx id rfl).elim
              | nx => exact ⟨d1, s2, h2, rfl, rfl⟩
              | ret => exact ⟨d1, s2, h2, rfl, rfl⟩
            have q4 := forgetD_ok (pu := (E.fs f).pu) q3
            rw [h3] at q4
            refine ⟨q4, ?_⟩
            have q5 : Pre r sto s2.sto := by rw [resD_sto h2]; exact q2
            unfold forgetD at h3
            split at h3
            · rename_i hg2
              cases h3
              simp only [Bool.and_eq_true, decide_eq_true_eq] at hg2
              refine ⟨by rw [List.length_take]; omega, fun k hk => ?_⟩
              rw [List.getElem?_take_of_lt (by omega)]
              exact q5.2 k hk
            · cases h3
              exact q5
          split at h
          · cases h
          · cases h
          · rename_i x s1 hne h1
            split at h
            · rename_i d1 s2 h2
              cases hq : forgetD (E.fs f).pu sto.length d1 s2.sto with
              | mk d2 l2 =>
                rw [hq] at h
                cases h
                exact key x s1 s2 d1 (fun id e => hne id e) h1 h2 hq
            · cases h
        · cases h
end

end Go.Lv
