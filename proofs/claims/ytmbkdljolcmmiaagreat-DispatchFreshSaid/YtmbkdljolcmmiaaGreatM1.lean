/-
  Part 1 of the texts under the proof: an abstract run of loaded code on data, and what the functions do. No condition.
-/
import Derived.Calls
set_option linter.all false
set_option maxRecDepth 100000
namespace Go.Lv

inductive Root where
  | slot (t : Nat)
  | lbox (t : Nat)
  | gbox (k : Nat)
  | air (n : Nat)
  deriving DecidableEq

structure Place where
  r : Root
  i : Nat
  j : Nat
  deriving DecidableEq

inductive Kind where
  | own (sz : Nat)
  | cp (e : Nat) (p : Option (Place × Nat))
  | imm
  deriving DecidableEq

inductive D where
  | int (k : IntKind) (n : Int)
  | bool (b : Bool)
  | str (s : ByteArray)
  | list (q : Kind) (xs : List (List D))
  | nil
  | lptr (t v off : Nat)
  | gptr (k off : Nat)
  | eptr (e : Option Nat) (p : Option (Place × Nat)) (i : Nat) (row : List D) (off : Nat)
  | nilmap
  | map (k : Nat)
  | fn (f : Nat) (caps : List D)
  | nilfn
  | agg (cs : List D)
  | tup (ds : List D)
  | stamp (e k i : Nat)
  | dead

inductive Ob where
  | box (cs : List D)
  | map (es : List (D × D))

structure Cn where
  l : List (Nat × Nat)
noncomputable def cnL : List (Nat × Nat) → Nat → Nat
  | [], _ => 0
  | x :: r, t => if x.1 = t then x.2 else cnL r t
noncomputable def Cn.at (c : Cn) (t : Nat) : Nat := cnL c.l t
noncomputable instance : CoeFun Cn (fun _ => Nat → Nat) := ⟨Cn.at⟩
noncomputable def cnUp : List (Nat × Nat) → Nat → List (Nat × Nat)
  | [], t => [(t, 1)]
  | x :: r, t => if x.1 = t then (x.1, x.2 + 1) :: r else x :: cnUp r t
noncomputable def cnMax1 : List (Nat × Nat) → Nat → Nat → List (Nat × Nat)
  | [], t, n => [(t, n)]
  | x :: r, t, n => if x.1 = t then (x.1, max x.2 n) :: r else x :: cnMax1 r t n
noncomputable def cnMax (l : List (Nat × Nat)) : List (Nat × Nat) → List (Nat × Nat)
  | [] => l
  | x :: r => cnMax1 (cnMax l r) x.1 x.2
noncomputable def cnEq : List (Nat × Nat) → List (Nat × Nat) → Bool
  | [], [] => true
  | x :: r, y :: q => x.1 == y.1 && (x.2 == y.2 && cnEq r q)
  | _, _ => false
noncomputable def Cn.max (c c' : Cn) : Cn := if cnEq c.l c'.l then c else ⟨cnMax c.l c'.l⟩

structure Mt where
  vr : Cn
  lv : Cn
  al : Cn
  era : Nat
  ep : Nat
  ro : Nat

structure DS where
  env : List (Nat × D)
  loc : List (Nat × List D)
  sto : List Ob
  m : Mt

structure FC where
  n : Nat
  gl : List Nat := []
  ko : List Nat := []
  kb : List Nat := []
  xf : List Nat := []
  fs : List Nat := []
  kp : List Nat := []
  la : Bool := true
  fl : List Nat := []

inductive Tk where
  | int (k : IntKind)
  | bool
  | str
  | ptr (e : Nat)
  | slice (e : Nat)
  | array (n e : Nat)
  | map (k e : Nat)
  | struct (fs : List (Nat × Nat))
  | func
  | other

structure Td where
  k : Tk
  size : Nat
  bytes : Nat
  zero : List D
  eq : Bool := false
  ks : List Tk := []

abbrev Ly := List Td

noncomputable def Ly.tk (L : Ly) (t : Nat) : Tk := match L[t]? with | some d => d.k | none => .other
noncomputable def Ly.size (L : Ly) (t : Nat) : Nat := match L[t]? with | some d => d.size | none => 0
noncomputable def Ly.bytes (L : Ly) (t : Nat) : Nat := match L[t]? with | some d => d.bytes | none => 0
noncomputable def Ly.eqt (L : Ly) (t : Nat) : Bool := match L[t]? with | some d => d.eq | none => false
noncomputable def Ly.ks (L : Ly) (t : Nat) : List Tk := match L[t]? with | some d => d.ks | none => []
noncomputable def okK : Tk → D → Bool
  | .int k, .int k' _ => decide (k = k')
  | .bool, .bool _ => true
  | .str, .str _ => true
  | _, _ => false
noncomputable def okKs : List Tk → List D → Bool
  | [], [] => true
  | k :: ks, d :: ds => okK k d && okKs ks ds
  | _, _ => false
noncomputable def Ly.zero (L : Ly) (t : Nat) : Option (List D) := match L[t]? with | some d => if d.zero.length = d.size then some d.zero else none | none => none
noncomputable def Ly.agg (L : Ly) (t : Nat) : Bool := match L.tk t with | .struct _ | .array _ _ => true | _ => false

noncomputable def lk {α : Type} (t : Nat) (l : List (Nat × α)) : Option α := List.rec (motive := fun _ => Option α) none (fun x _ ih => Bool.rec (motive := fun _ => Option α) ih (some x.2) (Nat.beq x.1 t)) l
noncomputable def del {α : Type} (t : Nat) : List (Nat × α) → List (Nat × α)
  | [] => []
  | x :: r => if x.1 = t then del t r else x :: del t r
noncomputable def ins {α : Type} (t : Nat) (a : α) (l : List (Nat × α)) : List (Nat × α) := (t, a) :: l
noncomputable def insL {α : Type} (t : Nat) (a : α) : List (Nat × α) → List (Nat × α)
  | [] => [(t, a)]
  | x :: r => match Nat.beq x.1 t with | true => (t, a) :: r | false => x :: insL t a r
noncomputable def keep {α : Type} : List Nat → List (Nat × α) → List (Nat × α)
  | [], _ => []
  | t :: ts, l => match lk t l with
    | some a => (t, a) :: keep ts l
    | none => keep ts l

noncomputable def mapIx (f : Nat → D → D) : Nat → List D → List D
  | _, [] => []
  | j, c :: r => f j c :: mapIx f (j + 1) r
noncomputable def mapAt (f : Nat → D → D) : D → D
  | .agg cs => .agg (mapIx f 0 cs)
  | d => f 0 d
noncomputable def mapTop (f : Nat → Nat → D → D) : D → D
  | .tup ds => .tup (mapIx (fun i d => mapAt (f i) d) 0 ds)
  | d => mapAt (f 0) d

noncomputable def isOwn : D → Bool
  | .list (.own _) _ => true
  | _ => false
noncomputable def anyAt (f : D → Bool) : D → Bool
  | .agg cs => cs.any f
  | d => f d
noncomputable def anyTop (f : D → Bool) : D → Bool
  | .tup ds => ds.any (anyAt f)
  | d => anyAt f d
noncomputable def hasOwn (d : D) : Bool := anyTop isOwn d
noncomputable def fz : D → D
  | .list (.own _) xs => .list .imm xs
  | d => d
noncomputable def lookC (e : Nat) (p : Place) (v : Nat) : D → D
  | .list (.own _) xs => .list (.cp e (some (p, v))) xs
  | d => d
noncomputable def leftC (e : Nat) : D → D
  | .list (.own _) xs => .list (.cp e none) xs
  | d => d
noncomputable def fzTop (d : D) : D := mapTop (fun _ _ c => fz c) d
noncomputable def lookTop (e : Nat) (r : Root) (v : Nat) (d : D) : D := mapTop (fun i j c => lookC e ⟨r, i, j⟩ v c) d
noncomputable def leftTop (e : Nat) (d : D) : D := mapTop (fun _ _ c => leftC e c) d

noncomputable def rowC : D → Bool
  | .int _ _ | .bool _ | .str _ | .nil | .gptr _ _ | .nilmap | .map _ | .fn _ _ | .nilfn => true
  | .list .imm _ => true
  | _ => false
noncomputable def stoC : D → Bool
  | .list (.own _) _ => true
  | d => rowC d
noncomputable def locC : D → Bool
  | .list _ _ => true
  | d => rowC d

noncomputable def dOf1 : Value → Option D
  | .int k n => some (.int k n)
  | .bool b => some (.bool b)
  | .string s => some (.str s)
  | .pointer none => some .nil
  | .slice none 0 0 => some (.list (.own 0) [])
  | .map none => some .nilmap
  | .nilFunc => some .nilfn
  | _ => none
noncomputable def dOfL : List Value → Option (List D)
  | [] => some []
  | v :: r => match dOf1 v, dOfL r with
    | some d, some ds => some (d :: ds)
    | _, _ => none
noncomputable def dOf : Value → Option D
  | .agg cs => (dOfL cs.toList).map .agg
  | v => dOf1 v

noncomputable def cellsD : D → List D
  | .agg cs => cs
  | d => [d]
noncomputable def ofCells (L : Ly) (t : Nat) (cs : List D) : Option D :=
  if cs.length = L.size t then
    if L.agg t then some (.agg cs) else match cs with | [c] => some c | _ => none
  else none

noncomputable def Mt.rv (m : Mt) : Root → Nat
  | .slot t => m.vr t
  | .lbox t => m.lv t
  | .gbox _ => m.era
  | .air _ => 0
noncomputable def up (f : Cn) (t : Nat) : Cn := ⟨cnUp f.l t⟩
noncomputable def Mt.bS (m : Mt) (t : Nat) : Mt := { m with vr := up m.vr t }
noncomputable def Mt.bL (m : Mt) (t : Nat) : Mt := { m with lv := up m.lv t }
noncomputable def Mt.bA (m : Mt) (t : Nat) : Mt := { m with al := up m.al t, lv := up m.lv t }
noncomputable def Mt.bG (m : Mt) : Mt := { m with era := m.era + 1 }
noncomputable def Mt.bE (m : Mt) : Mt := { m with ep := m.ep + 1 }
noncomputable def Mt.bR (m : Mt) : Root → Mt
  | .slot t => m.bS t
  | .lbox t => m.bL t
  | .gbox _ => m.bG
  | .air _ => m

noncomputable def ownAt (t : Nat) (l : List (Nat × D)) : Bool := match lk t l with | some d => hasOwn d | none => false
noncomputable def putS (t : Nat) (d : D) (s : DS) : DS := { s with env := ins t d s.env, m := if ownAt t s.env || hasOwn d then s.m.bS t else s.m }
noncomputable def put (c : FC) (dst : Option Nat) (d : D) (s : DS) : Option DS :=
  match dst with
  | some t => if t < c.n then some (putS t d s) else none
  | none => some s
noncomputable def voidS (c : FC) (dst : Option Nat) (s : DS) : Option DS :=
  match dst with
  | some t => if t < c.n then some { s with env := del t s.env, m := if ownAt t s.env then s.m.bS t else s.m } else none
  | none => some s

noncomputable def partAt (d : D) (i : Nat) : Option D := match d with
  | .tup ds => ds[i]?
  | d => if i = 0 then some d else none
noncomputable def cellAt (d : D) (j : Nat) : Option D := match d with
  | .agg cs => cs[j]?
  | d => if j = 0 then some d else none
noncomputable def setPart (d : D) (i : Nat) (x : D) : D := match d with
  | .tup ds => .tup (ds.set i x)
  | _ => x
noncomputable def setCellD (d : D) (j : Nat) (x : D) : D := match d with
  | .agg cs => .agg (cs.set j x)
  | _ => x
noncomputable def getPl (s : DS) (p : Place) : Option D :=
  match p.r with
  | .slot t => (lk t s.env).bind fun d => (partAt d p.i).bind fun d => cellAt d p.j
  | .lbox t => (lk t s.loc).bind fun cs => if p.i = 0 then cs[p.j]? else none
  | .gbox k => match s.sto[k]? with
    | some (.box cs) => if p.i = 0 then cs[p.j]? else none
    | _ => none
  | .air _ => none
noncomputable def setPl (s : DS) (p : Place) (x : D) : DS :=
  match p.r with
  | .slot t => match lk t s.env with
    | some d => match partAt d p.i with
      | some q => { s with env := ins t (setPart d p.i (setCellD q p.j x)) s.env }
      | none => s
    | none => s
  | .lbox t => match lk t s.loc with
    | some cs => { s with loc := insL t (cs.set p.j x) s.loc }
    | none => s
  | .gbox k => match s.sto[k]? with
    | some (.box cs) => { s with sto := s.sto.set k (.box (cs.set p.j x)) }
    | _ => s
  | .air _ => s
noncomputable def okR (ro : Nat) : Root → Bool
  | .gbox k => decide (ro ≤ k)
  | _ => true
noncomputable def atPr (s : DS) : Option (Place × Nat) → Option (List (List D))
  | some (p, v) => if s.m.rv p.r = v ∧ okR s.m.ro p.r = true then match getPl s p with | some (.list (.own _) ys) => some ys | _ => none else none
  | none => none

noncomputable def lsD (s : DS) : D → Option (List (List D))
  | .list (.own _) xs => some xs
  | .list .imm xs => some xs
  | .list (.cp e p) xs => match atPr s p with
    | some ys => if ys.length = xs.length then some ys else none
    | none => if e = s.m.ep then some xs else none
  | _ => none

noncomputable def lookO (s : DS) : Operand → Option D
  | .tmp t => lk t s.env
  | .const v => dOf v
  | .func f => some (.fn f [])
  | .global _ => none
noncomputable def takeO (s : DS) : Operand → Option (D × DS)
  | .tmp t => match lk t s.env with
    | some d => if hasOwn d then some (d, { s with env := ins t (leftTop s.m.ep d) s.env, m := s.m.bS t }) else some (d, s)
    | none => none
  | x => match lookO s x with
    | some d => some (d, s)
    | none => none
noncomputable def isTup : D → Bool
  | .tup _ => true
  | _ => false
noncomputable def takeL (s : DS) : List Operand → Option (List D × DS)
  | [] => some ([], s)
  | x :: r => match takeO s x with
    | some (d, s1) => if isTup d then none else match takeL s1 r with
      | some (ds, s2) => some (d :: ds, s2)
      | none => none
    | none => none

noncomputable def sliceL {α : Type} (l : List α) (off n : Nat) : Option (List α) := if off + n ≤ l.length then some ((l.drop off).take n) else none
noncomputable def splice {α : Type} (l : List α) (off : Nat) (ys : List α) : List α := l.take off ++ ys ++ l.drop (off + ys.length)

noncomputable def rowOf (s : DS) (e : Option Nat) (p : Option (Place × Nat)) (i : Nat) (row : List D) : Option (List D) :=
  match atPr s p with
  | some ys => match ys[i]? with
    | some r => if r.length = row.length then some r else none
    | none => none
  | none => match e with
    | none => some row
    | some e => if e = s.m.ep then some row else none

noncomputable def seeC (ro k : Nat) (c : D) : D := if k < ro then fz c else c

noncomputable def readD (ro : Nat) (s : DS) (a : D) (n : Nat) : Option (List D) :=
  match a with
  | .lptr t v off => if v = s.m.al t then match lk t s.loc with | some cs => sliceL cs off n | none => none else none
  | .gptr k off => match s.sto[k]? with
    | some (.box cs) => match sliceL cs off n with
      | some ds => some (ds.map (seeC ro k))
      | none => none
    | _ => none
  | .eptr e p i row off => match rowOf s e p i row with
    | some r => sliceL r off n
    | none => none
  | _ => none

noncomputable def rootOf (s : DS) : D → Option (Root × Nat)
  | .lptr t _ off => some (.lbox t, off)
  | .gptr k off => some (.gbox k, off)
  | _ => none

noncomputable def loadD (L : Ly) (c : FC) (ro : Nat) (s : DS) (dst : Option Nat) (t : Nat) (a : D) : Option DS :=
  match readD ro s a (L.size t) with
  | none => none
  | some cs =>
    if cs.any isOwn then
      match rootOf s a, dst with
      | some (r, off), some x =>
        if c.xf.contains x then
          match r with
          | .lbox u => match lk u s.loc with
            | some bs => if c.fl.contains x then match ofCells L t (cs.map fz) with
                | some d => put c dst d { s with loc := insL u (splice bs off (cs.map fz)) s.loc, m := s.m.bL u }
                | none => none
              else match ofCells L t cs with
              | some d => put c dst d { s with loc := insL u (splice bs off (cs.map (leftC s.m.ep))) s.loc, m := s.m.bL u }
              | none => none
            | none => none
          | .gbox k => match s.sto[k]? with
            | some (.box bs) => if c.fl.contains x then match ofCells L t (cs.map fz) with
                | some d => put c dst d { s with sto := s.sto.set k (.box (splice bs off (cs.map fz))), m := s.m.bG }
                | none => none
              else match ofCells L t cs with
              | some d => put c dst d { s with sto := s.sto.set k (.box (splice bs off (cs.map fun x => if isOwn x then .dead else x))), m := s.m.bG }
              | none => none
            | _ => none
          | _ => none
        else match ofCells L t (mapIx (fun j x => lookC s.m.ep ⟨r, 0, j⟩ (s.m.rv r) x) off cs) with
          | some d => put c dst d s
          | none => none
      | _, _ => none
    else match ofCells L t cs with
      | some d => put c dst d s
      | none => none

noncomputable def storeD (L : Ly) (c : FC) (ro : Nat) (s : DS) (t : Nat) (a v : D) : Option DS :=
  let cs := cellsD v
  if cs.length = L.size t ∧ t < L.length then
    match a with
    | .lptr u ver off =>
      if ver = s.m.al u then match lk u s.loc with
        | some bs =>
          if off + cs.length ≤ bs.length then
            let ys := if c.kb.contains u then cs else cs.map fz
            if ys.all locC then
              some { s with loc := insL u (splice bs off ys) s.loc, m := if ys.any isOwn then s.m.bL u else s.m }
            else none
          else none
        | none => none
      else none
    | .gptr k off =>
      if ro ≤ k then match s.sto[k]? with
        | some (.box bs) =>
          if off + cs.length ≤ bs.length && cs.all stoC then
            some { s with sto := s.sto.set k (.box (splice bs off cs)), m := if cs.any isOwn then s.m.bG else s.m }
          else none
        | _ => none
      else none
    | .eptr _ (some (p, ver)) i row off =>
      if s.m.rv p.r = ver ∧ okR ro p.r = true then
        match getPl s p with
        | some (.list (.own sz) ys) => match ys[i]? with
          | some r =>
            let zs := cs.map fz
            if off + zs.length ≤ r.length && zs.all rowC && r.length == row.length then
              let s1 := setPl s p (.list (.own sz) (ys.set i (splice r off zs)))
              some { s1 with m := s1.m.bE }
            else none
          | none => none
        | _ => none
      else none
    | _ => none
  else none

noncomputable def boxD (c : FC) (s : DS) (dst : Option Nat) (cs : List D) : Option DS :=
  match dst with
  | none => none
  | some t =>
    if c.gl.contains t then
      let ys := if c.kb.contains t then cs else cs.map fz
      if ys.all stoC then put c dst (.gptr s.sto.length 0) { s with sto := s.sto ++ [.box ys], m := if ys.any isOwn then s.m.bG else s.m } else none
    else
      let ys := if c.kb.contains t then cs else cs.map fz
      if ys.all locC && !c.kp.contains t then put c dst (.lptr t (s.m.al t + 1) 0) { s with loc := insL t ys s.loc, m := s.m.bA t } else none

noncomputable def eqS : D → D → Option Bool
  | .int k a, .int k' b => if k = k' then some (decide (a = b)) else none
  | .bool a, .bool b => some (a == b)
  | .str a, .str b => some (decide (a = b))
  | _, _ => none
noncomputable def eqL : List D → List D → Option Bool
  | [], [] => some true
  | a :: x, b :: y => match eqS a b, eqL x y with
    | some p, some q => some (p && q)
    | _, _ => none
  | _, _ => none
noncomputable def isPtr : D → Bool
  | .lptr _ _ _ | .gptr _ _ => true
  | _ => false
noncomputable def eqD (L : Ly) (t : Nat) (x y : D) : Option Bool :=
  match L.tk t, x, y with
  | .int _, .int k a, .int k' b => if k = k' then some (decide (a = b)) else none
  | .str, .str a, .str b => some (decide (a = b))
  | .bool, .bool a, .bool b => some (a == b)
  | .ptr _, .nil, .nil => some true
  | .ptr _, .nil, y => if isPtr y then some false else none
  | .ptr _, x, .nil => if isPtr x then some false else none
  | .struct _, .agg xs, .agg ys => if L.eqt t && okKs (L.ks t) xs && okKs (L.ks t) ys then eqL xs ys else none
  | _, _, _ => none

noncomputable def arithI (op : BinOp) (k : IntKind) (a b : Int) : Option D :=
  match op with
  | .add => some (.int k (k.wrap (a + b)))
  | .sub => some (.int k (k.wrap (a - b)))
  | .mul => some (.int k (k.wrap (a * b)))
  | .quo => if b = 0 then none else some (.int k (k.wrap (a.tdiv b)))
  | .rem => if b = 0 then none else some (.int k (a.tmod b))
  | .and => some (.int k (k.wrap (BitVec.ofInt k.bits a &&& BitVec.ofInt k.bits b).toNat))
  | .or => some (.int k (k.wrap (BitVec.ofInt k.bits a ||| BitVec.ofInt k.bits b).toNat))
  | .xor => some (.int k (k.wrap (BitVec.ofInt k.bits a ^^^ BitVec.ofInt k.bits b).toNat))
  | .andNot => some (.int k (k.wrap (BitVec.ofInt k.bits a &&& ~~~BitVec.ofInt k.bits b).toNat))
  | .eql => some (.bool (decide (a = b)))
  | .neq => some (.bool (!decide (a = b)))
  | .lss => some (.bool (decide (a < b)))
  | .leq => some (.bool (decide (a ≤ b)))
  | .gtr => some (.bool (decide (a > b)))
  | .geq => some (.bool (decide (a ≥ b)))
  | _ => none
noncomputable def shiftI (op : BinOp) (k : IntKind) (a b : Int) : Option D :=
  if b < 0 then none else
  match op with
  | .shl => some (.int k (k.wrap (a * 2 ^ min b.toNat k.bits)))
  | .shr => some (.int k (a.fdiv (2 ^ min b.toNat k.bits)))
  | _ => none
noncomputable def binD (L : Ly) (t : Nat) (op : BinOp) (x y : D) : Option D :=
  match op, x, y with
  | .shl, .int k a, .int _ b => shiftI .shl k a b
  | .shr, .int k a, .int _ b => shiftI .shr k a b
  | op, .int k a, .int k' b => if k = k' then arithI op k a b else none
  | .add, .str a, .str b => if a.size + b.size ≤ 9223372036854775807 then some (.str (a ++ b)) else none
  | .eql, .str a, .str b => some (.bool (decide (a = b)))
  | .neq, .str a, .str b => some (.bool (!decide (a = b)))
  | .eql, x, y => (eqD L t x y).map .bool
  | .neq, x, y => (eqD L t x y).map fun b => .bool (!b)
  | _, _, _ => none
noncomputable def unD (op : UnOp) (x : D) : Option D :=
  match op, x with
  | .neg, .int k n => some (.int k (k.wrap (0 - n)))
  | .xor, .int k n => some (.int k (k.wrap (BitVec.ofInt k.bits (if k.signed then -1 else k.max) ^^^ BitVec.ofInt k.bits n).toNat))
  | .not, .bool b => some (.bool !b)
  | _, _ => none

noncomputable def bytesRows (s : ByteArray) : List (List D) := s.data.toList.map fun b => [.int .u8 (b.toNat : Int)]
noncomputable def rowsBytes : List (List D) → Option (List UInt8)
  | [] => some []
  | [.int .u8 n] :: r => (rowsBytes r).map (UInt8.ofNat n.toNat :: ·)
  | _ :: _ => none

noncomputable def fillD (pl : Nat → Option (Nat × Nat)) (cs : List D) : List (Nat × D) → Option (List D)
  | [] => some cs
  | (i, v) :: r => match pl i with
    | none => none
    | some (off, n) => if (cellsD v).length = n ∧ off + n ≤ cs.length then fillD pl (splice cs off (cellsD v)) r else none
noncomputable def placeOf (L : Ly) (t : Nat) : Option (Nat → Option (Nat × Nat)) :=
  match L.tk t with
  | .struct fs => if fs.all fun f => decide (f.2 < L.length) then some fun i => (fs[i]?).map fun f => (f.1, L.size f.2) else none
  | .array _ e => if e < L.length then some fun i => some (i * L.size e, L.size e) else none
  | _ => none
noncomputable def rowsOf (n : Nat) : Nat → List D → List (List D)
  | 0, _ => []
  | m + 1, cs => cs.take n :: rowsOf n m (cs.drop n)

noncomputable def idxD (d : D) (n : Nat) : Option Nat := match d with
  | .int _ i => if 0 ≤ i ∧ i < n then some i.toNat else none
  | _ => none
noncomputable def bndD (s : DS) (x : Option Operand) (dflt : Nat) (most : Nat) : Option Nat :=
  match x with
  | none => if dflt ≤ most then some dflt else none
  | some x => match lookO s x with
    | some (.int _ i) => if 0 ≤ i ∧ i ≤ most then some i.toNat else none
    | _ => none

noncomputable def sliceStrD (c : FC) (s : DS) (dst : Option Nat) (x : Operand) (lo hi : Option Operand) : Option DS :=
  match lookO s x with
  | some (.str b) => match bndD s hi b.size b.size with
    | some h => match bndD s lo 0 h with
      | some l => put c dst (.str (b.extract l h)) s
      | none => none
    | none => none
  | _ => none
noncomputable def allLen (n : Nat) (ys : List (List D)) : Bool := ys.all fun r => r.length == n
noncomputable def takes (c : FC) (dst : Option Nat) : Bool := match dst with | some d => c.xf.contains d | none => false
noncomputable def sliceLsD (L : Ly) (c : FC) (s : DS) (dst : Option Nat) (e : Nat) (x : Operand) (lo hi : Option Operand) : Option DS :=
  match lookO s x with
  | some (.list q xs) => match lsD s (.list q xs) with
    | none => none
    | some ys => if 0 < L.size e ∧ allLen (L.size e) ys = true then match bndD s hi ys.length ys.length with
      | some h => match bndD s lo 0 h with
        | some l =>
          match q with
          | .imm => put c dst (.list .imm ((ys.drop l).take (h - l))) s
          | .cp _ _ => put c dst (.list (.cp s.m.ep none) ((ys.drop l).take (h - l))) s
          | .own sz => match takeO s x with
            | some (_, s1) =>
              if takes c dst && h == ys.length && decide (l < h) then put c dst (.list (.own sz) ((ys.drop l).take (h - l))) s1
              else put c dst (.list .imm ((ys.drop l).take (h - l))) s1
            | none => none
        | none => none
      | none => none
      else none
  | _ => none

noncomputable def room : Nat := 140737488355328

noncomputable def appendD (L : Ly) (c : FC) (s : DS) (dst : Option Nat) (e : Nat) (x y : Operand) : Option DS :=
  match (match lookO s y with
    | some (.str b) => some (bytesRows b)
    | some d => lsD s d
    | none => none) with
  | none => none
  | some ys => match takeO s x with
    | some (.list (.own sz) xs, s1) =>
      if (sz = 0 || sz = L.size e) && decide (0 < L.size e) && decide (0 < L.bytes e) && decide ((xs.length + ys.length) * L.bytes e ≤ room) && allLen (L.size e) ys && (L.zero e).isSome then
        put c dst (.list (.own (L.size e)) (xs ++ ys)) s1
      else none
    | _ => none

noncomputable def copyD (L : Ly) (ro : Nat) (c : FC) (s : DS) (dst : Option Nat) (e : Nat) (x y : Operand) : Option DS :=
  match lookO s x, (match lookO s y with | some (.str b) => some (bytesRows b) | some d => lsD s d | none => none) with
  | some (.list (.cp _ (some (p, v))) xs), some ys =>
    if (s.m.rv p.r = v ∧ okR ro p.r = true) ∧ 0 < L.size e ∧ allLen (L.size e) ys = true then
      match getPl s p with
      | some (.list (.own sz) zs) =>
        if zs.length = xs.length ∧ sz = L.size e then
          if min ys.length zs.length = 0 then put c dst (.int .i64 0) s
          else
            let s1 := setPl s p (.list (.own sz) (ys.take (min ys.length zs.length) ++ zs.drop (min ys.length zs.length)))
            put c dst (.int .i64 ((min ys.length zs.length : Nat) : Int)) { s1 with m := s1.m.bE }
        else none
      | _ => none
    else none
  | _, _ => none

noncomputable def sclC : D → Bool
  | .int _ _ | .bool _ | .str _ => true
  | _ => false
noncomputable def keyC : D → Bool
  | .agg cs => cs.all sclC
  | d => sclC d
noncomputable def keyT (L : Ly) (t : Nat) (d : D) : Bool :=
  match L.tk t, d with
  | .int k, .int k' _ => decide (k = k')
  | .str, .str _ => true
  | .bool, .bool _ => true
  | .struct _, .agg cs => L.eqt t && okKs (L.ks t) cs && cs.all sclC
  | _, _ => false
noncomputable def findE (L : Ly) (t : Nat) (k : D) : List (D × D) → Option (Option D)
  | [] => some none
  | x :: r => match eqD L t k x.1 with
    | some true => some (some x.2)
    | some false => findE L t k r
    | none => none
noncomputable def setE (L : Ly) (t : Nat) (k v : D) : List (D × D) → Option (List (D × D))
  | [] => some [(k, v)]
  | x :: r => match eqD L t k x.1 with
    | some true => some ((x.1, v) :: r)
    | some false => match setE L t k v r with | some r' => some (x :: r') | none => none
    | none => none
noncomputable def nrE (L : Ly) (t : Nat) (k : D) : List (D × D) → Nat
  | [] => 0
  | x :: r => match eqD L t k x.1 with
    | some true => 0
    | _ => nrE L t k r + 1
noncomputable def mapEs (s : DS) : D → Option (List (D × D))
  | .nilmap => some []
  | .map k => match s.sto[k]? with | some (.map es) => some es | _ => none
  | _ => none
noncomputable def zeroD (L : Ly) (e : Nat) : Option D := match L.zero e with | some z => ofCells L e z | none => none
noncomputable def lookupD (L : Ly) (c : FC) (s : DS) (dst : Option Nat) (t : Nat) (mp key : D) (ok : Bool) : Option DS :=
  match L.tk t, mapEs s mp with
  | .map kt e, some es =>
    if keyT L kt key then match findE L kt key es, zeroD L e with
      | some r, some z =>
        let v := r.getD z
        put c dst (if ok then .tup [v, .bool r.isSome] else v) s
      | _, _ => none
    else none
  | _, _ => none
noncomputable def mapUpdateD (L : Ly) (ro : Nat) (s : DS) (t : Nat) (mp key v : D) : Option DS :=
  match L.tk t, mp with
  | .map kt _, .map k =>
    if ro ≤ k && keyT L kt key && keyC v then match s.sto[k]? with
      | some (.map es) => match setE L kt key v es with
        | some es' => some { s with sto := s.sto.set k (.map es') }
        | none => none
      | _ => none
    else none
  | _, _ => none
noncomputable def mapEntryD (L : Ly) (ro : Nat) (c : FC) (s : DS) (dst : Option Nat) (t : Nat) (mp key : D) : Option DS :=
  match L.tk t, mp with
  | .map kt e, .map k =>
    if ro ≤ k && keyT L kt key then match s.sto[k]?, zeroD L e with
      | some (.map es), some z => match findE L kt key es with
        | some (some v) => put c dst (.tup [v, .stamp s.m.era k (nrE L kt key es)]) s
        | some none => if keyC z then put c dst (.tup [z, .stamp s.m.era k es.length]) { s with sto := s.sto.set k (.map (es ++ [(key, z)])) } else none
        | none => none
      | _, _ => none
    else none
  | _, _ => none
noncomputable def entryStoreD (ro : Nat) (s : DS) (mp st v : D) : Option DS :=
  match mp, st with
  | .map k, .stamp e k' i =>
    if ro ≤ k && k == k' && e == s.m.era && keyC v then match s.sto[k]? with
      | some (.map es) => match es[i]? with
        | some x => some { s with sto := s.sto.set k (.map (es.set i (x.1, v))) }
        | none => none
      | _ => none
    else none
  | _, _ => none

noncomputable def offD (a : D) (n : Nat) : Option D := match a with
  | .lptr t v off => some (.lptr t v (off + n))
  | .gptr k off => some (.gptr k (off + n))
  | .eptr e p i row off => some (.eptr e p i row (off + n))
  | _ => none
noncomputable def indexAddrD (L : Ly) (s : DS) (t : Nat) (xo : Operand) (x i : D) : Option D :=
  match L.tk t with
  | .slice e => match x, lsD s x with
    | .list q _, some ys => match idxD i ys.length with
      | some k => match ys[k]? with
        | some row => if row.length = L.size e ∧ 0 < L.size e then
            match q with
            | .imm => some (.eptr none none k row 0)
            | .cp _ p => some (.eptr (some s.m.ep) p k row 0)
            | .own _ => match xo with
              | .tmp u => some (.eptr (some s.m.ep) (some (⟨.slot u, 0, 0⟩, s.m.vr u)) k row 0)
              | _ => none
          else none
        | none => none
      | none => none
    | _, _ => none
  | .array n e => match idxD i n with
    | some k => if 0 < L.size e then offD x (k * L.size e) else none
    | none => none
  | _ => none
noncomputable def indexD (L : Ly) (t : Nat) (x i : D) : Option D :=
  match L.tk t, x with
  | .str, .str b => match idxD i b.size with
    | some k => match b.data.toList[k]? with
      | some c => some (.int .u8 (c.toNat : Int))
      | none => none
    | none => none
  | .array n e, .agg cs => match idxD i n with
    | some k => match sliceL cs (k * L.size e) (L.size e) with
      | some ds => if ds.any isOwn then none else ofCells L e ds
      | none => none
    | none => none
  | _, _ => none
noncomputable def fieldOf (L : Ly) (t f : Nat) : Option (Nat × Nat) := match L.tk t with
  | .struct fs => fs[f]?
  | _ => none
noncomputable def fieldD (L : Ly) (c : FC) (s : DS) (dst : Option Nat) (t : Nat) (x : Operand) (f : Nat) : Option DS :=
  match fieldOf L t f, lookO s x with
  | some (off, u), some (.agg cs) => match sliceL cs off (L.size u) with
    | some ds => match ofCells L u ds with
      | some d => if ds.any isOwn then match x with
          | .tmp y => put c dst d { s with env := ins y (.agg (splice cs off (ds.map (leftC s.m.ep)))) s.env, m := s.m.bS y }
          | _ => none
        else put c dst d s
      | none => none
    | none => none
  | _, _ => none
noncomputable def extractD (c : FC) (s : DS) (dst : Option Nat) (x : Operand) (i : Nat) : Option DS :=
  match x, lookO s x with
  | .tmp y, some (.tup ds) => match ds[i]? with
    | some d => if hasOwn d then put c dst d { s with env := ins y (.tup (ds.set i (leftTop s.m.ep d))) s.env, m := s.m.bS y } else put c dst d s
    | none => none
  | _, _ => none
noncomputable def convertD (L : Ly) (c : FC) (s : DS) (dst : Option Nat) (src to : Nat) (x : Operand) : Option DS :=
  match L.tk src, L.tk to, lookO s x with
  | .int _, .int k, some (.int _ n) => put c dst (.int k (k.wrap n)) s
  | .str, .str, some (.str b) => put c dst (.str b) s
  | .slice e, .str, some d => match L.tk e, lsD s d with
    | .int .u8, some ys => match rowsBytes ys with
      | some l => put c dst (.str ⟨l.toArray⟩) s
      | none => none
    | _, _ => none
  | .str, .slice e, some (.str b) => match L.tk e with
    | .int .u8 => put c dst (.list (.own 1) (bytesRows b)) s
    | _ => none
  | _, _, _ => none
noncomputable def lenD (L : Ly) (t : Nat) (s : DS) (d : D) : Option Nat :=
  match L.tk t, d with
  | .slice _, .list _ xs => some xs.length
  | .str, .str b => some b.size
  | .map _ _, d => (mapEs s d).map List.length
  | _, _ => none
noncomputable def lookL (s : DS) : List Operand → Option (List D)
  | [] => some []
  | x :: r => match lookO s x, lookL s r with
    | some d, some ds => some (d :: ds)
    | _, _ => none
noncomputable def zipParts : List (Nat × Operand) → List D → List (Nat × D)
  | p :: ps, d :: ds => (p.1, d) :: zipParts ps ds
  | _, _ => []

noncomputable def lenOp (L : Ly) (c : FC) (s : DS) (dst : Option Nat) : List Operand → List Nat → Option DS
  | [x], t :: _ => match lookO s x with
    | some d => match lenD L t s d with
      | some n => put c dst (.int .i64 n) s
      | none => none
    | none => none
  | _, _ => none
noncomputable def appendOp (L : Ly) (c : FC) (s : DS) (dst : Option Nat) : List Operand → List Nat → Option DS
  | [x, y], [t, u] => match L.tk t, L.tk u with
    | .slice e, .slice _ => appendD L c s dst e x y
    | .slice e, .str => appendD L c s dst e x y
    | _, _ => none
  | _, _ => none
noncomputable def copyOp (L : Ly) (ro : Nat) (c : FC) (s : DS) (dst : Option Nat) : List Operand → List Nat → Option DS
  | [x, y], t :: _ => match L.tk t with
    | .slice e => copyD L ro c s dst e x y
    | _ => none
  | _, _ => none
noncomputable def minmaxOp (f : Int → Int → Int) (c : FC) (s : DS) (dst : Option Nat) : List Operand → Option DS
  | [x, y] => match lookO s x, lookO s y with
    | some (.int k a), some (.int k' b) => if k = k' then put c dst (.int k (f a b)) s else none
    | _, _ => none
  | _ => none
noncomputable def builtinD (L : Ly) (ro : Nat) (c : FC) (s : DS) (dst : Option Nat) (b : Builtin) (args : List Operand) (tys : List Nat) : Option DS :=
  match b with
  | .len => lenOp L c s dst args tys
  | .append => appendOp L c s dst args tys
  | .copy => copyOp L ro c s dst args tys
  | .min => minmaxOp min c s dst args
  | .max => minmaxOp max c s dst args
  | _ => none

noncomputable def fsO (c : FC) : Operand → Bool
  | .tmp t => c.fs.contains t
  | _ => false

noncomputable def opD (L : Ly) (c : FC) (ro : Nat) (s : DS) (o : Oper) : Option DS :=
  match o.op with
  | .move x => match lookO s x with
    | none => none
    | some d =>
      if hasOwn d then match x, o.dst with
        | .tmp t, some u => if c.xf.contains u then match takeO s x with | some (d, s1) => put c o.dst d s1 | none => none
          else put c o.dst (lookTop s.m.ep (.slot t) (s.m.vr t) d) s
        | .const _, _ => put c o.dst d s
        | _, _ => none
      else put c o.dst d s
  | .assign x => match takeO s x, o.dst with
    | some (d, s1), some t => if c.ko.contains t then put c o.dst d s1 else put c o.dst (fzTop d) s1
    | _, _ => none
  | .pick b x y => match lookO s b with
    | some (.bool p) => match lookO s (if p then x else y) with
      | some d => if hasOwn d then none else put c o.dst d s
      | none => none
    | _ => none
  | .alloc t => match L.zero t with | some cs => boxD c s o.dst cs | none => none
  | .box t x => match takeO s x with
    | some (d, s1) => if (cellsD d).length = L.size t then boxD c s1 o.dst (cellsD d) else none
    | none => none
  | .build t ps => match placeOf L t, L.zero t, takeL s (ps.toList.map (·.2)) with
    | some pl, some z, some (ds, s1) => match fillD pl z (zipParts ps.toList ds) with
      | some cs => put c o.dst (.agg cs) s1
      | none => none
    | _, _, _ => none
  | .buildSlice t n ps => match L.tk t with
    | .slice e => match L.zero e, takeL s (ps.toList.map (·.2)) with
      | some z, some (ds, s1) =>
        if 0 < L.size e ∧ n * L.size e ≤ 16777216 then
          match fillD (fun i => some (i * L.size e, L.size e)) ((List.replicate n (z.map fz)).flatten) (zipParts ps.toList (ds.map fzTop)) with
          | some cs => if cs.all rowC then put c o.dst (.list (.own (L.size e)) (rowsOf (L.size e) n cs)) s1 else none
          | none => none
        else none
      | _, _ => none
    | _ => none
  | .load t a => match lookO s a with | some a => loadD L c ro s o.dst t a | none => none
  | .store t a v => match takeO s v with
    | some (d, s1) => match lookO s1 a with
      | some a => match storeD L c ro s1 t a (if fsO c v then fzTop d else d) with
        | some s2 => voidS c o.dst s2
        | none => none
      | none => none
    | none => none
  | .nilCheck x => match lookO s x with
    | some (.lptr t v n) => put c o.dst (.lptr t v n) s
    | some (.gptr k n) => put c o.dst (.gptr k n) s
    | some (.eptr e p i r n) => put c o.dst (.eptr e p i r n) s
    | some (.fn f cs) => put c o.dst (.fn f cs) s
    | _ => none
  | .binOp op t x y _ => match lookO s x, lookO s y with
    | some a, some b => match binD L t op a b with
      | some d => put c o.dst d s
      | none => none
    | _, _ => none
  | .unOp op _ x => match lookO s x with
    | some a => match unD op a with | some d => put c o.dst d s | none => none
    | none => none
  | .convert a b x => convertD L c s o.dst a b x
  | .makeFunc (.func f) first caps => if first.size = 0 then match lookL s caps.toList with
      | some ds => if ds.all rowC then put c o.dst (.fn f ds) s else none
      | none => none
    else none
  | .makeMap t r => match (match r with | none => some () | some x => match L.tk t, lookO s x with | .map _ _, some (.int _ _) => some () | _, _ => none) with
    | some _ => put c o.dst (.map s.sto.length) { s with sto := s.sto ++ [.map []] }
    | none => none
  | .makeSlice t n m => match L.tk t with
    | .slice e => match lookO s n, lookO s m, L.zero e with
      | some (.int _ a), some (.int _ b), some z =>
        if 0 ≤ a ∧ a ≤ b ∧ b * L.bytes e ≤ 2 * room ∧ b ≤ 9223372036854775807 ∧ 0 < L.size e then
          put c o.dst (.list (.own (L.size e)) (List.replicate a.toNat (z.map fz))) s
        else none
      | _, _, _ => none
    | _ => none
  | .slice t x lo hi mx => match mx, L.tk t with
    | none, .slice e => sliceLsD L c s o.dst e x lo hi
    | none, .str => sliceStrD c s o.dst x lo hi
    | _, _ => none
  | .fieldAddr t x f => match fieldOf L t f, lookO s x with
    | some (off, u), some a => if 0 < L.size u then match offD a off with | some d => put c o.dst d s | none => none else none
    | _, _ => none
  | .field t x f => fieldD L c s o.dst t x f
  | .indexAddr t x i => match lookO s x, lookO s i with
    | some a, some b => match indexAddrD L s t x a b with | some d => put c o.dst d s | none => none
    | _, _ => none
  | .index t x i => match lookO s x, lookO s i with
    | some a, some b => match indexD L t a b with | some d => put c o.dst d s | none => none
    | _, _ => none
  | .lookup t m k ok => match lookO s m, lookO s k with
    | some a, some b => lookupD L c s o.dst t a b ok
    | _, _ => none
  | .mapUpdate t m k x => match lookO s m, lookO s k, lookO s x with
    | some a, some b, some v => match mapUpdateD L ro s t a b v with | some s1 => voidS c o.dst s1 | none => none
    | _, _, _ => none
  | .mapEntry t m k => match lookO s m, lookO s k with
    | some a, some b => mapEntryD L ro c s o.dst t a b
    | _, _ => none
  | .entryStore _ m st x => match lookO s m, lookO s st, lookO s x with
    | some a, some b, some v => match entryStoreD ro s a b v with | some s1 => voidS c o.dst s1 | none => none
    | _, _, _ => none
  | .extract x i => extractD c s o.dst x i
  | .call { callee := .builtin b, args, argTypes } => builtinD L ro c s o.dst b args.toList argTypes.toList
  | _ => none

end Go.Lv
