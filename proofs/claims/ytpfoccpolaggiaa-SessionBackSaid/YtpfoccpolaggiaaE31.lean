/-
  E31: opD split.
-/
import Derived.Test.YtpfoccpolaggiaaA31
set_option linter.all false
namespace Go.Lv
noncomputable def eMove (L : Ly) (c : FC) (ro : Nat) (s : DS) (o : Oper) (x : Operand) : Option DS :=
  match lookO s x with
    | none => none
    | some d =>
      if hasOwn d then match x, o.dst with
        | .tmp t, some u => if c.xf.contains u then match takeO s x with | some (d, s1) => put c o.dst d s1 | none => none
          else put c o.dst (lookTop s.m.ep (.slot t) (s.m.vr t) d) s
        | .const _, _ => put c o.dst d s
        | _, _ => none
      else put c o.dst d s
noncomputable def eAssign (L : Ly) (c : FC) (ro : Nat) (s : DS) (o : Oper) (x : Operand) : Option DS :=
  match takeO s x, o.dst with
    | some (d, s1), some t => if c.ko.contains t then put c o.dst d s1 else put c o.dst (fzTop d) s1
    | _, _ => none
noncomputable def ePick (L : Ly) (c : FC) (ro : Nat) (s : DS) (o : Oper) (b x y : Operand) : Option DS :=
  match lookO s b with
    | some (.bool p) => match lookO s (if p then x else y) with
      | some d => if hasOwn d then none else put c o.dst d s
      | none => none
    | _ => none
noncomputable def eAlloc (L : Ly) (c : FC) (ro : Nat) (s : DS) (o : Oper) (t : Nat) : Option DS :=
  match L.zero t with | some cs => boxD c s o.dst cs | none => none
noncomputable def eBox (L : Ly) (c : FC) (ro : Nat) (s : DS) (o : Oper) (t : Nat) (x : Operand) : Option DS :=
  match takeO s x with
    | some (d, s1) => if (cellsD d).length = L.size t then boxD c s1 o.dst (cellsD d) else none
    | none => none
noncomputable def eBuild (L : Ly) (c : FC) (ro : Nat) (s : DS) (o : Oper) (t : Nat) (ps : Array (Nat × Operand)) : Option DS :=
  match placeOf L t, L.zero t, takeL s (ps.toList.map (·.2)) with
    | some pl, some z, some (ds, s1) => match fillD pl z (zipParts ps.toList ds) with
      | some cs => put c o.dst (.agg cs) s1
      | none => none
    | _, _, _ => none
noncomputable def eBuildSlice (L : Ly) (c : FC) (ro : Nat) (s : DS) (o : Oper) (t n : Nat) (ps : Array (Nat × Operand)) : Option DS :=
  match L.tk t with
    | .slice e => match L.zero e, takeL s (ps.toList.map (·.2)) with
      | some z, some (ds, s1) =>
        if 0 < L.size e ∧ n * L.size e ≤ 16777216 then
          match fillD (fun i => some (i * L.size e, L.size e)) ((List.replicate n (z.map fz)).flatten) (zipParts ps.toList (ds.map fzTop)) with
          | some cs => if cs.all rowC then put c o.dst (.list (.own (L.size e)) (rowsOf (L.size e) n cs)) s1 else none
          | none => none
        else none
      | _, _ => none
    | _ => none
noncomputable def eLoad (L : Ly) (c : FC) (ro : Nat) (s : DS) (o : Oper) (t : Nat) (a : Operand) : Option DS :=
  match lookO s a with | some a => loadD L c ro s o.dst t a | none => none
noncomputable def eStore (L : Ly) (c : FC) (ro : Nat) (s : DS) (o : Oper) (t : Nat) (a v : Operand) : Option DS :=
  match takeO s v with
    | some (d, s1) => match lookO s1 a with
      | some a => match storeD L c ro s1 t a (if fsO c v then fzTop d else d) with
        | some s2 => voidS c o.dst s2
        | none => none
      | none => none
    | none => none
noncomputable def eNilCheck (L : Ly) (c : FC) (ro : Nat) (s : DS) (o : Oper) (x : Operand) : Option DS :=
  match lookO s x with
    | some (.lptr t v n) => put c o.dst (.lptr t v n) s
    | some (.gptr k n) => put c o.dst (.gptr k n) s
    | some (.eptr e p i r n) => put c o.dst (.eptr e p i r n) s
    | some (.fn f cs) => put c o.dst (.fn f cs) s
    | _ => none
noncomputable def eBinOp (L : Ly) (c : FC) (ro : Nat) (s : DS) (o : Oper) (op : BinOp) (t : Nat) (x y : Operand) : Option DS :=
  match lookO s x, lookO s y with
    | some a, some b => match binD L t op a b with
      | some d => put c o.dst d s
      | none => none
    | _, _ => none
noncomputable def eUnOp (L : Ly) (c : FC) (ro : Nat) (s : DS) (o : Oper) (op : UnOp) (x : Operand) : Option DS :=
  match lookO s x with
    | some a => match unD op a with | some d => put c o.dst d s | none => none
    | none => none
noncomputable def eConvert (L : Ly) (c : FC) (ro : Nat) (s : DS) (o : Oper) (a b : Nat) (x : Operand) : Option DS :=
  convertD L c s o.dst a b x
noncomputable def eMakeFunc (L : Ly) (c : FC) (ro : Nat) (s : DS) (o : Oper) (f : Nat) (first caps : Array Operand) : Option DS :=
  if first.size = 0 then match lookL s caps.toList with
      | some ds => if ds.all rowC then put c o.dst (.fn f ds) s else none
      | none => none
    else none
noncomputable def eMakeMap (L : Ly) (c : FC) (ro : Nat) (s : DS) (o : Oper) (t : Nat) (r : Option Operand) : Option DS :=
  match (match r with | none => some () | some x => match L.tk t, lookO s x with | .map _ _, some (.int _ _) => some () | _, _ => none) with
    | some _ => put c o.dst (.map s.sto.length) { s with sto := s.sto ++ [.map []] }
    | none => none
noncomputable def eMakeSlice (L : Ly) (c : FC) (ro : Nat) (s : DS) (o : Oper) (t : Nat) (n m : Operand) : Option DS :=
  match L.tk t with
    | .slice e => match lookO s n, lookO s m, L.zero e with
      | some (.int _ a), some (.int _ b), some z =>
        if 0 ≤ a ∧ a ≤ b ∧ b * L.bytes e ≤ 2 * room ∧ b ≤ 9223372036854775807 ∧ 0 < L.size e then
          put c o.dst (.list (.own (L.size e)) (List.replicate a.toNat (z.map fz))) s
        else none
      | _, _, _ => none
    | _ => none
noncomputable def eSlice (L : Ly) (c : FC) (ro : Nat) (s : DS) (o : Oper) (t : Nat) (x : Operand) (lo hi mx : Option Operand) : Option DS :=
  match mx, L.tk t with
    | none, .slice e => sliceLsD L c s o.dst e x lo hi
    | none, .str => sliceStrD c s o.dst x lo hi
    | _, _ => none
noncomputable def eFieldAddr (L : Ly) (c : FC) (ro : Nat) (s : DS) (o : Oper) (t : Nat) (x : Operand) (f : Nat) : Option DS :=
  match fieldOf L t f, lookO s x with
    | some (off, u), some a => if 0 < L.size u then match offD a off with | some d => put c o.dst d s | none => none else none
    | _, _ => none
noncomputable def eField (L : Ly) (c : FC) (ro : Nat) (s : DS) (o : Oper) (t : Nat) (x : Operand) (f : Nat) : Option DS :=
  fieldD L c s o.dst t x f
noncomputable def eIndexAddr (L : Ly) (c : FC) (ro : Nat) (s : DS) (o : Oper) (t : Nat) (x i : Operand) : Option DS :=
  match lookO s x, lookO s i with
    | some a, some b => match indexAddrD L s t x a b with | some d => put c o.dst d s | none => none
    | _, _ => none
noncomputable def eIndex (L : Ly) (c : FC) (ro : Nat) (s : DS) (o : Oper) (t : Nat) (x i : Operand) : Option DS :=
  match lookO s x, lookO s i with
    | some a, some b => match indexD L t a b with | some d => put c o.dst d s | none => none
    | _, _ => none
noncomputable def eLookup (L : Ly) (c : FC) (ro : Nat) (s : DS) (o : Oper) (t : Nat) (m k : Operand) (ok : Bool) : Option DS :=
  match lookO s m, lookO s k with
    | some a, some b => lookupD L c s o.dst t a b ok
    | _, _ => none
noncomputable def eMapUpdate (L : Ly) (c : FC) (ro : Nat) (s : DS) (o : Oper) (t : Nat) (m k x : Operand) : Option DS :=
  match lookO s m, lookO s k, lookO s x with
    | some a, some b, some v => match mapUpdateD L ro s t a b v with | some s1 => voidS c o.dst s1 | none => none
    | _, _, _ => none
noncomputable def eMapEntry (L : Ly) (c : FC) (ro : Nat) (s : DS) (o : Oper) (t : Nat) (m k : Operand) : Option DS :=
  match lookO s m, lookO s k with
    | some a, some b => mapEntryD L ro c s o.dst t a b
    | _, _ => none
noncomputable def eEntryStore (L : Ly) (c : FC) (ro : Nat) (s : DS) (o : Oper) (m st x : Operand) : Option DS :=
  match lookO s m, lookO s st, lookO s x with
    | some a, some b, some v => match entryStoreD ro s a b v with | some s1 => voidS c o.dst s1 | none => none
    | _, _, _ => none
noncomputable def eExtract (L : Ly) (c : FC) (ro : Nat) (s : DS) (o : Oper) (x : Operand) (i : Nat) : Option DS :=
  extractD c s o.dst x i
/-- opD, one small function an operation. -/
noncomputable def opE (L : Ly) (c : FC) (ro : Nat) (s : DS) (o : Oper) : Option DS :=
  match o.op with
  | .move x => eMove L c ro s o x
  | .assign x => eAssign L c ro s o x
  | .pick b x y => ePick L c ro s o b x y
  | .alloc t => eAlloc L c ro s o t
  | .box t x => eBox L c ro s o t x
  | .build t ps => eBuild L c ro s o t ps
  | .buildSlice t n ps => eBuildSlice L c ro s o t n ps
  | .load t a => eLoad L c ro s o t a
  | .store t a v => eStore L c ro s o t a v
  | .nilCheck x => eNilCheck L c ro s o x
  | .binOp op t x y _ => eBinOp L c ro s o op t x y
  | .unOp op _ x => eUnOp L c ro s o op x
  | .convert a b x => eConvert L c ro s o a b x
  | .makeFunc (.func f) first caps => eMakeFunc L c ro s o f first caps
  | .makeMap t r => eMakeMap L c ro s o t r
  | .makeSlice t n m => eMakeSlice L c ro s o t n m
  | .slice t x lo hi mx => eSlice L c ro s o t x lo hi mx
  | .fieldAddr t x f => eFieldAddr L c ro s o t x f
  | .field t x f => eField L c ro s o t x f
  | .indexAddr t x i => eIndexAddr L c ro s o t x i
  | .index t x i => eIndex L c ro s o t x i
  | .lookup t m k ok => eLookup L c ro s o t m k ok
  | .mapUpdate t m k x => eMapUpdate L c ro s o t m k x
  | .mapEntry t m k => eMapEntry L c ro s o t m k
  | .entryStore _ m st x => eEntryStore L c ro s o m st x
  | .extract x i => eExtract L c ro s o x i
  | .call { callee := .builtin b, args, argTypes } => builtinD L ro c s o.dst b args.toList argTypes.toList
  | _ => none
theorem opE_eq (L : Ly) (c : FC) (ro : Nat) (s : DS) (o : Oper) : opE L c ro s o = opD L c ro s o := by
  unfold opE opD
  cases o.op <;> rfl

end Go.Lv
