/-
  A2: what data say of Go's memory: the relation between an abstract state (A1) and a frame's slots in a world.
-/
import Derived.Test.YtpfoccpolaggiaaA1
import Derived.Below
import Derived.Laws.Entries
import Derived.Laws.Sem
import Derived.Laws.World
set_option linter.all false
namespace Go.Lv

inductive Owner where
  | box (r : Root)
  | lst (p : Place)

/-- What is known beside the state: which block an object of the store, a local box is; who may write a block; how far an own list in it reaches; which beginnings of blocks stay for good; where a place's own list lies. -/
structure Gh where
  be : Nat → Option Nat
  la : Nat → Nat
  own : Nat → Option Owner
  fin : Nat → Nat
  st : Nat → Nat → Prop
  pl : Place → Nat × Nat

noncomputable def Gh.rd (G : Gh) (b n : Nat) : Prop := G.st b n ∨ ((∃ p, G.own b = some (.lst p)) ∧ n ≤ G.fin b)

/-- Data that stay, and a value of Go's that says them. -/
inductive Imm (w : World) (be : Nat → Option Nat) (st : Nat → Nat → Prop) : D → Value → Prop where
  | int (k : IntKind) (n : Int) : Imm w be st (.int k n) (.int k n)
  | bool (b : Bool) : Imm w be st (.bool b) (.bool b)
  | str (s : ByteArray) : Imm w be st (.str s) (.string s)
  | nil : Imm w be st .nil (.pointer none)
  | gptr (k off b : Nat) : be k = some b → Imm w be st (.gptr k off) (.pointer (some ⟨b, off, none⟩))
  | nilmap : Imm w be st .nilmap (.map none)
  | map (k b : Nat) : be k = some b → Imm w be st (.map k) (.map (some b))
  | nilfn : Imm w be st .nilfn .nilFunc
  | fn (f : Nat) (ds : List D) (vs : List Value) : ds.length = vs.length → (∀ (i : Nat) (d : D) (v : Value), ds[i]? = some d → vs[i]? = some v → Imm w be st d v) → Imm w be st (.fn f ds) (.func (.func f) #[] vs.toArray)
  | nils (a : Option Addr) (cap : Nat) : Imm w be st (.list .imm []) (.slice a 0 cap)
  | list (xs : List (List D)) (b off cap sz : Nat) (vals : Nat → Nat → Value) : 0 < xs.length → 0 < sz → xs.length ≤ cap → st b (off + xs.length * sz) → (∀ r, r ∈ xs → r.length = sz) →
      (∀ j c, j < xs.length → c < sz → w.cell? ⟨b, off + (j * sz + c), none⟩ = some (vals j c)) →
      (∀ (j c : Nat) (r : List D) (d : D), xs[j]? = some r → r[c]? = some d → Imm w be st d (vals j c)) → Imm w be st (.list .imm xs) (.slice (some ⟨b, off, none⟩) xs.length cap)

/-- Rows of a list as a block's cells from off on. -/
noncomputable def RowsAt (w : World) (be : Nat → Option Nat) (st : Nat → Nat → Prop) (b off sz : Nat) (xs : List (List D)) : Prop :=
  (∀ r, r ∈ xs → r.length = sz) ∧ ∀ (j c : Nat) (r : List D) (d : D), xs[j]? = some r → r[c]? = some d → ∃ v, w.cell? ⟨b, off + (j * sz + c), none⟩ = some v ∧ Imm w be st d v

theorem Imm.mono {w w' : World} {be be' : Nat → Option Nat} {st st' : Nat → Nat → Prop} (hb : ∀ k b, be k = some b → be' k = some b) (hs : ∀ b n, st b n → st' b n)
    (hc : ∀ b n o, st b n → o < n → w'.cell? ⟨b, o, none⟩ = w.cell? ⟨b, o, none⟩) {d : D} {v : Value} (h : Imm w be st d v) : Imm w' be' st' d v := by
  induction h with
  | int => exact .int _ _
  | bool => exact .bool _
  | str => exact .str _
  | nil => exact .nil
  | gptr k off b h => exact .gptr _ _ _ (hb _ _ h)
  | nilmap => exact .nilmap
  | map k b h => exact .map _ _ (hb _ _ h)
  | nilfn => exact .nilfn
  | fn f ds vs hl _ ih => exact .fn _ _ _ hl ih
  | nils => exact .nils _ _
  | list xs b off cap sz vals h1 h2 h3 h4 h5 h6 _ ih =>
    refine .list xs b off cap sz vals h1 h2 h3 (hs _ _ h4) h5 (fun j c hj hc' => ?_) ih
    rw [hc b _ _ h4, h6 j c hj hc']
    have : j * sz + c < xs.length * sz := by
      have : (j + 1) * sz ≤ xs.length * sz := Nat.mul_le_mul_right _ hj
      rw [Nat.succ_mul] at this
      omega
    omega

theorem imm_list {w : World} {be : Nat → Option Nat} {st : Nat → Nat → Prop} {xs : List (List D)} {v : Value} :
    Imm w be st (.list .imm xs) v ↔ (xs = [] ∧ ∃ a cap, v = .slice a 0 cap) ∨ ∃ b off cap sz, v = .slice (some ⟨b, off, none⟩) xs.length cap ∧ 0 < xs.length ∧ 0 < sz ∧ xs.length ≤ cap ∧ st b (off + xs.length * sz) ∧ RowsAt w be st b off sz xs := by
  constructor
  · intro h
    cases h with
    | nils a cap => exact .inl ⟨rfl, a, cap, rfl⟩
    | list xs b off cap sz vals h1 h2 h3 h4 h5 h6 h7 =>
      refine .inr ⟨b, off, cap, sz, rfl, h1, h2, h3, h4, h5, fun j c r d hr hd => ?_⟩
      have hj : j < xs.length := (List.getElem?_eq_some_iff.1 hr).1
      have hc : c < sz := by
        have h8 := (List.getElem?_eq_some_iff.1 hd).1
        rwa [h5 r (List.mem_of_getElem? hr)] at h8
      exact ⟨vals j c, h6 j c hj hc, h7 j c r d hr hd⟩
  · rintro (⟨rfl, a, cap, rfl⟩ | ⟨b, off, cap, sz, rfl, h1, h2, h3, h4, h5, h6⟩)
    · exact .nils a cap
    · have hx : ∀ j c, ∃ u, j < xs.length → c < sz → w.cell? ⟨b, off + (j * sz + c), none⟩ = some u ∧ ∀ r d, xs[j]? = some r → r[c]? = some d → Imm w be st d u := by
        intro j c
        by_cases hj : j < xs.length
        · by_cases hc : c < sz
          · have hr : xs[j]? = some xs[j] := List.getElem?_eq_getElem hj
            have hl : xs[j].length = sz := h5 _ (List.getElem_mem hj)
            have hd : xs[j][c]? = some (xs[j][c]'(by omega)) := List.getElem?_eq_getElem (by omega)
            obtain ⟨u, hu, hi⟩ := h6 j c _ _ hr hd
            refine ⟨u, fun _ _ => ⟨hu, fun r d hr' hd' => ?_⟩⟩
            rw [hr] at hr'
            cases hr'
            rw [hd] at hd'
            cases hd'
            exact hi
          · exact ⟨.nilFunc, fun _ h => absurd h hc⟩
        · exact ⟨.nilFunc, fun h => absurd h hj⟩
      have hx' := fun j c => Classical.choose_spec (hx j c)
      refine .list xs b off cap sz (fun j c => Classical.choose (hx j c)) h1 h2 h3 h4 h5 (fun j c hj hc => (hx' j c hj hc).1) (fun j c r d hr hd => ?_)
      have hj : j < xs.length := (List.getElem?_eq_some_iff.1 hr).1
      have hc : c < sz := by
        have h8 := (List.getElem?_eq_some_iff.1 hd).1
        rwa [h5 r (List.mem_of_getElem? hr)] at h8
      exact (hx' j c hj hc).2 r d hr hd

theorem RowsAt.mono {w w' : World} {be be' : Nat → Option Nat} {st st' : Nat → Nat → Prop} {b off sz : Nat} {xs : List (List D)} (h : RowsAt w be st b off sz xs) (hb : ∀ k b, be k = some b → be' k = some b) (hs : ∀ b n, st b n → st' b n)
    (hc : ∀ b n o, st b n → o < n → w'.cell? ⟨b, o, none⟩ = w.cell? ⟨b, o, none⟩) (hr : ∀ o, o < off + xs.length * sz → w'.cell? ⟨b, o, none⟩ = w.cell? ⟨b, o, none⟩) : RowsAt w' be' st' b off sz xs := by
  refine ⟨h.1, fun j c r d hr' hd => ?_⟩
  obtain ⟨v, hv, hi⟩ := h.2 j c r d hr' hd
  have hj : j < xs.length := (List.getElem?_eq_some_iff.1 hr').1
  have hc' : c < sz := by
    have h8 := (List.getElem?_eq_some_iff.1 hd).1
    rwa [h.1 r (List.mem_of_getElem? hr')] at h8
  refine ⟨v, ?_, hi.mono hb hs hc⟩
  rw [hr, hv]
  have : (j + 1) * sz ≤ xs.length * sz := Nat.mul_le_mul_right _ hj
  rw [Nat.succ_mul] at this
  omega

noncomputable def Root.isAir : Root → Bool
  | .air _ => true
  | _ => false

/-- A place's own list. -/
noncomputable def OwnL (w : World) (G : Gh) (p : Place) (sz : Nat) (xs : List (List D)) (v : Value) : Prop :=
  (xs = [] ∧ v = .slice none 0 0) ∨
  (0 < sz ∧ ∃ b off cap, v = .slice (some ⟨b, off, none⟩) xs.length cap ∧ xs.length ≤ cap ∧ G.own b = some (.lst p) ∧ G.fin b = off + xs.length * sz ∧ G.pl p = (b, off) ∧
    (∀ i, i < cap * sz → (∃ u, w.cell? ⟨b, off + i, none⟩ = some u) ∧ w.frozen? ⟨b, off + i, none⟩ = false) ∧ RowsAt w G.be G.st b off sz xs)

/-- A look at a list. -/
noncomputable def CpL (w : World) (G : Gh) (m : Mt) (e : Nat) (q : Option (Place × Nat)) (xs : List (List D)) (v : Value) : Prop :=
  ∃ A cap, v = .slice A xs.length cap ∧ e ≤ m.ep ∧
    (e = m.ep → xs = [] ∨ ∃ b off sz, A = some ⟨b, off, none⟩ ∧ 0 < sz ∧ xs.length ≤ cap ∧ G.rd b (off + xs.length * sz) ∧ RowsAt w G.be G.st b off sz xs) ∧
    (∀ p n, q = some (p, n) → p.r.isAir = false ∧ n ≤ m.rv p.r ∧ (m.rv p.r = n → xs = [] ∨ (A = some ⟨(G.pl p).1, (G.pl p).2, none⟩ ∧ xs.length ≤ cap)))

/-- An element's address. -/
noncomputable def EpV (w : World) (G : Gh) (m : Mt) (e : Option Nat) (q : Option (Place × Nat)) (i : Nat) (row : List D) (off : Nat) (v : Value) : Prop :=
  ∃ b o, v = .pointer (some ⟨b, o + off, none⟩) ∧ (∀ n, e = some n → n ≤ m.ep) ∧
    (e = none → G.st b (o + row.length)) ∧
    (e = none ∨ e = some m.ep → G.rd b (o + row.length) ∧ ∀ c d, row[c]? = some d → ∃ u, w.cell? ⟨b, o + c, none⟩ = some u ∧ Imm w G.be G.st d u) ∧
    (∀ p n, q = some (p, n) → p.r.isAir = false ∧ n ≤ m.rv p.r ∧ (m.rv p.r = n → b = (G.pl p).1 ∧ o = (G.pl p).2 + i * row.length))

/-- A local box's address. -/
noncomputable def LpV (G : Gh) (m : Mt) (t n off : Nat) (v : Value) : Prop :=
  ∃ a, v = .pointer (some a) ∧ n ≤ m.al t ∧ (n = m.al t → a = ⟨G.la t, off, none⟩)

/-- An entry's number. -/
noncomputable def StV (w : World) (G : Gh) (m : Mt) (e k i : Nat) (v : Value) : Prop :=
  ∃ n : Nat, v = .int .i64 n ∧ e ≤ m.era ∧ (e = m.era → ∃ b es clock x, G.be k = some b ∧ w.heap[b]? = some (.map es clock) ∧ es[i]? = some x ∧ x.born = n)

/-- A cell at a place. -/
noncomputable def VC (w : World) (G : Gh) (m : Mt) (p : Place) : D → Value → Prop
  | .list (.own sz) xs, v => OwnL w G p sz xs v
  | .list (.cp e q) xs, v => CpL w G m e q xs v
  | .lptr t n off, v => LpV G m t n off v
  | .eptr e q i row off, v => EpV w G m e q i row off v
  | .stamp e k i, v => StV w G m e k i v
  | .agg _, _ | .tup _, _ => False
  | .dead, v => v.oneCell' = true
  | d, v => Imm w G.be G.st d v

/-- A part. -/
noncomputable def VP (w : World) (G : Gh) (m : Mt) (r : Root) (i : Nat) : D → Value → Prop
  | .agg cs, v => ∃ vs : List Value, v = .agg vs.toArray ∧ vs.length = cs.length ∧ ∀ (j : Nat) (d : D) (u : Value), cs[j]? = some d → vs[j]? = some u → VC w G m ⟨r, i, j⟩ d u
  | d, v => VC w G m ⟨r, i, 0⟩ d v

/-- What a slot holds. -/
noncomputable def VT (w : World) (G : Gh) (m : Mt) (r : Root) : D → Value → Prop
  | .tup ds, v => ∃ vs : List Value, v = .tuple vs.toArray ∧ vs.length = ds.length ∧ ∀ (i : Nat) (d : D) (u : Value), ds[i]? = some d → vs[i]? = some u → VP w G m r i d u
  | d, v => VP w G m r 0 d v

/-- A box. -/
noncomputable def BoxV (w : World) (G : Gh) (m : Mt) (r : Root) (b : Nat) (cs : List D) : Prop :=
  ∀ (j : Nat) (d : D), cs[j]? = some d → ∃ u, w.cell? ⟨b, j, none⟩ = some u ∧ w.frozen? ⟨b, j, none⟩ = false ∧ VC w G m ⟨r, 0, j⟩ d u

/-- Plain data as a value. -/
noncomputable def toV1 : D → Option Value
  | .int k n => some (.int k n)
  | .bool b => some (.bool b)
  | .str s => some (.string s)
  | _ => none
noncomputable def toVL : List D → Option (List Value)
  | [] => some []
  | d :: r => match toV1 d, toVL r with
    | some v, some vs => some (v :: vs)
    | _, _ => none
noncomputable def toV : D → Option Value
  | .agg cs => (toVL cs).map fun vs => .agg vs.toArray
  | d => toV1 d

noncomputable def MapV (w : World) (b : Nat) (es : List (D × D)) : Prop :=
  ∃ arr clock, w.heap[b]? = some (.map arr clock) ∧ arr.size = es.length ∧
    (∀ (i : Nat) (x : D × D) (e : MapEntry), es[i]? = some x → arr[i]? = some e → toV x.1 = some e.key ∧ toV x.2 = some e.val ∧ e.born < clock) ∧
    (∀ (i j : Nat) (x y : MapEntry), arr[i]? = some x → arr[j]? = some y → x.born = y.born → i = j)

/-- An object of the store. -/
noncomputable def ObV (w : World) (G : Gh) (m : Mt) (ro k b : Nat) : Ob → Prop
  | .box cs => if k < ro then (∀ (j : Nat) (d : D), cs[j]? = some d → ∃ u, w.cell? ⟨b, j, none⟩ = some u ∧ Imm w G.be G.st (fz d) u) else BoxV w G m (.gbox k) b cs
  | .map es => MapV w b es

structure Ctx where
  n : Nat
  ro : Nat
  n0 : Nat
  w0 : World
  G0 : Gh
  kp : List Nat

structure Rel (X : Ctx) (G : Gh) (s : DS) (a : Act) (w : World) : Prop where
  size : a.tmps.size = X.n
  defers : a.defers = []
  env : ∀ t d, lk t s.env = some d → VT w G s.m (.slot t) d (a.tmps.getD t undef)
  loc : ∀ t cs, lk t s.loc = some cs → G.own (G.la t) = some (.box (.lbox t)) ∧ BoxV w G s.m (.lbox t) (G.la t) cs
  sto : ∀ k o, s.sto[k]? = some o → ∃ b, G.be k = some b ∧ (if k < X.ro then G.own b = none else G.own b = some (.box (.gbox k))) ∧ b < w.heap.size ∧ ObV w G s.m X.ro k b o
  be : ∀ k, s.sto.length ≤ k → G.be k = none
  new : ∀ b, w.heap.size ≤ b → G.own b = none ∧ ∀ e, ¬ G.st b e
  stow : ∀ b e, G.st b e → G.own b = none
  std : ∀ b e e', G.st b e → e' ≤ e → G.st b e'
  old : ∀ b, b < X.w0.heap.size → X.G0.own b = none → w.heap[b]? = X.w0.heap[b]? ∧ G.own b = none ∧ ∀ e, G.st b e → X.G0.st b e
  os : w.os = X.w0.os
  tape : w.tape = X.w0.tape
  output : w.output = X.w0.output
  grow : X.w0.heap.size ≤ w.heap.size
  ro : X.ro ≤ s.sto.length
  rom : s.m.ro = X.ro
  be0 : ∀ k, k < X.n0 → G.be k = X.G0.be k
  n0 : X.n0 ≤ s.sto.length
  la0 : ∀ t, t ∈ X.kp → G.la t = X.G0.la t

/-- What another step leaves of values at places that it doesn't touch. -/
structure Keeps (w : World) (G : Gh) (m : Mt) (w' : World) (G' : Gh) (m' : Mt) (kp : Place → Prop) : Prop where
  be : ∀ k b, G.be k = some b → G'.be k = some b
  st : ∀ b n, G.st b n → G'.st b n
  cell : ∀ b n o, G.st b n → o < n → w'.cell? ⟨b, o, none⟩ = w.cell? ⟨b, o, none⟩
  ep : m.ep ≤ m'.ep
  rv : ∀ r, m.rv r ≤ m'.rv r
  al : ∀ t, m.al t ≤ m'.al t
  era : m.era ≤ m'.era
  rd : m'.ep = m.ep → ∀ b n, G.rd b n → G'.rd b n ∧ ∀ o, o < n → w'.cell? ⟨b, o, none⟩ = w.cell? ⟨b, o, none⟩
  pl : ∀ p, p.r.isAir = false → m'.rv p.r = m.rv p.r → G'.pl p = G.pl p
  la : ∀ t, m'.al t = m.al t → G'.la t = G.la t
  own : ∀ b p, kp p → G.own b = some (.lst p) → G'.own b = some (.lst p) ∧ G'.fin b = G.fin b ∧ ∀ o, w'.cell? ⟨b, o, none⟩ = w.cell? ⟨b, o, none⟩ ∧ w'.frozen? ⟨b, o, none⟩ = w.frozen? ⟨b, o, none⟩
  opl : ∀ p, kp p → G'.pl p = G.pl p
  mp : m'.era = m.era → ∀ k b es clock, G.be k = some b → w.heap[b]? = some (.map es clock) → ∃ es' clock', w'.heap[b]? = some (.map es' clock') ∧ ∀ (i : Nat) (x : MapEntry), es[i]? = some x → ∃ y : MapEntry, es'[i]? = some y ∧ y.born = x.born

section
variable {w w' : World} {G G' : Gh} {m m' : Mt} {kp : Place → Prop}

theorem Keeps.imm (K : Keeps w G m w' G' m' kp) {d : D} {v : Value} (h : Imm w G.be G.st d v) : Imm w' G'.be G'.st d v := h.mono K.be K.st K.cell

theorem Keeps.vc (K : Keeps w G m w' G' m' kp) {p : Place} {d : D} {v : Value} (hp : isOwn d = true → kp p) (h : VC w G m p d v) : VC w' G' m' p d v := by
  cases d with
  | int => exact K.imm h
  | bool => exact K.imm h
  | str => exact K.imm h
  | nil => exact K.imm h
  | gptr => exact K.imm h
  | nilmap => exact K.imm h
  | map => exact K.imm h
  | fn => exact K.imm h
  | nilfn => exact K.imm h
  | dead => exact h
  | agg => exact h.elim
  | tup => exact h.elim
  | list q xs =>
    cases q with
    | imm => exact K.imm h
    | own sz =>
      have hk := hp rfl
      rcases h with h | ⟨hz, b, off, cap, rfl, hc, ho, hf, hpl, hcell, hrows⟩
      · exact .inl h
      · obtain ⟨o1, o2, o3⟩ := K.own b p hk ho
        refine .inr ⟨hz, b, off, cap, rfl, hc, o1, o2.trans hf, (K.opl p hk).trans hpl, fun i hi => ?_, hrows.mono K.be K.st K.cell fun o _ => (o3 o).1⟩
        obtain ⟨⟨u, hu⟩, hfz⟩ := hcell i hi
        exact ⟨⟨u, (o3 _).1.trans hu⟩, (o3 _).2.trans hfz⟩
    | cp e q =>
      obtain ⟨A, cap, rfl, he, h1, h2⟩ := h
      refine ⟨A, cap, rfl, Nat.le_trans he K.ep, fun hee => ?_, fun p n hq => ?_⟩
      · have hm : m'.ep = m.ep := by have := K.ep; omega
        rcases h1 (by omega) with h1 | ⟨b, off, sz, rfl, hz, hc, hr, hrows⟩
        · exact .inl h1
        · obtain ⟨r1, r2⟩ := K.rd hm b _ hr
          exact .inr ⟨b, off, sz, rfl, hz, hc, r1, hrows.mono K.be K.st K.cell r2⟩
      · obtain ⟨ha, hn, h3⟩ := h2 p n hq
        refine ⟨ha, Nat.le_trans hn (K.rv _), fun hv => ?_⟩
        have hv' : m.rv p.r = n := by have := K.rv p.r; omega
        rw [K.pl p ha (by omega)]
        exact h3 hv'
  | lptr t n off =>
    obtain ⟨a, rfl, hn, h1⟩ := h
    refine ⟨a, rfl, Nat.le_trans hn (K.al t), fun hv => ?_⟩
    have hv' : n = m.al t := by have := K.al t; omega
    rw [K.la t (by omega)]
    exact h1 hv'
  | eptr e q i row off =>
    obtain ⟨b, o, rfl, he, h0, h1, h2⟩ := h
    refine ⟨b, o, rfl, fun n hn => Nat.le_trans (he n hn) K.ep, fun hn => K.st _ _ (h0 hn), fun hee => ?_, fun p n hq => ?_⟩
    · by_cases hN : e = none
      · obtain ⟨r1, r2⟩ := h1 (.inl hN)
        refine ⟨.inl (K.st _ _ (h0 hN)), fun c d hd => ?_⟩
        obtain ⟨u, hu, hi⟩ := r2 c d hd
        have hc := (List.getElem?_eq_some_iff.1 hd).1
        exact ⟨u, (K.cell b _ _ (h0 hN) (by omega)).trans hu, K.imm hi⟩
      · have hee' : e = some m'.ep := hee.resolve_left hN
        have hm : m'.ep = m.ep := by have := K.ep; have := he _ hee'; omega
        obtain ⟨r1, r2⟩ := h1 (.inr (by rw [hee', hm]))
        obtain ⟨q1, q2⟩ := K.rd hm b _ r1
        refine ⟨q1, fun c d hd => ?_⟩
        obtain ⟨u, hu, hi⟩ := r2 c d hd
        have hc := (List.getElem?_eq_some_iff.1 hd).1
        exact ⟨u, (q2 _ (by omega)).trans hu, K.imm hi⟩
    · obtain ⟨ha, hn, h3⟩ := h2 p n hq
      refine ⟨ha, Nat.le_trans hn (K.rv _), fun hv => ?_⟩
      have hv' : m.rv p.r = n := by have := K.rv p.r; omega
      rw [K.pl p ha (by omega)]
      exact h3 hv'
  | stamp e k i =>
    obtain ⟨n, rfl, he, h1⟩ := h
    refine ⟨n, rfl, Nat.le_trans he K.era, fun hee => ?_⟩
    have hm : m'.era = m.era := by have := K.era; omega
    obtain ⟨b, es, clock, x, hb, hh, hx, hn⟩ := h1 (by omega)
    obtain ⟨es', clock', hh', hy⟩ := K.mp hm k b es clock hb hh
    obtain ⟨y, hy', hyb⟩ := hy i x hx
    exact ⟨b, es', clock', y, K.be _ _ hb, hh', hy', hyb.trans hn⟩

theorem Keeps.vp (K : Keeps w G m w' G' m' kp) {r : Root} {i : Nat} {d : D} {v : Value} (hp : ∀ j c, cellAt d j = some c → isOwn c = true → kp ⟨r, i, j⟩) (h : VP w G m r i d v) : VP w' G' m' r i d v := by
  cases d with
  | agg cs =>
    obtain ⟨vs, rfl, hl, h1⟩ := h
    exact ⟨vs, rfl, hl, fun j d u hd hu => K.vc (fun ho => hp j d hd ho) (h1 j d u hd hu)⟩
  | tup => exact False.elim h
  | _ => exact K.vc (fun ho => hp 0 _ rfl ho) h

theorem Keeps.vt (K : Keeps w G m w' G' m' kp) {r : Root} {d : D} {v : Value} (hp : ∀ i q j c, partAt d i = some q → cellAt q j = some c → isOwn c = true → kp ⟨r, i, j⟩) (h : VT w G m r d v) : VT w' G' m' r d v := by
  cases d with
  | tup ds =>
    obtain ⟨vs, rfl, hl, h1⟩ := h
    exact ⟨vs, rfl, hl, fun i d u hd hu => K.vp (fun j c hc ho => hp i d j c hd hc ho) (h1 i d u hd hu)⟩
  | _ => exact K.vp (fun j c hc ho => hp 0 _ j c rfl hc ho) h

theorem Keeps.box (K : Keeps w G m w' G' m' kp) {r : Root} {b : Nat} {cs : List D} (hp : ∀ j c, cs[j]? = some c → isOwn c = true → kp ⟨r, 0, j⟩) (hb : ∀ o, w'.cell? ⟨b, o, none⟩ = w.cell? ⟨b, o, none⟩ ∧ w'.frozen? ⟨b, o, none⟩ = w.frozen? ⟨b, o, none⟩)
    (h : BoxV w G m r b cs) : BoxV w' G' m' r b cs := by
  intro j d hd
  obtain ⟨u, h1, h2, h3⟩ := h j d hd
  exact ⟨u, (hb j).1.trans h1, (hb j).2.trans h2, K.vc (hp j d hd) h3⟩
end

end Go.Lv
