/-
  Part 2 of the texts under the proof: an abstract run of loaded code on data, and what the functions do. No condition.
-/
import Derived.Test.YtmbkdljolcmmiaaGreatM1
import Derived.Below
import Derived.Laws.Entries
import Derived.Laws.Sem
import Derived.Laws.World
set_option linter.all false
set_option maxRecDepth 100000
namespace Go.Lv

inductive Owner where
  | box (r : Root)
  | lst (p : Place)

structure Gh where
  be : Nat → Option Nat
  la : Nat → Nat
  own : Nat → Option Owner
  fin : Nat → Nat
  st : Nat → Nat → Prop
  pl : Place → Nat × Nat

noncomputable def Gh.rd (G : Gh) (b n : Nat) : Prop := G.st b n ∨ ((∃ p, G.own b = some (.lst p)) ∧ n ≤ G.fin b)

inductive Imm (w : World) (be : Nat → Option Nat) (st : Nat → Nat → Prop) : D → Value → Prop where
  | int (k : IntKind) (n : Int) : Imm w be st (.int k n) (.int k n)
  | bool (b : Bool) : Imm w be st (.bool b) (.bool b)
  | str (s : ByteArray) : Imm w be st (.str s) (.string s)
  | nil : Imm w be st .nil (.pointer none)
  | gptr (k off b : Nat) : be k = some b → Imm w be st (.gptr k off) (.pointer (some ⟨b, off, none⟩))
  | nilmap : Imm w be st .nilmap (.map none)
  | map (k b : Nat) : be k = some b → Imm w be st (.map k) (.map (some b))
  | nilfn : Imm w be st .nilfn .nilFunc
  | fn (f : Nat) (ds : List D) (vs : List Value) : ds.length = vs.length → (∀ (i : Nat) (d : D) (v : Value), ds[i]? = some d → vs[i]? = some v → Imm w be st d v) → Imm w be st (.fn f ds) (.func (.func f) #[] vs.toArray)
  | nils (a : Option Addr) (cap : Nat) : Imm w be st (.list .imm []) (.slice a 0 cap)
  | list (xs : List (List D)) (b off cap sz : Nat) (vals : Nat → Nat → Value) : 0 < xs.length → 0 < sz → xs.length ≤ cap → st b (off + xs.length * sz) → (∀ r, r ∈ xs → r.length = sz) →
      (∀ j c, j < xs.length → c < sz → w.cell? ⟨b, off + (j * sz + c), none⟩ = some (vals j c)) →
      (∀ (j c : Nat) (r : List D) (d : D), xs[j]? = some r → r[c]? = some d → Imm w be st d (vals j c)) → Imm w be st (.list .imm xs) (.slice (some ⟨b, off, none⟩) xs.length cap)

noncomputable def RowsAt (w : World) (be : Nat → Option Nat) (st : Nat → Nat → Prop) (b off sz : Nat) (xs : List (List D)) : Prop :=
  (∀ r, r ∈ xs → r.length = sz) ∧ ∀ (j c : Nat) (r : List D) (d : D), xs[j]? = some r → r[c]? = some d → ∃ v, w.cell? ⟨b, off + (j * sz + c), none⟩ = some v ∧ Imm w be st d v

theorem Imm.mono {w w' : World} {be be' : Nat → Option Nat} {st st' : Nat → Nat → Prop} (hb : ∀ k b, be k = some b → be' k = some b) (hs : ∀ b n, st b n → st' b n)
    (hc : ∀ b n o, st b n → o < n → w'.cell? ⟨b, o, none⟩ = w.cell? ⟨b, o, none⟩) {d : D} {v : Value} (h : Imm w be st d v) : Imm w' be' st' d v := by
  induction h with
  | int => exact .int _ _
  | bool => exact .bool _
  | str => exact .str _
  | nil => exact .nil
  | gptr k off b h => exact .gptr _ _ _ (hb _ _ h)
  | nilmap => exact .nilmap
  | map k b h => exact .map _ _ (hb _ _ h)
  | nilfn => exact .nilfn
  | fn f ds vs hl _ ih => exact .fn _ _ _ hl ih
  | nils => exact .nils _ _
  | list xs b off cap sz vals h1 h2 h3 h4 h5 h6 _ ih =>
    refine .list xs b off cap sz vals h1 h2 h3 (hs _ _ h4) h5 (fun j c hj hc' => ?_) ih
    rw [hc b _ _ h4, h6 j c hj hc']
    have : j * sz + c < xs.length * sz := by
      have : (j + 1) * sz ≤ xs.length * sz := Nat.mul_le_mul_right _ hj
      rw [Nat.succ_mul] at this
      omega
    omega

theorem imm_list {w : World} {be : Nat → Option Nat} {st : Nat → Nat → Prop} {xs : List (List D)} {v : Value} :
    Imm w be st (.list .imm xs) v ↔ (xs = [] ∧ ∃ a cap, v = .slice a 0 cap) ∨ ∃ b off cap sz, v = .slice (some ⟨b, off, none⟩) xs.length cap ∧ 0 < xs.length ∧ 0 < sz ∧ xs.length ≤ cap ∧ st b (off + xs.length * sz) ∧ RowsAt w be st b off sz xs := by
  constructor
  · intro h
    cases h with
    | nils a cap => exact .inl ⟨rfl, a, cap, rfl⟩
    | list xs b off cap sz vals h1 h2 h3 h4 h5 h6 h7 =>
      refine .inr ⟨b, off, cap, sz, rfl, h1, h2, h3, h4, h5, fun j c r d hr hd => ?_⟩
      have hj : j < xs.length := (List.getElem?_eq_some_iff.1 hr).1
      have hc : c < sz := by
        have h8 := (List.getElem?_eq_some_iff.1 hd).1
        rwa [h5 r (List.mem_of_getElem? hr)] at h8
      exact ⟨vals j c, h6 j c hj hc, h7 j c r d hr hd⟩
  · rintro (⟨rfl, a, cap, rfl⟩ | ⟨b, off, cap, sz, rfl, h1, h2, h3, h4, h5, h6⟩)
    · exact .nils a cap
    · have hx : ∀ j c, ∃ u, j < xs.length → c < sz → w.cell? ⟨b, off + (j * sz + c), none⟩ = some u ∧ ∀ r d, xs[j]? = some r → r[c]? = some d → Imm w be st d u := by
        intro j c
        by_cases hj : j < xs.length
        · by_cases hc : c < sz
          · have hr : xs[j]? = some xs[j] := List.getElem?_eq_getElem hj
            have hl : xs[j].length = sz := h5 _ (List.getElem_mem hj)
            have hd : xs[j][c]? = some (xs[j][c]'(by omega)) := List.getElem?_eq_getElem (by omega)
            obtain ⟨u, hu, hi⟩ := h6 j c _ _ hr hd
            refine ⟨u, fun _ _ => ⟨hu, fun r d hr' hd' => ?_⟩⟩
            rw [hr] at hr'
            cases hr'
            rw [hd] at hd'
            cases hd'
            exact hi
          · exact ⟨.nilFunc, fun _ h => absurd h hc⟩
        · exact ⟨.nilFunc, fun h => absurd h hj⟩
      have hx' := fun j c => Classical.choose_spec (hx j c)
      refine .list xs b off cap sz (fun j c => Classical.choose (hx j c)) h1 h2 h3 h4 h5 (fun j c hj hc => (hx' j c hj hc).1) (fun j c r d hr hd => ?_)
      have hj : j < xs.length := (List.getElem?_eq_some_iff.1 hr).1
      have hc : c < sz := by
        have h8 := (List.getElem?_eq_some_iff.1 hd).1
        rwa [h5 r (List.mem_of_getElem? hr)] at h8
      exact (hx' j c hj hc).2 r d hr hd

theorem RowsAt.mono {w w' : World} {be be' : Nat → Option Nat} {st st' : Nat → Nat → Prop} {b off sz : Nat} {xs : List (List D)} (h : RowsAt w be st b off sz xs) (hb : ∀ k b, be k = some b → be' k = some b) (hs : ∀ b n, st b n → st' b n)
    (hc : ∀ b n o, st b n → o < n → w'.cell? ⟨b, o, none⟩ = w.cell? ⟨b, o, none⟩) (hr : ∀ o, o < off + xs.length * sz → w'.cell? ⟨b, o, none⟩ = w.cell? ⟨b, o, none⟩) : RowsAt w' be' st' b off sz xs := by
  refine ⟨h.1, fun j c r d hr' hd => ?_⟩
  obtain ⟨v, hv, hi⟩ := h.2 j c r d hr' hd
  have hj : j < xs.length := (List.getElem?_eq_some_iff.1 hr').1
  have hc' : c < sz := by
    have h8 := (List.getElem?_eq_some_iff.1 hd).1
    rwa [h.1 r (List.mem_of_getElem? hr')] at h8
  refine ⟨v, ?_, hi.mono hb hs hc⟩
  rw [hr, hv]
  have : (j + 1) * sz ≤ xs.length * sz := Nat.mul_le_mul_right _ hj
  rw [Nat.succ_mul] at this
  omega

noncomputable def Root.isAir : Root → Bool
  | .air _ => true
  | _ => false

noncomputable def OwnL (w : World) (G : Gh) (p : Place) (sz : Nat) (xs : List (List D)) (v : Value) : Prop :=
  (xs = [] ∧ v = .slice none 0 0) ∨
  (0 < sz ∧ ∃ b off cap, v = .slice (some ⟨b, off, none⟩) xs.length cap ∧ xs.length ≤ cap ∧ G.own b = some (.lst p) ∧ G.fin b = off + xs.length * sz ∧ G.pl p = (b, off) ∧
    (∀ i, i < cap * sz → (∃ u, w.cell? ⟨b, off + i, none⟩ = some u) ∧ w.frozen? ⟨b, off + i, none⟩ = false) ∧ RowsAt w G.be G.st b off sz xs)

noncomputable def CpL (w : World) (G : Gh) (m : Mt) (e : Nat) (q : Option (Place × Nat)) (xs : List (List D)) (v : Value) : Prop :=
  ∃ A cap, v = .slice A xs.length cap ∧ e ≤ m.ep ∧
    (e = m.ep → xs = [] ∨ ∃ b off sz, A = some ⟨b, off, none⟩ ∧ 0 < sz ∧ xs.length ≤ cap ∧ G.rd b (off + xs.length * sz) ∧ RowsAt w G.be G.st b off sz xs) ∧
    (∀ p n, q = some (p, n) → p.r.isAir = false ∧ n ≤ m.rv p.r ∧ (m.rv p.r = n → xs = [] ∨ (A = some ⟨(G.pl p).1, (G.pl p).2, none⟩ ∧ xs.length ≤ cap)))

noncomputable def EpV (w : World) (G : Gh) (m : Mt) (e : Option Nat) (q : Option (Place × Nat)) (i : Nat) (row : List D) (off : Nat) (v : Value) : Prop :=
  ∃ b o, v = .pointer (some ⟨b, o + off, none⟩) ∧ (∀ n, e = some n → n ≤ m.ep) ∧
    (e = none → G.st b (o + row.length)) ∧
    (e = none ∨ e = some m.ep → G.rd b (o + row.length) ∧ ∀ c d, row[c]? = some d → ∃ u, w.cell? ⟨b, o + c, none⟩ = some u ∧ Imm w G.be G.st d u) ∧
    (∀ p n, q = some (p, n) → p.r.isAir = false ∧ n ≤ m.rv p.r ∧ (m.rv p.r = n → b = (G.pl p).1 ∧ o = (G.pl p).2 + i * row.length))

noncomputable def LpV (G : Gh) (m : Mt) (t n off : Nat) (v : Value) : Prop :=
  ∃ a, v = .pointer (some a) ∧ n ≤ m.al t ∧ (n = m.al t → a = ⟨G.la t, off, none⟩)

noncomputable def StV (w : World) (G : Gh) (m : Mt) (e k i : Nat) (v : Value) : Prop :=
  ∃ n : Nat, v = .int .i64 n ∧ e ≤ m.era ∧ (e = m.era → ∃ b es clock x, G.be k = some b ∧ w.heap[b]? = some (.map es clock) ∧ es[i]? = some x ∧ x.born = n)

noncomputable def VC (w : World) (G : Gh) (m : Mt) (p : Place) : D → Value → Prop
  | .list (.own sz) xs, v => OwnL w G p sz xs v
  | .list (.cp e q) xs, v => CpL w G m e q xs v
  | .lptr t n off, v => LpV G m t n off v
  | .eptr e q i row off, v => EpV w G m e q i row off v
  | .stamp e k i, v => StV w G m e k i v
  | .agg _, _ | .tup _, _ => False
  | .dead, v => v.oneCell' = true
  | d, v => Imm w G.be G.st d v

noncomputable def VP (w : World) (G : Gh) (m : Mt) (r : Root) (i : Nat) : D → Value → Prop
  | .agg cs, v => ∃ vs : List Value, v = .agg vs.toArray ∧ vs.length = cs.length ∧ ∀ (j : Nat) (d : D) (u : Value), cs[j]? = some d → vs[j]? = some u → VC w G m ⟨r, i, j⟩ d u
  | d, v => VC w G m ⟨r, i, 0⟩ d v

noncomputable def VT (w : World) (G : Gh) (m : Mt) (r : Root) : D → Value → Prop
  | .tup ds, v => ∃ vs : List Value, v = .tuple vs.toArray ∧ vs.length = ds.length ∧ ∀ (i : Nat) (d : D) (u : Value), ds[i]? = some d → vs[i]? = some u → VP w G m r i d u
  | d, v => VP w G m r 0 d v

noncomputable def BoxV (w : World) (G : Gh) (m : Mt) (r : Root) (b : Nat) (cs : List D) : Prop :=
  ∀ (j : Nat) (d : D), cs[j]? = some d → ∃ u, w.cell? ⟨b, j, none⟩ = some u ∧ w.frozen? ⟨b, j, none⟩ = false ∧ VC w G m ⟨r, 0, j⟩ d u

noncomputable def toV1 : D → Option Value
  | .int k n => some (.int k n)
  | .bool b => some (.bool b)
  | .str s => some (.string s)
  | _ => none
noncomputable def toVL : List D → Option (List Value)
  | [] => some []
  | d :: r => match toV1 d, toVL r with
    | some v, some vs => some (v :: vs)
    | _, _ => none
noncomputable def toV : D → Option Value
  | .agg cs => (toVL cs).map fun vs => .agg vs.toArray
  | d => toV1 d

noncomputable def MapV (w : World) (b : Nat) (es : List (D × D)) : Prop :=
  ∃ arr clock, w.heap[b]? = some (.map arr clock) ∧ arr.size = es.length ∧
    (∀ (i : Nat) (x : D × D) (e : MapEntry), es[i]? = some x → arr[i]? = some e → toV x.1 = some e.key ∧ toV x.2 = some e.val ∧ e.born < clock) ∧
    (∀ (i j : Nat) (x y : MapEntry), arr[i]? = some x → arr[j]? = some y → x.born = y.born → i = j)

noncomputable def ObV (w : World) (G : Gh) (m : Mt) (ro k b : Nat) : Ob → Prop
  | .box cs => if k < ro then (∀ (j : Nat) (d : D), cs[j]? = some d → ∃ u, w.cell? ⟨b, j, none⟩ = some u ∧ Imm w G.be G.st (fz d) u) else BoxV w G m (.gbox k) b cs
  | .map es => MapV w b es

structure Ctx where
  n : Nat
  ro : Nat
  n0 : Nat
  w0 : World
  G0 : Gh
  kp : List Nat

structure Rel (X : Ctx) (G : Gh) (s : DS) (a : Act) (w : World) : Prop where
  size : a.tmps.size = X.n
  defers : a.defers = []
  env : ∀ t d, lk t s.env = some d → VT w G s.m (.slot t) d (a.tmps.getD t undef)
  loc : ∀ t cs, lk t s.loc = some cs → G.own (G.la t) = some (.box (.lbox t)) ∧ BoxV w G s.m (.lbox t) (G.la t) cs
  sto : ∀ k o, s.sto[k]? = some o → ∃ b, G.be k = some b ∧ (if k < X.ro then G.own b = none else G.own b = some (.box (.gbox k))) ∧ b < w.heap.size ∧ ObV w G s.m X.ro k b o
  be : ∀ k, s.sto.length ≤ k → G.be k = none
  new : ∀ b, w.heap.size ≤ b → G.own b = none ∧ ∀ e, ¬ G.st b e
  stow : ∀ b e, G.st b e → G.own b = none
  std : ∀ b e e', G.st b e → e' ≤ e → G.st b e'
  old : ∀ b, b < X.w0.heap.size → X.G0.own b = none → w.heap[b]? = X.w0.heap[b]? ∧ G.own b = none ∧ ∀ e, G.st b e → X.G0.st b e
  os : w.os = X.w0.os
  tape : w.tape = X.w0.tape
  output : w.output = X.w0.output
  grow : X.w0.heap.size ≤ w.heap.size
  ro : X.ro ≤ s.sto.length
  rom : s.m.ro = X.ro
  be0 : ∀ k, k < X.n0 → G.be k = X.G0.be k
  n0 : X.n0 ≤ s.sto.length
  la0 : ∀ t, t ∈ X.kp → G.la t = X.G0.la t

structure Keeps (w : World) (G : Gh) (m : Mt) (w' : World) (G' : Gh) (m' : Mt) (kp : Place → Prop) : Prop where
  be : ∀ k b, G.be k = some b → G'.be k = some b
  st : ∀ b n, G.st b n → G'.st b n
  cell : ∀ b n o, G.st b n → o < n → w'.cell? ⟨b, o, none⟩ = w.cell? ⟨b, o, none⟩
  ep : m.ep ≤ m'.ep
  rv : ∀ r, m.rv r ≤ m'.rv r
  al : ∀ t, m.al t ≤ m'.al t
  era : m.era ≤ m'.era
  rd : m'.ep = m.ep → ∀ b n, G.rd b n → G'.rd b n ∧ ∀ o, o < n → w'.cell? ⟨b, o, none⟩ = w.cell? ⟨b, o, none⟩
  pl : ∀ p, p.r.isAir = false → m'.rv p.r = m.rv p.r → G'.pl p = G.pl p
  la : ∀ t, m'.al t = m.al t → G'.la t = G.la t
  own : ∀ b p, kp p → G.own b = some (.lst p) → G'.own b = some (.lst p) ∧ G'.fin b = G.fin b ∧ ∀ o, w'.cell? ⟨b, o, none⟩ = w.cell? ⟨b, o, none⟩ ∧ w'.frozen? ⟨b, o, none⟩ = w.frozen? ⟨b, o, none⟩
  opl : ∀ p, kp p → G'.pl p = G.pl p
  mp : m'.era = m.era → ∀ k b es clock, G.be k = some b → w.heap[b]? = some (.map es clock) → ∃ es' clock', w'.heap[b]? = some (.map es' clock') ∧ ∀ (i : Nat) (x : MapEntry), es[i]? = some x → ∃ y : MapEntry, es'[i]? = some y ∧ y.born = x.born

section
variable {w w' : World} {G G' : Gh} {m m' : Mt} {kp : Place → Prop}

theorem Keeps.imm (K : Keeps w G m w' G' m' kp) {d : D} {v : Value} (h : Imm w G.be G.st d v) : Imm w' G'.be G'.st d v := h.mono K.be K.st K.cell

theorem Keeps.vc (K : Keeps w G m w' G' m' kp) {p : Place} {d : D} {v : Value} (hp : isOwn d = true → kp p) (h : VC w G m p d v) : VC w' G' m' p d v := by
  cases d with
  | int => exact K.imm h
  | bool => exact K.imm h
  | str => exact K.imm h
  | nil => exact K.imm h
  | gptr => exact K.imm h
  | nilmap => exact K.imm h
  | map => exact K.imm h
  | fn => exact K.imm h
  | nilfn => exact K.imm h
  | dead => exact h
  | agg => exact h.elim
  | tup => exact h.elim
  | list q xs =>
    cases q with
    | imm => exact K.imm h
    | own sz =>
      have hk := hp rfl
      rcases h with h | ⟨hz, b, off, cap, rfl, hc, ho, hf, hpl, hcell, hrows⟩
      · exact .inl h
      · obtain ⟨o1, o2, o3⟩ := K.own b p hk ho
        refine .inr ⟨hz, b, off, cap, rfl, hc, o1, o2.trans hf, (K.opl p hk).trans hpl, fun i hi => ?_, hrows.mono K.be K.st K.cell fun o _ => (o3 o).1⟩
        obtain ⟨⟨u, hu⟩, hfz⟩ := hcell i hi
        exact ⟨⟨u, (o3 _).1.trans hu⟩, (o3 _).2.trans hfz⟩
    | cp e q =>
      obtain ⟨A, cap, rfl, he, h1, h2⟩ := h
      refine ⟨A, cap, rfl, Nat.le_trans he K.ep, fun hee => ?_, fun p n hq => ?_⟩
      · have hm : m'.ep = m.ep := by have := K.ep; omega
        rcases h1 (by omega) with h1 | ⟨b, off, sz, rfl, hz, hc, hr, hrows⟩
        · exact .inl h1
        · obtain ⟨r1, r2⟩ := K.rd hm b _ hr
          exact .inr ⟨b, off, sz, rfl, hz, hc, r1, hrows.mono K.be K.st K.cell r2⟩
      · obtain ⟨ha, hn, h3⟩ := h2 p n hq
        refine ⟨ha, Nat.le_trans hn (K.rv _), fun hv => ?_⟩
        have hv' : m.rv p.r = n := by have := K.rv p.r; omega
        rw [K.pl p ha (by omega)]
        exact h3 hv'
  | lptr t n off =>
    obtain ⟨a, rfl, hn, h1⟩ := h
    refine ⟨a, rfl, Nat.le_trans hn (K.al t), fun hv => ?_⟩
    have hv' : n = m.al t := by have := K.al t; omega
    rw [K.la t (by omega)]
    exact h1 hv'
  | eptr e q i row off =>
    obtain ⟨b, o, rfl, he, h0, h1, h2⟩ := h
    refine ⟨b, o, rfl, fun n hn => Nat.le_trans (he n hn) K.ep, fun hn => K.st _ _ (h0 hn), fun hee => ?_, fun p n hq => ?_⟩
    · by_cases hN : e = none
      · obtain ⟨r1, r2⟩ := h1 (.inl hN)
        refine ⟨.inl (K.st _ _ (h0 hN)), fun c d hd => ?_⟩
        obtain ⟨u, hu, hi⟩ := r2 c d hd
        have hc := (List.getElem?_eq_some_iff.1 hd).1
        exact ⟨u, (K.cell b _ _ (h0 hN) (by omega)).trans hu, K.imm hi⟩
      · have hee' : e = some m'.ep := hee.resolve_left hN
        have hm : m'.ep = m.ep := by have := K.ep; have := he _ hee'; omega
        obtain ⟨r1, r2⟩ := h1 (.inr (by rw [hee', hm]))
        obtain ⟨q1, q2⟩ := K.rd hm b _ r1
        refine ⟨q1, fun c d hd => ?_⟩
        obtain ⟨u, hu, hi⟩ := r2 c d hd
        have hc := (List.getElem?_eq_some_iff.1 hd).1
        exact ⟨u, (q2 _ (by omega)).trans hu, K.imm hi⟩
    · obtain ⟨ha, hn, h3⟩ := h2 p n hq
      refine ⟨ha, Nat.le_trans hn (K.rv _), fun hv => ?_⟩
      have hv' : m.rv p.r = n := by have := K.rv p.r; omega
      rw [K.pl p ha (by omega)]
      exact h3 hv'
  | stamp e k i =>
    obtain ⟨n, rfl, he, h1⟩ := h
    refine ⟨n, rfl, Nat.le_trans he K.era, fun hee => ?_⟩
    have hm : m'.era = m.era := by have := K.era; omega
    obtain ⟨b, es, clock, x, hb, hh, hx, hn⟩ := h1 (by omega)
    obtain ⟨es', clock', hh', hy⟩ := K.mp hm k b es clock hb hh
    obtain ⟨y, hy', hyb⟩ := hy i x hx
    exact ⟨b, es', clock', y, K.be _ _ hb, hh', hy', hyb.trans hn⟩

theorem Keeps.vp (K : Keeps w G m w' G' m' kp) {r : Root} {i : Nat} {d : D} {v : Value} (hp : ∀ j c, cellAt d j = some c → isOwn c = true → kp ⟨r, i, j⟩) (h : VP w G m r i d v) : VP w' G' m' r i d v := by
  cases d with
  | agg cs =>
    obtain ⟨vs, rfl, hl, h1⟩ := h
    exact ⟨vs, rfl, hl, fun j d u hd hu => K.vc (fun ho => hp j d hd ho) (h1 j d u hd hu)⟩
  | tup => exact False.elim h
  | _ => exact K.vc (fun ho => hp 0 _ rfl ho) h

theorem Keeps.vt (K : Keeps w G m w' G' m' kp) {r : Root} {d : D} {v : Value} (hp : ∀ i q j c, partAt d i = some q → cellAt q j = some c → isOwn c = true → kp ⟨r, i, j⟩) (h : VT w G m r d v) : VT w' G' m' r d v := by
  cases d with
  | tup ds =>
    obtain ⟨vs, rfl, hl, h1⟩ := h
    exact ⟨vs, rfl, hl, fun i d u hd hu => K.vp (fun j c hc ho => hp i d j c hd hc ho) (h1 i d u hd hu)⟩
  | _ => exact K.vp (fun j c hc ho => hp 0 _ j c rfl hc ho) h

theorem Keeps.box (K : Keeps w G m w' G' m' kp) {r : Root} {b : Nat} {cs : List D} (hp : ∀ j c, cs[j]? = some c → isOwn c = true → kp ⟨r, 0, j⟩) (hb : ∀ o, w'.cell? ⟨b, o, none⟩ = w.cell? ⟨b, o, none⟩ ∧ w'.frozen? ⟨b, o, none⟩ = w.frozen? ⟨b, o, none⟩)
    (h : BoxV w G m r b cs) : BoxV w' G' m' r b cs := by
  intro j d hd
  obtain ⟨u, h1, h2, h3⟩ := h j d hd
  exact ⟨u, (hb j).1.trans h1, (hb j).2.trans h2, K.vc (hp j d hd) h3⟩
end

end Go.Lv

namespace Go.Lv

section
variable {α : Type}
theorem lk_cons (t : Nat) (x : Nat × α) (r : List (Nat × α)) : lk t (x :: r) = if x.1 = t then some x.2 else lk t r := by
  show (Bool.rec (motive := fun _ => Option α) (lk t r) (some x.2) (Nat.beq x.1 t)) = _
  by_cases h : x.1 = t
  · rw [if_pos h, show Nat.beq x.1 t = true from by rw [h]; exact Nat.beq_refl t]
  · rw [if_neg h, show Nat.beq x.1 t = false from by
      cases hb : Nat.beq x.1 t with
      | false => rfl
      | true => exact absurd (Nat.eq_of_beq_eq_true hb) h]
theorem lk_nil (t : Nat) : lk t ([] : List (Nat × α)) = none := rfl
theorem lk_del (t u : Nat) (l : List (Nat × α)) : lk u (del t l) = if u = t then none else lk u l := by
  induction l with
  | nil => simp [del, lk_nil]
  | cons x r ih =>
    obtain ⟨y, a⟩ := x
    simp only [del, lk_cons]
    by_cases h : y = t
    · subst h
      simp only [if_true, ih]
      by_cases h2 : u = y
      · simp [h2]
      · have : ¬ y = u := fun e => h2 e.symm
        simp [h2, this]
    · simp only [h, if_false, lk_cons, ih]
      by_cases h2 : y = u
      · subst h2
        simp [h]
      · simp [h2]
theorem lk_ins (t u : Nat) (a : α) (l : List (Nat × α)) : lk u (ins t a l) = if u = t then some a else lk u l := by
  simp only [ins, lk_cons]
  by_cases h : u = t
  · subst h
    simp
  · have : ¬ t = u := fun e => h e.symm
    simp [h, this]
theorem lk_insL (t u : Nat) (a : α) (l : List (Nat × α)) : lk u (insL t a l) = if u = t then some a else lk u l := by
  induction l with
  | nil =>
    simp only [insL, lk_cons]
    by_cases h : u = t
    · subst h
      simp
    · have : ¬ t = u := fun e => h e.symm
      simp [h, this]
  | cons x r ih =>
    have e : insL t a (x :: r) = if x.1 = t then (t, a) :: r else x :: insL t a r := by
      show (match Nat.beq x.1 t with | true => (t, a) :: r | false => x :: insL t a r) = _
      by_cases h : x.1 = t
      · rw [if_pos h, show Nat.beq x.1 t = true from by rw [h]; exact Nat.beq_refl t]
      · rw [if_neg h, show Nat.beq x.1 t = false from by
          cases hb : Nat.beq x.1 t with
          | false => rfl
          | true => exact absurd (Nat.eq_of_beq_eq_true hb) h]
    rw [e]
    by_cases h : x.1 = t
    · rw [if_pos h, lk_cons, lk_cons]
      subst h
      by_cases h2 : u = x.1
      · subst h2
        simp
      · have : ¬ x.1 = u := fun e => h2 e.symm
        simp [h2, this]
    · rw [if_neg h, lk_cons, lk_cons, ih]
      by_cases h2 : x.1 = u
      · subst h2
        simp [h]
      · simp [h2]
theorem lk_keep (ts : List Nat) (u : Nat) (l : List (Nat × α)) (a : α) (h : lk u (keep ts l) = some a) : lk u l = some a := by
  induction ts with
  | nil => simp [keep, lk_nil] at h
  | cons t r ih =>
    simp only [keep] at h
    cases hl : lk t l with
    | none => rw [hl] at h; exact ih h
    | some b =>
      rw [hl] at h
      simp only [lk_cons] at h
      by_cases e : t = u
      · subst e
        simp at h
        rw [hl, h]
      · simp [e] at h
        exact ih h
end

theorem cnUp_at : ∀ (l : List (Nat × Nat)) (t u : Nat), cnL (cnUp l t) u = if u = t then cnL l t + 1 else cnL l u
  | [], t, u => by simp only [cnUp, cnL, eq_comm]
  | x :: r, t, u => by
    simp only [cnUp]
    by_cases h : x.1 = t
    · rw [if_pos h]
      simp only [cnL, h]
      by_cases h2 : t = u
      · subst h2; simp
      · rw [if_neg h2, if_neg (fun e => h2 e.symm), if_neg h2]
    · rw [if_neg h]
      simp only [cnL, if_neg h]
      by_cases h2 : x.1 = u
      · rw [if_pos h2, if_pos h2, if_neg (by omega)]
      · rw [if_neg h2, if_neg h2]
        exact cnUp_at r t u
theorem up_at (f : Cn) (t u : Nat) : up f t u = if u = t then f t + 1 else f u := cnUp_at f.l t u
@[simp] theorem up_same (f : Cn) (t : Nat) : up f t t = f t + 1 := by rw [up_at, if_pos rfl]
theorem up_le (f : Cn) (t u : Nat) : f u ≤ up f t u := by
  rw [up_at]
  split
  · rename_i h; subst h; omega
  · exact Nat.le_refl _
theorem cnMax1_at : ∀ (l : List (Nat × Nat)) (t n u : Nat), cnL l u ≤ cnL (cnMax1 l t n) u ∧ n ≤ cnL (cnMax1 l t n) t
  | [], t, n, u => by simp [cnMax1, cnL]
  | x :: r, t, n, u => by
    simp only [cnMax1]
    obtain ⟨h1, h2⟩ := cnMax1_at r t n u
    split
    · rename_i h
      simp only [cnL, h, if_true]
      refine ⟨?_, Nat.le_max_right _ _⟩
      split
      · exact Nat.le_max_left _ _
      · exact Nat.le_refl _
    · rename_i h
      simp only [cnL, if_neg h]
      refine ⟨?_, h2⟩
      split
      · exact Nat.le_refl _
      · exact h1
theorem cnMax_at (l : List (Nat × Nat)) : ∀ (l' : List (Nat × Nat)) (u : Nat), cnL l u ≤ cnL (cnMax l l') u ∧ cnL l' u ≤ cnL (cnMax l l') u
  | [], u => ⟨Nat.le_refl _, Nat.zero_le _⟩
  | x :: r, u => by
    obtain ⟨h1, h2⟩ := cnMax_at l r u
    obtain ⟨h3, h4⟩ := cnMax1_at (cnMax l r) x.1 x.2 u
    refine ⟨Nat.le_trans h1 h3, ?_⟩
    simp only [cnMax, cnL]
    split
    · rename_i h
      rw [← h]
      exact h4
    · exact Nat.le_trans h2 h3
theorem cnEq_eq : ∀ {l l' : List (Nat × Nat)}, cnEq l l' = true → l = l'
  | [], [], _ => rfl
  | [], _ :: _, h => by simp [cnEq] at h
  | _ :: _, [], h => by simp [cnEq] at h
  | x :: r, y :: q, h => by
    simp only [cnEq, Bool.and_eq_true, beq_iff_eq] at h
    rw [cnEq_eq h.2.2]
    congr 1
    exact Prod.ext h.1 h.2.1
theorem Cn.max_at (c c' : Cn) (u : Nat) : c u ≤ Cn.max c c' u ∧ c' u ≤ Cn.max c c' u := by
  unfold Cn.max
  split
  · rename_i h
    refine ⟨Nat.le_refl _, ?_⟩
    show cnL c'.l u ≤ cnL c.l u
    rw [cnEq_eq h]
    exact Nat.le_refl _
  · exact cnMax_at c.l c'.l u
@[simp] theorem bS_ep (m : Mt) (t : Nat) : (m.bS t).ep = m.ep := rfl
@[simp] theorem bS_al (m : Mt) (t : Nat) : (m.bS t).al = m.al := rfl
@[simp] theorem bS_lv (m : Mt) (t : Nat) : (m.bS t).lv = m.lv := rfl
@[simp] theorem bS_era (m : Mt) (t : Nat) : (m.bS t).era = m.era := rfl
theorem bS_rv (m : Mt) (t : Nat) (r : Root) : m.rv r ≤ (m.bS t).rv r := by
  cases r <;> simp [Mt.rv, Mt.bS]
  exact up_le _ _ _

theorem Keeps.of_counts {w : World} {G : Gh} {m m' : Mt} {kp : Place → Prop} (he : m'.ep = m.ep) (hr : ∀ r, m.rv r ≤ m'.rv r) (ha : ∀ t, m.al t ≤ m'.al t) (hg : m.era ≤ m'.era) : Keeps w G m w G m' kp :=
  { be := fun _ _ h => h, st := fun _ _ h => h, cell := fun _ _ _ _ _ => rfl, ep := by omega, rv := hr, al := ha, era := hg, rd := fun _ _ _ h => ⟨h, fun _ _ => rfl⟩, pl := fun _ _ _ => rfl, la := fun _ _ => rfl,
    own := fun _ _ _ h => ⟨h, rfl, fun _ => ⟨rfl, rfl⟩⟩, opl := fun _ _ => rfl, mp := fun _ k b es clock hb hh => ⟨es, clock, hh, fun i x hx => ⟨x, hx, rfl⟩⟩ }

theorem Keeps.refl (w : World) (G : Gh) (m : Mt) (kp : Place → Prop) : Keeps w G m w G m kp := Keeps.of_counts rfl (fun _ => Nat.le_refl _) (fun _ => Nat.le_refl _) (Nat.le_refl _)

theorem Keeps.trans {w1 w2 w3 : World} {G1 G2 G3 : Gh} {m1 m2 m3 : Mt} {kp kq : Place → Prop} (K : Keeps w1 G1 m1 w2 G2 m2 kp) (Q : Keeps w2 G2 m2 w3 G3 m3 kq) : Keeps w1 G1 m1 w3 G3 m3 (fun p => kp p ∧ kq p) where
  be := fun k b h => Q.be _ _ (K.be _ _ h)
  st := fun b n h => Q.st _ _ (K.st _ _ h)
  cell := fun b n o h ho => (Q.cell b n o (K.st _ _ h) ho).trans (K.cell b n o h ho)
  ep := Nat.le_trans K.ep Q.ep
  rv := fun r => Nat.le_trans (K.rv r) (Q.rv r)
  al := fun r => Nat.le_trans (K.al r) (Q.al r)
  era := Nat.le_trans K.era Q.era
  rd := fun he b n h => by
    have h1 := K.ep; have h2 := Q.ep
    obtain ⟨a1, a2⟩ := K.rd (by omega) b n h
    obtain ⟨b1, b2⟩ := Q.rd (by omega) b n a1
    exact ⟨b1, fun o ho => (b2 o ho).trans (a2 o ho)⟩
  pl := fun p ha hv => by
    have h1 := K.rv p.r; have h2 := Q.rv p.r
    exact (Q.pl p ha (by omega)).trans (K.pl p ha (by omega))
  la := fun t hv => by
    have h1 := K.al t; have h2 := Q.al t
    exact (Q.la t (by omega)).trans (K.la t (by omega))
  own := fun b p hk h => by
    obtain ⟨a1, a2, a3⟩ := K.own b p hk.1 h
    obtain ⟨b1, b2, b3⟩ := Q.own b p hk.2 a1
    exact ⟨b1, b2.trans a2, fun o => ⟨(b3 o).1.trans (a3 o).1, (b3 o).2.trans (a3 o).2⟩⟩
  opl := fun p hk => (Q.opl p hk.2).trans (K.opl p hk.1)
  mp := fun he k b es clock hb hh => by
    have h1 := K.era; have h2 := Q.era
    obtain ⟨es1, c1, a1, a2⟩ := K.mp (by omega) k b es clock hb hh
    obtain ⟨es2, c2, b1, b2⟩ := Q.mp (by omega) k b es1 c1 (K.be _ _ hb) a1
    refine ⟨es2, c2, b1, fun i x hx => ?_⟩
    obtain ⟨y, hy, e1⟩ := a2 i x hx
    obtain ⟨z, hz, e2⟩ := b2 i y hy
    exact ⟨z, hz, e2.trans e1⟩

theorem Keeps.weaken {w w' : World} {G G' : Gh} {m m' : Mt} {kp kq : Place → Prop} (K : Keeps w G m w' G' m' kp) (h : ∀ p, kq p → kp p) : Keeps w G m w' G' m' kq :=
  { K with own := fun b p hk => K.own b p (h p hk), opl := fun p hk => K.opl p (h p hk) }

theorem isOwn_eq {c : D} (h : isOwn c = true) : ∃ sz xs, c = .list (.own sz) xs := by
  cases c with
  | list q xs => cases q <;> first | exact ⟨_, _, rfl⟩ | simp [isOwn] at h
  | _ => simp [isOwn] at h

theorem hasOwn_part {d q c : D} {i j : Nat} (h1 : partAt d i = some q) (h2 : cellAt q j = some c) (hc : isOwn c = true) : hasOwn d = true := by
  have key : ∀ q : D, cellAt q j = some c → anyAt isOwn q = true := by
    intro q h2
    cases q with
    | agg cs => exact List.any_eq_true.2 ⟨c, List.mem_of_getElem? h2, hc⟩
    | _ => simp only [cellAt] at h2; split at h2 <;> first | (cases h2; exact hc) | simp at h2
  cases d with
  | tup ds => exact List.any_eq_true.2 ⟨q, List.mem_of_getElem? h1, key q h2⟩
  | _ => simp only [partAt] at h1; split at h1 <;> first | (cases h1; exact key _ h2) | simp at h1

theorem VP_cell {w : World} {G : Gh} {m : Mt} {r : Root} {i : Nat} {d : D} {v : Value} (h : ∀ cs, d ≠ .agg cs) : VP w G m r i d v = VC w G m ⟨r, i, 0⟩ d v := by
  cases d <;> first | rfl | exact absurd rfl (h _)
theorem VT_part {w : World} {G : Gh} {m : Mt} {r : Root} {d : D} {v : Value} (h : ∀ ds, d ≠ .tup ds) : VT w G m r d v = VP w G m r 0 d v := by
  cases d <;> first | rfl | exact absurd rfl (h _)

theorem VC.any {w : World} {G : Gh} {m : Mt} {p q : Place} {d : D} {v : Value} (h : VC w G m p d v) (hd : isOwn d = false) : VC w G m q d v := by
  cases d with
  | list k xs => cases k <;> first | exact h | simp [isOwn] at hd
  | _ => exact h
theorem VP.any {w : World} {G : Gh} {m : Mt} {r r' : Root} {i i' : Nat} {d : D} {v : Value} (h : VP w G m r i d v) (hd : anyAt isOwn d = false) : VP w G m r' i' d v := by
  cases d with
  | agg cs =>
    obtain ⟨vs, rfl, hl, h1⟩ := h
    refine ⟨vs, rfl, hl, fun j d u hd' hu => (h1 j d u hd' hu).any ?_⟩
    have := List.any_eq_false.1 hd d (List.mem_of_getElem? hd')
    simpa using this
  | _ =>
    rw [VP_cell (by intro cs h; cases h)] at h ⊢
    exact h.any hd
theorem VT.any {w : World} {G : Gh} {m : Mt} {r r' : Root} {d : D} {v : Value} (h : VT w G m r d v) (hd : hasOwn d = false) : VT w G m r' d v := by
  cases d with
  | tup ds =>
    obtain ⟨vs, rfl, hl, h1⟩ := h
    refine ⟨vs, rfl, hl, fun j d u hd' hu => (h1 j d u hd' hu).any ?_⟩
    have := List.any_eq_false.1 hd d (List.mem_of_getElem? hd')
    simpa using this
  | _ =>
    rw [VT_part (by intro cs h; cases h)] at h ⊢
    exact h.any hd

theorem Act.put_getD (a : Act) (t u : Nat) (v : Value) (ht : t < a.tmps.size) : (a.put (some t) v).tmps.getD u undef = if u = t then v else a.tmps.getD u undef := by
  simp only [Act.put, Array.getD_eq_getD_getElem?, Array.getElem?_setIfInBounds]
  by_cases h : u = t
  · subst h
    simp [ht]
  · have : ¬ t = u := fun e => h e.symm
    simp [h, this]

theorem Rel.put {X : Ctx} {G : Gh} {s : DS} {a : Act} {w : World} (h : Rel X G s a w) {t : Nat} {d : D} {v : Value} (ht : t < X.n) (hv : VT w G (putS t d s).m (.slot t) d v) : Rel X G (putS t d s) (a.put (some t) v) w := by
  have K : Keeps w G s.m w G (putS t d s).m (fun _ => True) := by
    refine Keeps.of_counts ?_ ?_ ?_ ?_ <;> simp only [putS] <;> split <;> first | rfl | (intro r; first | exact bS_rv _ _ _ | exact Nat.le_refl _) | exact Nat.le_refl _
  have hb : ∀ {r : Root} {b : Nat} {cs : List D}, BoxV w G s.m r b cs → BoxV w G (putS t d s).m r b cs := fun hb => K.box (fun _ _ _ _ => trivial) (fun _ => ⟨rfl, rfl⟩) hb
  refine { size := by simp [Act.put, h.size], defers := h.defers, env := fun u e hu => ?_, loc := fun u cs hu => ?_, sto := fun k o hk => ?_, be := h.be, new := h.new, stow := h.stow, std := h.std, old := h.old, os := h.os, tape := h.tape, output := h.output, grow := h.grow, ro := h.ro, rom := by simp only [putS]; split <;> exact h.rom, be0 := h.be0, n0 := h.n0, la0 := h.la0 }
  · rw [Act.put_getD a t u v (by rw [h.size]; exact ht)]
    have hu' : lk u (ins t d s.env) = some e := hu
    rw [lk_ins] at hu'
    by_cases e' : u = t
    · subst e'
      simp at hu'
      subst hu'
      simpa using hv
    · simp only [e', if_false] at hu' ⊢
      exact K.vt (fun _ _ _ _ _ _ _ => trivial) (h.env u e hu')
  · obtain ⟨h1, h2⟩ := h.loc u cs hu
    exact ⟨h1, hb h2⟩
  · obtain ⟨b, h1, h2, h3, h4⟩ := h.sto k o hk
    refine ⟨b, h1, h2, h3, ?_⟩
    cases o with
    | map es => exact h4
    | box cs =>
      simp only [ObV] at h4 ⊢
      split
      · simpa [*] using h4
      · rename_i hk'
        simp only [hk', if_false] at h4
        exact hb h4

theorem Rel.void {X : Ctx} {G : Gh} {s : DS} {a : Act} {w : World} (h : Rel X G s a w) {t : Nat} {v : Value} (m' : Mt) (he : m'.ep = s.m.ep) (hr : ∀ r, s.m.rv r ≤ m'.rv r) (ha : ∀ t, s.m.al t ≤ m'.al t) (hg : s.m.era ≤ m'.era) (hro : m'.ro = s.m.ro) (ht : t < X.n) :
    Rel X G { s with env := del t s.env, m := m' } (a.put (some t) v) w := by
  have K : Keeps w G s.m w G m' (fun _ => True) := Keeps.of_counts he hr ha hg
  have hb : ∀ {r : Root} {b : Nat} {cs : List D}, BoxV w G s.m r b cs → BoxV w G m' r b cs := fun hb => K.box (fun _ _ _ _ => trivial) (fun _ => ⟨rfl, rfl⟩) hb
  refine { size := by simp [Act.put, h.size], defers := h.defers, env := fun u e hu => ?_, loc := fun u cs hu => ?_, sto := fun k o hk => ?_, be := h.be, new := h.new, stow := h.stow, std := h.std, old := h.old, os := h.os, tape := h.tape, output := h.output, grow := h.grow, ro := h.ro, rom := hro.trans h.rom, be0 := h.be0, n0 := h.n0, la0 := h.la0 }
  · rw [Act.put_getD a t u v (by rw [h.size]; exact ht)]
    have hu' : lk u (del t s.env) = some e := hu
    rw [lk_del] at hu'
    by_cases e' : u = t
    · simp [e'] at hu'
    · simp only [e', if_false] at hu' ⊢
      exact K.vt (fun _ _ _ _ _ _ _ => trivial) (h.env u e hu')
  · obtain ⟨h1, h2⟩ := h.loc u cs hu
    exact ⟨h1, hb h2⟩
  · obtain ⟨b, h1, h2, h3, h4⟩ := h.sto k o hk
    refine ⟨b, h1, h2, h3, ?_⟩
    cases o with
    | map es => exact h4
    | box cs =>
      simp only [ObV] at h4 ⊢
      split
      · simpa [*] using h4
      · rename_i hk'
        simp only [hk', if_false] at h4
        exact hb h4

theorem Rel.less {X : Ctx} {G : Gh} {s : DS} {a : Act} {w : World} (h : Rel X G s a w) (env : List (Nat × D)) (loc : List (Nat × List D)) (h1 : ∀ t d, lk t env = some d → lk t s.env = some d) (h2 : ∀ t d, lk t loc = some d → lk t s.loc = some d) :
    Rel X G { s with env, loc } a w :=
  { h with env := fun t d ht => h.env t d (h1 t d ht), loc := fun t cs ht => h.loc t cs (h2 t cs ht) }

theorem dOf1_imm {w : World} {G : Gh} {m : Mt} {p : Place} {v : Value} {d : D} (h : dOf1 v = some d) : VC w G m p d v := by
  unfold dOf1 at h
  split at h <;> first | (cases h; first | exact .int _ _ | exact .bool _ | exact .str _ | exact .nil | exact .nilmap | exact .nilfn | exact .inl ⟨rfl, rfl⟩) | simp at h
theorem dOfL_get : ∀ {vs : List Value} {ds : List D}, dOfL vs = some ds → vs.length = ds.length ∧ ∀ (j : Nat) (d : D) (v : Value), ds[j]? = some d → vs[j]? = some v → dOf1 v = some d
  | [], ds, h => by
    simp [dOfL] at h
    subst h
    exact ⟨rfl, fun j d v h => by simp at h⟩
  | v :: r, ds, h => by
    simp only [dOfL] at h
    split at h
    · rename_i d ds' h1 h2
      cases h
      obtain ⟨h3, h4⟩ := dOfL_get h2
      refine ⟨by simp [h3], fun j d' v' hd hv => ?_⟩
      cases j with
      | zero => simp at hd hv; subst hd; subst hv; exact h1
      | succ j => simp at hd hv; exact h4 j d' v' hd hv
    · simp at h
theorem dOf_vt {w : World} {G : Gh} {m : Mt} {r : Root} {v : Value} {d : D} (h : dOf v = some d) : VT w G m r d v := by
  have h1 : ∀ d, dOf1 v = some d → (∀ cs, d ≠ .agg cs) ∧ (∀ cs, d ≠ .tup cs) := by
    intro d h
    unfold dOf1 at h
    split at h <;> first | (cases h; exact ⟨fun _ h => (nomatch h), fun _ h => (nomatch h)⟩) | simp at h
  unfold dOf at h
  split at h
  · rename_i cs
    obtain ⟨ds, hd, rfl⟩ := Option.map_eq_some_iff.1 h
    obtain ⟨h3, h4⟩ := dOfL_get hd
    exact ⟨cs.toList, by simp, h3, fun j d u hd hu => dOf1_imm (h4 j d u hd hu)⟩
  · have h2 := h1 d h
    have h3 := dOf1_imm (w := w) (G := G) (m := m) (p := ⟨r, 0, 0⟩) h
    cases d <;> first | exact h3 | exact absurd rfl (h2.1 _) | exact absurd rfl (h2.2 _)

theorem lookO_vt {X : Ctx} {G : Gh} {s : DS} {a : Act} {w : World} (h : Rel X G s a w) {x : Operand} {d : D} (hx : lookO s x = some d) (r : Root) (hd : hasOwn d = false) : VT w G s.m r d (a.eval x) := by
  cases x with
  | tmp t => exact (h.env t d hx).any hd
  | const v => exact dOf_vt hx
  | func f =>
    simp [lookO] at hx
    subst hx
    exact .fn f [] [] rfl fun i d v h => by simp at h
  | global g => simp [lookO] at hx

end Go.Lv

namespace Go.Lv

theorem mapIx_get (f : Nat → D → D) : ∀ (cs : List D) (k j : Nat), (mapIx f k cs)[j]? = (cs[j]?).map (f (k + j))
  | [], k, j => by simp [mapIx]
  | c :: r, k, 0 => by simp [mapIx]
  | c :: r, k, j + 1 => by
    simp only [mapIx, List.getElem?_cons_succ]
    rw [mapIx_get f r (k + 1) j]
    congr 2
    omega
theorem mapIx_length (f : Nat → D → D) : ∀ (cs : List D) (k : Nat), (mapIx f k cs).length = cs.length
  | [], _ => rfl
  | _ :: r, k => by simp [mapIx, mapIx_length f r (k + 1)]
theorem mapIx_id : ∀ (cs : List D) (k : Nat), mapIx (fun _ c => c) k cs = cs
  | [], _ => rfl
  | c :: r, k => by simp [mapIx, mapIx_id r (k + 1)]
theorem mapAt_id (d : D) : mapAt (fun _ c => c) d = d := by
  cases d <;> simp [mapAt, mapIx_id]
theorem mapTop_id (d : D) : mapTop (fun _ _ c => c) d = d := by
  cases d with
  | tup ds =>
    have : (fun (i : Nat) (d : D) => mapAt (fun _ c => c) d) = fun _ d => d := by funext i d; exact mapAt_id d
    simp only [mapTop, this, mapIx_id]
  | _ => simp [mapTop, mapAt, mapIx_id]

theorem VC.plain {w : World} {G : Gh} {m : Mt} {p : Place} {d : D} {v : Value} (h : VC w G m p d v) : (∀ cs, d ≠ .agg cs) ∧ ∀ ds, d ≠ .tup ds := by
  cases d <;> first | exact False.elim h | (refine ⟨?_, ?_⟩ <;> intro x hx <;> cases hx)

section
variable {w w' : World} {G G' : Gh} {m m' : Mt}
theorem VP.map {r r' : Root} {i i' : Nat} {d : D} {v : Value} (F : Nat → D → D) (hF : ∀ j c u, VC w G m ⟨r, i, j⟩ c u → VC w' G' m' ⟨r', i', j⟩ (F j c) u) (h : VP w G m r i d v) : VP w' G' m' r' i' (mapAt F d) v := by
  cases d with
  | agg cs =>
    obtain ⟨vs, rfl, hl, h1⟩ := h
    refine ⟨vs, rfl, by rw [mapIx_length]; exact hl, fun j d u hd hu => ?_⟩
    rw [mapIx_get] at hd
    obtain ⟨c, hc, rfl⟩ := Option.map_eq_some_iff.1 hd
    rw [Nat.zero_add]
    exact hF j c u (h1 j c u hc hu)
  | _ =>
    rw [VP_cell (by intro cs h; cases h)] at h
    have h2 := hF 0 _ _ h
    simp only [mapAt]
    rw [VP_cell h2.plain.1]
    exact h2
theorem VP.notup {r : Root} {i : Nat} {d : D} {v : Value} (h : VP w G m r i d v) : ∀ ds, d ≠ .tup ds := by
  intro ds e
  subst e
  exact h
theorem VT.map {r r' : Root} {d : D} {v : Value} (F : Nat → Nat → D → D) (hF : ∀ i j c u, VC w G m ⟨r, i, j⟩ c u → VC w' G' m' ⟨r', i, j⟩ (F i j c) u) (h : VT w G m r d v) : VT w' G' m' r' (mapTop F d) v := by
  cases d with
  | tup ds =>
    obtain ⟨vs, rfl, hl, h1⟩ := h
    refine ⟨vs, rfl, by rw [mapIx_length]; exact hl, fun j d u hd hu => ?_⟩
    rw [mapIx_get] at hd
    obtain ⟨c, hc, rfl⟩ := Option.map_eq_some_iff.1 hd
    rw [Nat.zero_add]
    exact (h1 j c u hc hu).map (F j) (hF j)
  | _ =>
    rw [VT_part (by intro cs h; cases h)] at h
    have h2 := VP.map (r' := r') (i' := 0) (F 0) (hF 0) h
    simp only [mapTop]
    rw [VT_part h2.notup]
    exact h2
end

noncomputable def Gh.mv (G : Gh) (f g : Place → Option Place) : Gh :=
  { G with
    own := fun b => match G.own b with
      | some (.lst p) => some (.lst ((f p).getD p))
      | o => o
    pl := fun q => match g q with
      | some p => G.pl p
      | none => G.pl q }

section
variable {w : World} {G : Gh} {m m' : Mt} {f g : Place → Option Place}
theorem mv_own_lst {b : Nat} {p : Place} (h : G.own b = some (.lst p)) : (G.mv f g).own b = some (.lst ((f p).getD p)) := by simp [Gh.mv, h]
theorem mv_own_other {b : Nat} (h : ∀ p, G.own b ≠ some (.lst p)) : (G.mv f g).own b = G.own b := by
  simp only [Gh.mv]
theorem mv_keeps (he : m'.ep = m.ep) (hr : ∀ r, m.rv r ≤ m'.rv r) (ha : ∀ t, m.al t ≤ m'.al t) (hg : m.era ≤ m'.era) (hpl : ∀ q p, g q = some p → q.r.isAir = true ∨ m'.rv q.r ≠ m.rv q.r) :
    Keeps w G m w (G.mv f g) m' (fun p => f p = none ∧ g p = none) where
  be := fun _ _ h => h
  st := fun _ _ h => h
  cell := fun _ _ _ _ _ => rfl
  ep := by omega
  rv := hr
  al := ha
  era := hg
  rd := fun _ b n h => ⟨by
    rcases h with h | ⟨⟨p, hp⟩, hn⟩
    · exact .inl h
    · exact .inr ⟨⟨_, mv_own_lst hp⟩, hn⟩, fun _ _ => rfl⟩
  pl := fun p ha hv => by
    simp only [Gh.mv]
    cases hg' : g p with
    | none => rfl
    | some q => rcases hpl p q hg' with h | h <;> simp_all
  la := fun _ _ => rfl
  own := fun b p hk h => ⟨by rw [mv_own_lst h, hk.1]; rfl, rfl, fun _ => ⟨rfl, rfl⟩⟩
  opl := fun p hk => by simp only [Gh.mv, hk.2]
  mp := fun _ k b es clock hb hh => ⟨es, clock, hh, fun i x hx => ⟨x, hx, rfl⟩⟩

theorem VC.mv (K : Keeps w G m w (G.mv f g) m' (fun p => f p = none ∧ g p = none)) {p q : Place} (hf : f p = some q) (hg : g q = some p) {d : D} {v : Value} (h : VC w G m p d v) : VC w (G.mv f g) m' q d v := by
  by_cases hd : isOwn d = true
  · obtain ⟨sz, xs, rfl⟩ := isOwn_eq hd
    rcases h with h | ⟨hz, b, off, cap, rfl, hc, ho, hfin, hpl, hcell, hrows⟩
    · exact .inl h
    · refine .inr ⟨hz, b, off, cap, rfl, hc, by rw [mv_own_lst ho, hf]; rfl, hfin, ?_, hcell, hrows⟩
      simp only [Gh.mv, hg]
      exact hpl
  · exact (K.vc (fun h => absurd h hd) h).any (by simpa using hd)
end

section
variable {w w' : World} {G G' : Gh} {m m' : Mt} {kp : Place → Prop}
theorem VC.left (K : Keeps w G m w' G' m' kp) (he : m'.ep = m.ep) {p q : Place} {d : D} {v : Value} (h : VC w G m p d v) : VC w' G' m' q (leftC m.ep d) v := by
  by_cases hd : isOwn d = true
  · obtain ⟨sz, xs, rfl⟩ := isOwn_eq hd
    rcases h with ⟨rfl, rfl⟩ | ⟨hz, b, off, cap, rfl, hc, ho, hfin, hpl, hcell, hrows⟩
    · exact ⟨none, 0, rfl, by omega, fun _ => .inl rfl, fun _ _ h => by cases h⟩
    · obtain ⟨r1, r2⟩ := K.rd he b (off + xs.length * sz) (.inr ⟨⟨p, ho⟩, by omega⟩)
      exact ⟨_, cap, rfl, by omega, fun _ => .inr ⟨b, off, sz, rfl, hz, hc, r1, hrows.mono K.be K.st K.cell r2⟩, fun _ _ h => by cases h⟩
  · have : leftC m.ep d = d := by
      cases d with
      | list k xs => cases k <;> simp_all [isOwn, leftC]
      | _ => rfl
    rw [this]
    exact (K.vc (fun h => absurd h hd) h).any (by simpa using hd)
theorem VC.look (K : Keeps w G m w' G' m' kp) (he : m'.ep = m.ep) {p q : Place} (hp : p.r.isAir = false) (hk : kp p) {d : D} {v : Value} (h : VC w G m p d v) : VC w' G' m' q (lookC m'.ep p (m'.rv p.r) d) v := by
  by_cases hd : isOwn d = true
  · obtain ⟨sz, xs, rfl⟩ := isOwn_eq hd
    have h' := K.vc (fun _ => hk) h
    rcases h' with ⟨rfl, rfl⟩ | ⟨hz, b, off, cap, rfl, hc, ho, hfin, hpl, hcell, hrows⟩
    · exact ⟨none, 0, rfl, Nat.le_refl _, fun _ => .inl rfl, fun p' n h => by cases h; exact ⟨hp, Nat.le_refl _, fun _ => .inl rfl⟩⟩
    · refine ⟨_, cap, rfl, Nat.le_refl _, fun _ => .inr ⟨b, off, sz, rfl, hz, hc, .inr ⟨⟨p, ho⟩, by omega⟩, hrows⟩, fun p' n h => ?_⟩
      cases h
      exact ⟨hp, Nat.le_refl _, fun _ => .inr ⟨by rw [hpl], hc⟩⟩
  · have : lookC m'.ep p (m'.rv p.r) d = d := by
      cases d with
      | list k xs => cases k <;> simp_all [isOwn, lookC]
      | _ => rfl
    rw [this]
    exact (K.vc (fun h => absurd h hd) h).any (by simpa using hd)
end

noncomputable def Gh.fr (G : Gh) (r : Root) : Gh :=
  open Classical in
  { G with
    own := fun b => if ∃ p, G.own b = some (.lst p) ∧ p.r = r then none else G.own b
    st := fun b n => G.st b n ∨ ((∃ p, G.own b = some (.lst p) ∧ p.r = r) ∧ n ≤ G.fin b) }

section
variable {w : World} {G : Gh} {m : Mt} {r : Root}
theorem fr_own_ne {b : Nat} (h : ∀ p, G.own b = some (.lst p) → p.r ≠ r) : (G.fr r).own b = G.own b := by
  simp only [Gh.fr]
  rw [if_neg]
  rintro ⟨p, h1, h2⟩
  exact h p h1 h2
theorem fr_keeps : Keeps w G m w (G.fr r) m (fun p => p.r ≠ r) where
  be := fun _ _ h => h
  st := fun _ _ h => .inl h
  cell := fun _ _ _ _ _ => rfl
  ep := Nat.le_refl _
  rv := fun _ => Nat.le_refl _
  al := fun _ => Nat.le_refl _
  era := Nat.le_refl _
  rd := fun _ b n h => ⟨by
    rcases h with h | ⟨⟨p, hp⟩, hn⟩
    · exact .inl (.inl h)
    · by_cases hr : p.r = r
      · exact .inl (.inr ⟨⟨p, hp, hr⟩, hn⟩)
      · refine .inr ⟨⟨p, ?_⟩, hn⟩
        rw [fr_own_ne (fun q hq => by rw [hp] at hq; cases hq; exact hr)]
        exact hp, fun _ _ => rfl⟩
  pl := fun _ _ _ => rfl
  la := fun _ _ => rfl
  own := fun b p hk h => ⟨by rw [fr_own_ne (fun q hq => by rw [h] at hq; cases hq; exact hk)]; exact h, rfl, fun _ => ⟨rfl, rfl⟩⟩
  opl := fun _ _ => rfl
  mp := fun _ k b es clock hb hh => ⟨es, clock, hh, fun i x hx => ⟨x, hx, rfl⟩⟩

theorem VC.fz {p q : Place} (hp : p.r = r) {d : D} {v : Value} (h : VC w G m p d v) : VC w (G.fr r) m q (fz d) v := by
  by_cases hd : isOwn d = true
  · obtain ⟨sz, xs, rfl⟩ := isOwn_eq hd
    rcases h with ⟨rfl, rfl⟩ | ⟨hz, b, off, cap, rfl, hc, ho, hfin, hpl, hcell, hrows⟩
    · exact .nils _ _
    · by_cases hx : xs = []
      · subst hx
        exact .nils _ _
      · have hs : (G.fr r).st b (off + xs.length * sz) := .inr ⟨⟨p, ho, hp⟩, by omega⟩
        have hK : Keeps w G m w (G.fr r) m (fun p => p.r ≠ r) := fr_keeps
        exact imm_list.2 (.inr ⟨b, off, cap, sz, rfl, List.length_pos_iff.2 hx, hz, hc, hs, hrows.mono hK.be hK.st hK.cell fun _ _ => rfl⟩)
  · have : Lv.fz d = d := by
      cases d with
      | list k xs => cases k <;> simp_all [isOwn, Lv.fz]
      | _ => rfl
    rw [this]
    exact ((fr_keeps (r := r)).vc (fun h => absurd h hd) h).any (by simpa using hd)
theorem VT.fz {r' : Root} {d : D} {v : Value} (h : VT w G m r d v) : VT w (G.fr r) m r' (fzTop d) v :=
  VT.map _ (fun i j c u hc => VC.fz (p := ⟨r, i, j⟩) rfl hc) h
end

theorem fz_own (d : D) : isOwn (fz d) = false := by
  cases d with
  | list k xs => cases k <;> rfl
  | _ => rfl

theorem Rel.re {X : Ctx} {G : Gh} {s : DS} {a : Act} {w : World} (h : Rel X G s a w) {G' : Gh} {s' : DS}
    (hown : ∀ b, (∀ p, G.own b ≠ some (.lst p)) → G'.own b = G.own b) (hbe : G'.be = G.be) (hla : G'.la = G.la)
    (hst : ∀ b e, G'.st b e → G.st b e ∨ ∃ p, G.own b = some (.lst p)) (hstow : ∀ b e, G'.st b e → G'.own b = none) (hstd : ∀ b e e', G'.st b e → e' ≤ e → G'.st b e')
    (henv : ∀ t d, lk t s'.env = some d → VT w G' s'.m (.slot t) d (a.tmps.getD t undef))
    (hloc : ∀ t cs, lk t s'.loc = some cs → (∃ cs0, lk t s.loc = some cs0) ∧ BoxV w G' s'.m (.lbox t) (G.la t) cs)
    (hro : s'.m.ro = s.m.ro) (hlen : s'.sto.length = s.sto.length) (hsto : ∀ k o b, s'.sto[k]? = some o → G.be k = some b → ObV w G' s'.m X.ro k b o) : Rel X G' s' a w where
  size := h.size
  defers := h.defers
  env := henv
  loc := fun t cs ht => by
    obtain ⟨⟨cs0, h0⟩, h1⟩ := hloc t cs ht
    have h2 := (h.loc t cs0 h0).1
    refine ⟨?_, by rw [hla]; exact h1⟩
    rw [hla, hown _ (by rw [h2]; intro p hp; cases hp)]
    exact h2
  sto := fun k o hk => by
    have hk' : k < s.sto.length := by rw [← hlen]; exact (List.getElem?_eq_some_iff.1 hk).1
    obtain ⟨b, h1, h2, h3, _⟩ := h.sto k _ (List.getElem?_eq_getElem hk')
    refine ⟨b, by rw [hbe]; exact h1, ?_, h3, hsto k o b hk h1⟩
    split <;> rename_i hr
    · simp only [hr, if_true] at h2
      rw [hown b (by rw [h2]; intro p hp; cases hp), h2]
    · simp only [hr, if_false] at h2
      rw [hown b (by rw [h2]; intro p hp; cases hp), h2]
  be := fun k hk => by rw [hbe]; exact h.be k (by omega)
  new := fun b hb => by
    obtain ⟨h1, h2⟩ := h.new b hb
    refine ⟨by rw [hown b (by rw [h1]; intro p hp; cases hp), h1], fun e he => ?_⟩
    rcases hst b e he with h3 | ⟨p, hp⟩
    · exact h2 e h3
    · rw [h1] at hp; cases hp
  stow := hstow
  std := hstd
  old := fun b hb h0 => by
    obtain ⟨h1, h2, h3⟩ := h.old b hb h0
    refine ⟨h1, by rw [hown b (by rw [h2]; intro p hp; cases hp), h2], fun e he => ?_⟩
    rcases hst b e he with h4 | ⟨p, hp⟩
    · exact h3 e h4
    · rw [h2] at hp; cases hp
  os := h.os
  tape := h.tape
  output := h.output
  grow := h.grow
  ro := by rw [hlen]; exact h.ro
  rom := hro.trans h.rom
  be0 := fun k hk => by rw [hbe]; exact h.be0 k hk
  n0 := by rw [hlen]; exact h.n0
  la0 := fun t ht => by rw [hla]; exact h.la0 t ht

theorem Rel.locK {X : Ctx} {G G' : Gh} {s : DS} {m' : Mt} {a : Act} {w : World} (h : Rel X G s a w) {kp : Place → Prop} (K : Keeps w G s.m w G' m' kp) (hk : ∀ t j, kp ⟨.lbox t, 0, j⟩) {t : Nat} {cs : List D} (ht : lk t s.loc = some cs) : BoxV w G' m' (.lbox t) (G.la t) cs :=
  K.box (fun j c _ _ => hk t j) (fun _ => ⟨rfl, rfl⟩) (h.loc t cs ht).2
theorem Rel.stoK {X : Ctx} {G G' : Gh} {s : DS} {m' : Mt} {a : Act} {w : World} (h : Rel X G s a w) {kp : Place → Prop} (K : Keeps w G s.m w G' m' kp) (hk : ∀ t j, kp ⟨.gbox t, 0, j⟩) {k b : Nat} {o : Ob} (ht : s.sto[k]? = some o) (hb : G.be k = some b) : ObV w G' m' X.ro k b o := by
  obtain ⟨b', h1, h2, h3, h4⟩ := h.sto k o ht
  rw [hb] at h1
  cases h1
  cases o with
  | map es => exact h4
  | box cs =>
    simp only [ObV] at h4 ⊢
    split <;> rename_i hr
    · simp only [hr, if_true] at h4
      intro j d hd
      obtain ⟨u, h5, h6⟩ := h4 j d hd
      exact ⟨u, h5, K.imm h6⟩
    · simp only [hr, if_false] at h4
      exact K.box (fun j c _ _ => hk k j) (fun _ => ⟨rfl, rfl⟩) h4

theorem mv_stow {G : Gh} {f g : Place → Option Place} (h : ∀ b e, G.st b e → G.own b = none) : ∀ b e, (G.mv f g).st b e → (G.mv f g).own b = none := by
  intro b e hs
  have h0 : G.own b = none := h b e hs
  rw [mv_own_other (by rw [h0]; intro p hp; cases hp), h0]

noncomputable def airOf (t n : Nat) (p : Place) : Option Place := if p.r = .slot t then some ⟨.air n, p.i, p.j⟩ else none
noncomputable def slotOf (t n : Nat) (p : Place) : Option Place := if p.r = .air n then some ⟨.slot t, p.i, p.j⟩ else none

theorem takeO_rel {X : Ctx} {G : Gh} {s s1 : DS} {a : Act} {w : World} (h : Rel X G s a w) {x : Operand} {d : D} (hx : takeO s x = some (d, s1)) (n : Nat) :
    ∃ G1, Rel X G1 s1 a w ∧ VT w G1 s1.m (.air n) d (a.eval x) ∧ Keeps w G s.m w G1 s1.m (fun p => p.r ≠ .air n ∧ ∀ t, x = .tmp t → p.r ≠ .slot t) ∧ s1.sto = s.sto ∧ s1.loc = s.loc ∧ s1.m.ep = s.m.ep ∧ s1.m.al = s.m.al ∧ s1.m.era = s.m.era := by
  by_cases hd : hasOwn d = false
  · have hs : s1 = s := by
      cases x with
      | tmp t =>
        simp only [takeO] at hx
        split at hx
        · split at hx
          · rename_i ho
            simp only [Option.some.injEq, Prod.mk.injEq] at hx
            rw [hx.1, hd] at ho
            cases ho
          · cases hx; rfl
        · cases hx
      | _ => simp only [takeO] at hx; split at hx <;> first | (cases hx; rfl) | cases hx
    subst hs
    have hl : lookO s1 x = some d := by
      cases x with
      | tmp t =>
        simp only [takeO] at hx
        split at hx
        · rename_i d' hl
          split at hx
          · rename_i ho
            simp only [Option.some.injEq, Prod.mk.injEq] at hx
            rw [hx.1, hd] at ho
            cases ho
          · cases hx; exact hl
        · cases hx
      | _ => simp only [takeO] at hx; split at hx <;> first | (rename_i hl; cases hx; exact hl) | cases hx
    exact ⟨G, h, lookO_vt h hl _ hd, Keeps.refl _ _ _ _, rfl, rfl, rfl, rfl, rfl⟩
  · have hd : hasOwn d = true := by simpa using hd
    cases x with
    | tmp t =>
      simp only [takeO] at hx
      split at hx
      · rename_i d' hl
        split at hx
        · cases hx
          have K : Keeps w G s.m w (G.mv (airOf t n) (slotOf t n)) (s.m.bS t) (fun p => airOf t n p = none ∧ slotOf t n p = none) :=
            mv_keeps rfl (bS_rv _ _) (fun _ => Nat.le_refl _) (Nat.le_refl _) (fun q p hq => by
              left
              simp only [slotOf] at hq
              split at hq
              · rename_i e; rw [e]; rfl
              · cases hq)
          have hv := h.env t d hl
          refine ⟨G.mv (airOf t n) (slotOf t n), ?_, ?_, ?_, rfl, rfl, rfl, rfl, rfl⟩
          · refine h.re (fun b hb => mv_own_other hb) rfl rfl (fun b e he => .inl he) (mv_stow h.stow) h.std (fun u e hu => ?_) (fun u cs hu => ⟨⟨cs, hu⟩, h.locK K (fun t j => ⟨by simp [airOf], by simp [slotOf]⟩) hu⟩) rfl rfl (fun k o b hk hb => h.stoK K (fun t j => ⟨by simp [airOf], by simp [slotOf]⟩) hk hb)
            have hu' : lk u (ins t (leftTop s.m.ep d) s.env) = some e := hu
            rw [lk_ins] at hu'
            by_cases e' : u = t
            · subst e'
              simp at hu'
              subst hu'
              exact VT.map _ (fun i j c u hc => VC.left K rfl hc) hv
            · simp only [e', if_false] at hu'
              refine K.vt (fun i q j c _ _ _ => ⟨?_, by simp [slotOf]⟩) (h.env u e hu')
              simp [airOf, e']
          · have := VT.map (r' := .air n) (fun _ _ c => c) (fun i j c u hc => VC.mv K (p := ⟨.slot t, i, j⟩) (by simp [airOf]) (by simp [slotOf]) hc) hv
            rwa [mapTop_id] at this
          · refine K.weaken fun p hp => ⟨?_, ?_⟩
            · simp only [airOf]
              rw [if_neg (hp.2 t rfl)]
            · simp only [slotOf]
              rw [if_neg hp.1]
        · rename_i ho
          simp only [Option.some.injEq, Prod.mk.injEq] at hx
          rw [hx.1] at ho
          exact absurd hd ho
      · cases hx
    | const v =>
      simp only [takeO] at hx
      split at hx
      · rename_i hl
        cases hx
        exact ⟨G, h, dOf_vt hl, Keeps.refl _ _ _ _, rfl, rfl, rfl, rfl, rfl⟩
      · cases hx
    | func f =>
      simp only [takeO, lookO] at hx
      cases hx
      simp [hasOwn, anyTop, anyAt, isOwn] at hd
    | global g => simp [takeO, lookO] at hx

theorem Rel.land {X : Ctx} {G : Gh} {s : DS} {a : Act} {w : World} (h : Rel X G s a w) {t n : Nat} {d : D} {v : Value} (ht : t < X.n) (hv : VT w G s.m (.air n) d v) : ∃ G1, Rel X G1 (putS t d s) (a.put (some t) v) w := by
  by_cases hd : hasOwn d = false
  · refine ⟨G, h.put ht ?_⟩
    refine VT.any ?_ hd (r := .air n)
    refine Keeps.vt (w := w) (G := G) (m := s.m) (kp := fun _ => True) ?_ (fun _ _ _ _ _ _ _ => trivial) hv
    refine Keeps.of_counts ?_ ?_ ?_ ?_ <;> simp only [putS] <;> split <;> first | rfl | (intro r; first | exact bS_rv _ _ _ | exact Nat.le_refl _) | exact Nat.le_refl _
  · have hd : hasOwn d = true := by simpa using hd
    have K : Keeps w G s.m w (G.mv (slotOf t n) (airOf t n)) (s.m.bS t) (fun p => slotOf t n p = none ∧ airOf t n p = none) :=
      mv_keeps rfl (bS_rv _ _) (fun _ => Nat.le_refl _) (Nat.le_refl _) (fun q p hq => by
        right
        simp only [airOf] at hq
        split at hq
        · rename_i e
          rw [e]
          simp [Mt.rv, Mt.bS]
        · cases hq)
    have h1 : Rel X (G.mv (slotOf t n) (airOf t n)) { s with env := del t s.env, m := s.m.bS t } a w := by
      refine h.re (fun b hb => mv_own_other hb) rfl rfl (fun b e he => .inl he) (mv_stow h.stow) h.std (fun u e hu => ?_) (fun u cs hu => ⟨⟨cs, hu⟩, h.locK K (fun t j => ⟨by simp [slotOf], by simp [airOf]⟩) hu⟩) rfl rfl (fun k o b hk hb => h.stoK K (fun t j => ⟨by simp [slotOf], by simp [airOf]⟩) hk hb)
      have hu' : lk u (del t s.env) = some e := hu
      rw [lk_del] at hu'
      by_cases e' : u = t
      · simp [e'] at hu'
      · simp only [e', if_false] at hu'
        exact K.vt (fun i q j c _ _ _ => ⟨by simp [slotOf], by simp [airOf, e']⟩) (h.env u e hu')
    have hv1 : VT w (G.mv (slotOf t n) (airOf t n)) (s.m.bS t) (.slot t) d v := by
      have := VT.map (r' := .slot t) (fun _ _ c => c) (fun i j c u hc => VC.mv K (p := ⟨.air n, i, j⟩) (by simp [slotOf]) (by simp [airOf]) hc) hv
      rwa [mapTop_id] at this
    have hs : putS t d s = { s with env := ins t d s.env, m := s.m.bS t } := by simp [putS, hd]
    refine ⟨G.mv (slotOf t n) (airOf t n), ?_⟩
    rw [hs]
    refine { size := by simp [Act.put, h1.size], defers := h1.defers, env := fun u e hu => ?_, loc := h1.loc, sto := h1.sto, be := h1.be, new := h1.new, stow := h1.stow, std := h1.std, old := h1.old, os := h1.os, tape := h1.tape, output := h1.output, grow := h1.grow, ro := h1.ro, rom := h1.rom, be0 := h1.be0, n0 := h1.n0, la0 := h1.la0 }
    rw [Act.put_getD a t u v (by rw [h.size]; exact ht)]
    have hu' : lk u (ins t d s.env) = some e := hu
    rw [lk_ins] at hu'
    by_cases e' : u = t
    · subst e'
      simp at hu'
      subst hu'
      simpa using hv1
    · simp only [e', if_false] at hu' ⊢
      exact h1.env u e (by show lk u (del t s.env) = some e; rw [lk_del]; simp [e', hu'])

theorem Rel.freeze {X : Ctx} {G : Gh} {s : DS} {a : Act} {w : World} (h : Rel X G s a w) (n : Nat) : Rel X (G.fr (.air n)) s a w ∧ Keeps w G s.m w (G.fr (.air n)) s.m (fun p => p.r ≠ .air n) := by
  refine ⟨?_, fr_keeps⟩
  have K : Keeps w G s.m w (G.fr (.air n)) s.m (fun p => p.r ≠ .air n) := fr_keeps
  refine h.re (fun b hb => fr_own_ne (fun p hp => absurd hp (hb p))) rfl rfl (fun b e he => ?_) (fun b e he => ?_) (fun b e e' he hee => ?_) (fun u e hu => K.vt (fun i q j c _ _ _ => by simp) (h.env u e hu)) (fun u cs hu => ⟨⟨cs, hu⟩, h.locK K (fun t j => by simp) hu⟩) rfl rfl (fun k o b hk hb => h.stoK K (fun t j => by simp) hk hb)
  · rcases he with he | ⟨⟨p, hp, _⟩, _⟩
    · exact .inl he
    · exact .inr ⟨p, hp⟩
  · rcases he with he | ⟨hp, _⟩
    · have h0 : G.own b = none := h.stow b e he
      rw [fr_own_ne (by rw [h0]; intro p hp; cases hp), h0]
    · simp only [Gh.fr]
      rw [if_pos hp]
  · rcases he with he | ⟨hp, hn⟩
    · exact .inl (h.std b e e' he hee)
    · exact .inr ⟨hp, by omega⟩

end Go.Lv
