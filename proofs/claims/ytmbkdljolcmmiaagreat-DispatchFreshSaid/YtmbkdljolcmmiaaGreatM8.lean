/-
  Part 8 of the texts under the proof: an abstract run of loaded code on data, and what the functions do. No condition.
-/
import Derived.Test.YtmbkdljolcmmiaaGreatM7
import Derived.Laws.AppendOwn
set_option linter.all false
set_option maxRecDepth 100000
namespace Go.Lv

section
variable {P : Program} {L : Ly} {X : Ctx} {G G' : Gh} {s s' s1 : DS} {a a' : Act} {w w' : World} {c : FC} {b : Nat} {m m' : Mt}

structure Src (P : Program) (w : World) (G : Gh) (sz : Nat) (yv : Value) (ys : List (List D)) (news : Array Value) : Prop where
  len : ∀ W, (Builtin.lenOf yv).run P W = .ok ys.length W
  cells : ∀ n W, n ≤ ys.length → (∀ x, W.cell? x = w.cell? x) → (Builtin.firstCells sz n yv).run P W = .ok (news.extract 0 (n * sz)) W
  size : news.size = ys.length * sz
  one : ∀ u ∈ news.toList, u.oneCell' = true
  imm : ∀ (j c : Nat) (r : List D) (d : D) (u : Value), ys[j]? = some r → r[c]? = some d → news[j * sz + c]? = some u → Imm w G.be G.st d u

theorem imm_one {be : Nat → Option Nat} {st : Nat → Nat → Prop} {d : D} {u : Value} (h : Imm w be st d u) : u.oneCell' = true := by
  cases h <;> rfl

theorem src_ls {sz : Nat} {ys : List (List D)} {yv : Value} (h : LsV w G ys yv) (hsz : 0 < sz) (hal : allLen sz ys = true) : ∃ news, Src P w G sz yv ys news := by
  obtain ⟨A, cap, rfl, h1⟩ := h
  have hr : ∀ r, r ∈ ys → r.length = sz := fun r hr => by simpa using List.all_eq_true.1 hal r hr
  rcases h1 with rfl | ⟨b, off, sz', rfl, hz', hcap, hrd, hrow⟩
  · refine ⟨#[], ⟨fun W => rfl, fun n W hn hW => ?_, by simp, by simp, fun j c r d u hj => by simp at hj⟩⟩
    have hn0 : n = 0 := by simpa using hn
    subst hn0
    cases A with
    | none => simp [Builtin.firstCells]
    | some ad => simp [Builtin.firstCells, loadCells, loadCellsFrom]
  · by_cases hy : ys = []
    · subst hy
      refine ⟨#[], ⟨fun W => rfl, fun n W hn hW => ?_, by simp, by simp, fun j c r d u hj => by simp at hj⟩⟩
      have hn0 : n = 0 := by simpa using hn
      subst hn0
      simp [Builtin.firstCells, loadCells, loadCellsFrom]
    · have hse : sz' = sz := by
        cases ys with
        | nil => exact absurd rfl hy
        | cons r rest => rw [← hrow.1 r (by simp), hr r (by simp)]
      subst hse
      have hcell : ∀ k, k < ys.length * sz' → ∃ u, w.cell? ⟨b, off + k, none⟩ = some u ∧ u.oneCell' = true := by
        intro k hk
        have hj : k / sz' < ys.length := Nat.div_lt_of_lt_mul (by rw [Nat.mul_comm]; exact hk)
        have hc : k % sz' < sz' := Nat.mod_lt _ hz'
        have e1 : ys[k / sz']? = some ys[k / sz'] := List.getElem?_eq_getElem hj
        have hl := hrow.1 _ (List.getElem_mem hj)
        obtain ⟨u, hu, hi⟩ := hrow.2 (k / sz') (k % sz') _ _ e1 (List.getElem?_eq_getElem (by omega))
        rw [Nat.div_add_mod' k sz'] at hu
        exact ⟨u, hu, imm_one hi⟩
      refine ⟨(cellsAt w b off (ys.length * sz')).toArray, ⟨fun W => rfl, fun n W hn hW => ?_, by simp [cellsAt_length], fun u hu => ?_, fun j c r d u hj hc hu => ?_⟩⟩
      · have hle : n * sz' ≤ ys.length * sz' := Nat.mul_le_mul_right _ hn
        have he : (cellsAt w b off (ys.length * sz')).toArray.extract 0 (n * sz') = (cellsAt w b off (n * sz')).toArray := by
          apply Array.ext'
          simp only [Array.toList_extract, List.extract_eq_drop_take, List.drop_zero, Nat.sub_zero]
          apply List.ext_getElem?
          intro i
          rw [List.getElem?_take]
          simp only [cellsAt, List.getElem?_map, List.getElem?_range']
          by_cases hi : i < n * sz'
          · rw [if_pos hi]
            simp [hi, show i < ys.length * sz' by omega]
          · rw [if_neg hi]
            simp [hi]
        rw [he]
        have := run_loadCells_list (P := P) (w := W) ⟨b, off, none⟩ (cellsAt w b off (n * sz')) (fun j v hv => by
          have hj : j < n * sz' := by
            have := (List.getElem?_eq_some_iff.1 hv).1
            rwa [cellsAt_length] at this
          obtain ⟨u, hu, _⟩ := hcell j (by omega)
          rw [cellsAt_get hj hu] at hv
          cases hv
          rw [add_none, hW]
          exact hu)
        rw [cellsAt_length] at this
        simp only [Builtin.firstCells, this]
      · obtain ⟨k, hk⟩ := List.mem_iff_getElem?.1 hu
        have hk' : k < ys.length * sz' := by
          have := (List.getElem?_eq_some_iff.1 hk).1
          simpa [cellsAt_length] using this
        obtain ⟨u', h1, h2⟩ := hcell k hk'
        have h3 := cellsAt_get hk' h1
        simp only [List.getElem?_toArray] at hk
        rw [h3] at hk
        cases hk
        exact h2
      · have hj' := (List.getElem?_eq_some_iff.1 hj).1
        have hc' : c < sz' := by
          have := (List.getElem?_eq_some_iff.1 hc).1
          rwa [hrow.1 r (List.mem_of_getElem? hj)] at this
        have hlt := mul_lt (sz := sz') hj'
        obtain ⟨u', h1, h2⟩ := hrow.2 j c r d hj hc
        have h3 := cellsAt_get (n := ys.length * sz') (j := j * sz' + c) (by omega) h1
        simp only [List.getElem?_toArray] at hu
        rw [h3] at hu
        cases hu
        exact h2

theorem src_str {t : ByteArray} : Src P w G 1 (.string t) (bytesRows t) (t.data.map fun b => .int .u8 b.toNat) := by
  have hl : (bytesRows t).length = t.size := by simp [bytesRows]
  refine ⟨fun W => by simp [Builtin.lenOf, hl], fun n W hn hW => ?_, ?_, fun u hu => ?_, fun j c r d u hj hc hu => ?_⟩
  · simp only [Builtin.firstCells, Sem.run_pure, Nat.mul_one, ByteArray.data_extract, Array.map_extract]
  · simp [hl]
  · simp only [Array.toList_map, List.mem_map] at hu
    obtain ⟨x, _, rfl⟩ := hu
    rfl
  · obtain ⟨rfl, y, hy, rfl⟩ := bytesRows_get hj hc
    rw [Nat.mul_one, Nat.add_zero, Array.getElem?_map, hy] at hu
    simp at hu
    rw [← hu]
    exact .int _ _

theorem run_append (H : LyOK P L) {t u ty e : Nat} (ht : P.underlying t = some (.slice e)) {du : TypeDesc} (hu : P.underlying u = some du) (hdu : ∀ k, du ≠ .int k) {i : TypeInfo} {z : Value} (hi : P.info? e = some i) (hz : i.zero = some z)
    {yv : Value} {ys : List (List D)} {news : Array Value} (hy : Src P w G i.size yv ys news) {A : Option Addr} {n cap : Nat} :
    (n + ys.length ≤ cap → (A = none → ys = []) → (∀ b off, A = some ⟨b, off, none⟩ → (∀ j, j < ys.length * i.size → (w.cell? ⟨b, off + n * i.size + j, none⟩).isSome = true ∧ w.frozen? ⟨b, off + n * i.size + j, none⟩ = false)) → (∀ ad, A = some ad → ad.spot = none) →
      (Builtin.append_ #[t, u] ty #[.slice A n cap, yv]).run P w = .ok (.slice A (n + ys.length) cap) (match A with | some ad => w.setCells ad.block (ad.off + n * i.size) news.toList | none => w)) ∧
    (cap < n + ys.length → n + ys.length ≤ 9223372036854775807 → (n + ys.length) * i.bytes ≤ 140737488355328 → 0 < i.bytes → ∀ olds : Array Value, (∀ W : World, (∀ x, W.cell? x = w.cell? x) → (Builtin.firstCells i.size n (.slice A n cap)).run P W = .ok olds W) →
      (Builtin.append_ #[t, u] ty #[.slice A n cap, yv]).run P w = .ok (.slice (some ⟨w.heap.size, 0, none⟩) (n + ys.length) (grownCap w (n + ys.length) cap e))
        (w.drew.alloc (.cells (olds ++ news ++ Builtin.zeroCells z.cells (grownCap w (n + ys.length) cap e - (n + ys.length))) e))) := by
  have hm : (match du with | .int _ => true | _ => false) = false := by
    cases du <;> first | rfl | exact absurd rfl (hdu _)
  have hfull : news.extract 0 (ys.length * i.size) = news := by rw [← hy.size, Array.extract_size]
  constructor
  · intro hroom hnil hcells hspot
    have hf := hy.cells ys.length w (Nat.le_refl _) (fun _ => rfl)
    rw [hfull] at hf
    cases A with
    | none =>
      have hy0 := hnil rfl
      subst hy0
      have hroom' : n ≤ cap := by simpa using hroom
      have hf' : (Builtin.firstCells i.size 0 yv).run P w = .ok news w := hf
      simp [Builtin.append_, run_underlying ht, run_underlying hu, sizeOf, typeInfo, hi, hy.len, hm, hroom', hf']
    | some ad =>
      obtain ⟨b, off, sp⟩ := ad
      have hsp := hspot _ rfl
      simp only at hsp
      subst hsp
      have hc := hcells b off rfl
      have hst := run_storeCells_cells (P := P) b (off + n * i.size) news.toList 0 w (fun j hj => by simpa using (hc j (by rw [Array.length_toList, hy.size] at hj; exact hj)).1) (fun j hj => by simpa using (hc j (by rw [Array.length_toList, hy.size] at hj; exact hj)).2) hy.one
      simp only [Nat.add_zero] at hst
      simp [Builtin.append_, run_underlying ht, run_underlying hu, sizeOf, typeInfo, hi, hy.len, hm, hroom, hf, add_none, hst]
  · intro hg h63 hby hb0 olds ho
    have hf := hy.cells ys.length w.drew (Nat.le_refl _) (fun _ => rfl)
    rw [hfull] at hf
    have hn : ¬ (n + ys.length ≤ cap) := by omega
    have h48 := growslice_fits hg hby
    have h48' : ¬ (281474976710656 < Builtin.nextslicecap (n + ys.length) cap * i.bytes) := by omega
    have h63' : ¬ (9223372036854775807 < ((n : Int) + (ys.length : Int))) := by omega
    have hfo := ho w.drew (fun _ => rfl)
    simp [Builtin.append_, run_underlying ht, run_underlying hu, sizeOf, typeInfo, zeroValue, hi, hz, hy.len, hm, hn, h63', h48', Question.forced, hf, hfo, newRow, grownCap]

noncomputable def Gh.gf (G : Gh) (b n : Nat) : Gh := { G with fin := gset G.fin b n }

theorem Wr.growKeeps (W : Wr w w' b) {p : Place} {n n' : Nat} (hb : G.own b = some (.lst p)) (hf : G.fin b = n) (hn : n ≤ n') (hstow : ∀ b e, G.st b e → G.own b = none) (hc : ∀ o, o < n → w'.cell? ⟨b, o, none⟩ = w.cell? ⟨b, o, none⟩) (m : Mt) : Keeps w G m w' (G.gf b n') m (fun q => q ≠ p) where
  be := fun _ _ h => h
  st := fun _ _ h => h
  cell := fun b' n o hs _ => W.cell (by rintro rfl; rw [hstow _ _ hs] at hb; cases hb) o
  ep := Nat.le_refl _
  rv := fun r => Nat.le_refl _
  al := fun _ => Nat.le_refl _
  era := Nat.le_refl _
  rd := fun _ b' k hr => by
    by_cases e : b' = b
    · subst e
      rcases hr with hr | ⟨hp, hk⟩
      · rw [hstow _ _ hr] at hb; cases hb
      · refine ⟨.inr ⟨hp, ?_⟩, fun o ho => hc o (by omega)⟩
        simp only [Gh.gf, gset_same]
        omega
    · refine ⟨?_, fun o _ => W.cell e o⟩
      rcases hr with hr | ⟨hp, hk⟩
      · exact .inl hr
      · refine .inr ⟨hp, ?_⟩
        simp only [Gh.gf]
        rw [gset_ne _ _ e]
        exact hk
  pl := fun _ _ _ => rfl
  la := fun _ _ => rfl
  own := fun b' q hq ho => by
    have e : b' ≠ b := by
      rintro rfl
      rw [ho] at hb
      cases hb
      exact hq rfl
    exact ⟨ho, gset_ne _ _ e, fun o => ⟨W.cell e o, W.frozen _⟩⟩
  opl := fun _ _ => rfl
  mp := fun _ k b' es clock _ hh => ⟨es, clock, W.map _ _ _ hh, fun i x hx => ⟨x, hx, rfl⟩⟩

theorem Rel.reK (h : Rel X G s a w) (W : Wr w w' b) (hb : G.own b ≠ none) (hbx : ∀ r, G.own b ≠ some (.box r)) {kp : Place → Prop} (K : Keeps w G s.m w' G' s.m kp) (hkp : ∀ p, p.r.isAir = false → kp p)
    (hown : G'.own = G.own) (hbe : G'.be = G.be) (hla : G'.la = G.la) (hst : G'.st = G.st) : Rel X G' s a w' := by
  refine h.reW W hb (fun b _ => by rw [hown]) hbe hla (fun b e he => .inl (by rw [hst] at he; exact he)) (fun b e he => by rw [hst] at he; rw [hown]; exact h.stow b e he) (fun b e e' he hee => by rw [hst] at he ⊢; exact h.std b e e' he hee) h.size h.defers (fun u e hu => K.vt (fun i q j c _ _ _ => hkp _ rfl) (h.env u e hu)) (fun u cs hu => ⟨⟨cs, hu⟩, h.locW W K (fun j => hkp _ rfl) hu (by rintro rfl; exact hbx _ (h.loc u cs hu).1)⟩) rfl rfl (fun k o b' hk hb' => h.stoW W K (fun j => hkp _ rfl) hk hb' ?_)
  rintro rfl
  obtain ⟨b'', h1, h2, _⟩ := h.sto k o hk
  rw [hb'] at h1
  cases h1
  split at h2
  · exact hb h2
  · exact hbx _ h2

theorem rows_app {m n sz j c' : Nat} {xs ys : List (List D)} {r : List D} (h : (xs ++ ys)[j]? = some r) : (j < xs.length ∧ xs[j]? = some r) ∨ (xs.length ≤ j ∧ ys[j - xs.length]? = some r) := by
  by_cases hj : j < xs.length
  · rw [List.getElem?_append_left hj] at h; exact .inl ⟨hj, h⟩
  · rw [List.getElem?_append_right (by omega)] at h; exact .inr ⟨by omega, h⟩

theorem append_rel (H : LyOK P L) (h : Rel X G s a w) {t u ty e : Nat} (ht : L.tk t = .slice e) {du : TypeDesc} (hu : P.underlying u = some du) (hdu : ∀ k, du ≠ .int k) (hel : e < L.length) (hz0 : (L.zero e).isSome = true)
    {sz : Nat} {xs ys : List (List D)} {xv yv : Value} (hx : VT w G s.m (.air 0) (.list (.own sz) xs) xv) (hsz : sz = 0 ∨ sz = L.size e) (he : 0 < L.size e) (hby0 : 0 < L.bytes e) (hby : (xs.length + ys.length) * L.bytes e ≤ room) {news : Array Value} (hy : Src P w G (L.size e) yv ys news) (hal : allLen (L.size e) ys = true) :
    ∃ v' w' G' n, (Builtin.append_ #[t, u] ty #[xv, yv]).run P w = .ok v' w' ∧ Rel X G' s a w' ∧ VT w' G' s.m (.air n) (.list (.own (L.size e)) (xs ++ ys)) v' := by
  obtain ⟨zc, hzc⟩ := Option.isSome_iff_exists.1 hz0
  obtain ⟨i, z, hi, hz, hi2, hi3, hzc', hzl⟩ := H.zeroI hzc
  obtain ⟨z1, z2⟩ := dOfL_get hzc'
  have hzs : z.cells.size = L.size e := by rw [← Array.length_toList, z1, hzl]
  have hrl : ∀ r, r ∈ ys → r.length = L.size e := fun r hr => by simpa using List.all_eq_true.1 hal r hr
  rw [← hi2] at hy
  have hrun := fun A n cap => run_append (ty := ty) H (P := P) (L := L) (H.slice ht) hu hdu hi hz hy (A := A) (n := n) (cap := cap)
  have h63 : xs.length + ys.length ≤ 9223372036854775807 := by
    have : (xs.length + ys.length) * 1 ≤ (xs.length + ys.length) * L.bytes e := Nat.mul_le_mul_left _ hby0
    simp only [room] at hby
    omega
  -- the new block
  have grow : ∀ (A : Option Addr) (cap : Nat) (olds : Array Value), xv = .slice A xs.length cap → cap < xs.length + ys.length → (∀ W : World, (∀ x, W.cell? x = w.cell? x) → (Builtin.firstCells i.size xs.length (.slice A xs.length cap)).run P W = .ok olds W) → olds.size = xs.length * i.size → (∀ r, r ∈ xs → r.length = L.size e) →
      (∀ (j c' : Nat) (r : List D) (d : D) (u : Value), xs[j]? = some r → r[c']? = some d → olds[j * L.size e + c']? = some u → Imm w G.be G.st d u) → ∃ v' w' G' n, (Builtin.append_ #[t, u] ty #[xv, yv]).run P w = .ok v' w' ∧ Rel X G' s a w' ∧ VT w' G' s.m (.air n) (.list (.own (L.size e)) (xs ++ ys)) v' := by
    intro A cap olds hxv hg ho hos hxr hxi
    have hr := (hrun A xs.length cap).2 hg h63 (by rw [hi3]; exact hby) (by rw [hi3]; exact hby0) olds ho
    have hge := grownCap_ge w (xs.length + ys.length) cap e
    have N : New w (w.drew.alloc (.cells (olds ++ news ++ Builtin.zeroCells z.cells (grownCap w (xs.length + ys.length) cap e - (xs.length + ys.length))) e)) (.cells (olds ++ news ++ Builtin.zeroCells z.cells (grownCap w (xs.length + ys.length) cap e - (xs.length + ys.length))) e (0, 0)) := ⟨rfl, rfl, rfl, rfl⟩
    have hsize : (olds ++ news ++ Builtin.zeroCells z.cells (grownCap w (xs.length + ys.length) cap e - (xs.length + ys.length))).size = grownCap w (xs.length + ys.length) cap e * L.size e := by
      simp only [Array.size_append, size_zeroCells, hos, hy.size, hzs, hi2, ← Nat.add_mul]
      congr 1
      omega
    obtain ⟨G3, r3, v3, K3⟩ := h.newList N 1 (xs := xs ++ ys) (sz := L.size e) (cap := grownCap w (xs.length + ys.length) cap e) he (by simpa using hge) (by rw [hsize]; exact Nat.le_refl _) (fun o _ => by simp) (fun r hr' => by
        rcases List.mem_append.1 hr' with h1 | h1
        · exact hxr r h1
        · exact hrl r h1) (fun j c' r d v hr' hd hv => by
        have hc' : c' < L.size e := by
          have h8 := (List.getElem?_eq_some_iff.1 hd).1
          rcases List.mem_append.1 (List.mem_of_getElem? hr') with h1 | h1
          · rwa [hxr r h1] at h8
          · rwa [hrl r h1] at h8
        rcases rows_app (m := 0) (n := 0) (sz := 0) (c' := 0) hr' with ⟨hj, hr'⟩ | ⟨hj, hr'⟩
        · have hlt := mul_lt (sz := L.size e) hj
          rw [Array.append_assoc, Array.getElem?_append_left (by rw [hos, hi2]; omega)] at hv
          exact hxi j c' r d v hr' hd hv
        · have hj2 := (List.getElem?_eq_some_iff.1 hr').1
          have hlt := mul_lt (sz := L.size e) hj2
          have hm : j * L.size e = xs.length * L.size e + (j - xs.length) * L.size e := by rw [← Nat.add_mul]; congr 1; omega
          rw [Array.append_assoc, Array.getElem?_append_right (by rw [hos, hi2]; omega), Array.getElem?_append_left (by rw [hos, hy.size, hi2]; omega), hos, hi2, show j * L.size e + c' - xs.length * L.size e = (j - xs.length) * L.size e + c' by omega] at hv
          exact hy.imm (j - xs.length) c' r d v hr' hd (by rw [hi2]; exact hv))
    rw [List.length_append] at v3
    exact ⟨_, _, G3, 1, by rw [hxv]; exact hr, r3, v3⟩
  rcases (hx : OwnL w G ⟨.air 0, 0, 0⟩ sz xs xv) with ⟨rfl, rfl⟩ | ⟨hz', b, off, cap, rfl, hcap, hown, hfin, hpl, hcell, hrows⟩
  · by_cases hy0 : ys = []
    · subst hy0
      have hr := (hrun none 0 0).1 (by simp) (fun _ => rfl) (fun b off h => by cases h) (fun ad h => by cases h)
      exact ⟨_, _, G, 0, hr, h, .inl ⟨rfl, rfl⟩⟩
    · refine grow none 0 #[] rfl ?_ (fun W _ => by simp [Builtin.firstCells]) (by simp) (by simp) (by simp)
      have := List.length_pos_iff.2 hy0
      simpa using this
  · have hszE : sz = L.size e := by omega
    subst hszE
    by_cases hroom : xs.length + ys.length ≤ cap
    · have hmul : (xs.length + ys.length) * L.size e ≤ cap * L.size e := Nat.mul_le_mul_right _ hroom
      rw [Nat.add_mul] at hmul
      have hcs : ∀ j, j < ys.length * L.size e → (w.cell? ⟨b, off + xs.length * L.size e + j, none⟩).isSome = true ∧ w.frozen? ⟨b, off + xs.length * L.size e + j, none⟩ = false := fun j hj => by
        obtain ⟨⟨u, hu⟩, hf⟩ := hcell (xs.length * L.size e + j) (by omega)
        rw [← Nat.add_assoc] at hu hf
        exact ⟨by rw [hu]; rfl, hf⟩
      have hr := (hrun (some ⟨b, off, none⟩) xs.length cap).1 hroom (fun h => by cases h) (fun b' off' h => by cases h; rw [hi2]; exact hcs) (fun ad h => by cases h; rfl)
      simp only [hi2] at hr
      have hnl : news.toList.length = ys.length * L.size e := by rw [Array.length_toList, hy.size, hi2]
      have W := Wr.of_setCells w b (off + xs.length * L.size e) news.toList
      have hcs' : ∀ j, j < news.toList.length → (w.cell? ⟨b, off + xs.length * L.size e + j, none⟩).isSome = true := fun j hj => (hcs j (by omega)).1
      have hin : ∀ k, k < ys.length * L.size e → ∃ u, news.toList[k]? = some u ∧ (w.setCells b (off + xs.length * L.size e) news.toList).cell? ⟨b, off + xs.length * L.size e + k, none⟩ = some u := fun k hk => by
        obtain ⟨u, hu⟩ : ∃ u, news.toList[k]? = some u := ⟨_, List.getElem?_eq_getElem (by omega)⟩
        exact ⟨u, hu, setCells_at hcs' hu⟩
      have hout : ∀ o, o < off + xs.length * L.size e ∨ off + xs.length * L.size e + ys.length * L.size e ≤ o → (w.setCells b (off + xs.length * L.size e) news.toList).cell? ⟨b, o, none⟩ = w.cell? ⟨b, o, none⟩ := fun o ho => World.cell?_setCells_out b _ _ _ _ (fun _ _ => by rw [hnl]; exact ho)
      have K := W.growKeeps (n := off + xs.length * L.size e) (n' := off + (xs ++ ys).length * L.size e) hown hfin (by rw [List.length_append, Nat.add_mul]; omega) h.stow (fun o ho => hout o (.inl ho)) s.m
      have r1 := h.reK W (by rw [hown]; exact fun e => nomatch e) (fun r => by rw [hown]; exact fun e => nomatch e) K (fun p hp => by rintro rfl; cases hp) rfl rfl rfl rfl
      refine ⟨_, _, _, 0, hr, r1, .inr ⟨he, b, off, cap, by rw [List.length_append], by rw [List.length_append]; exact hroom, hown, by simp [Gh.gf], hpl, fun q hq => ?_, fun r hr' => ?_, fun j c' r d hr' hd => ?_⟩⟩
      · obtain ⟨⟨u, hu⟩, hf⟩ := hcell q hq
        refine ⟨?_, by rw [W.frozen]; exact hf⟩
        by_cases hin2 : xs.length * L.size e ≤ q ∧ q < xs.length * L.size e + ys.length * L.size e
        · obtain ⟨z', _, hz'⟩ := hin (q - xs.length * L.size e) (by omega)
          rw [show off + xs.length * L.size e + (q - xs.length * L.size e) = off + q by omega] at hz'
          exact ⟨z', hz'⟩
        · exact ⟨u, by rw [hout _ (by omega)]; exact hu⟩
      · rcases List.mem_append.1 hr' with h1 | h1
        · exact hrows.1 r h1
        · exact hrl r h1
      · have hc' : c' < L.size e := by
          have h8 := (List.getElem?_eq_some_iff.1 hd).1
          rcases List.mem_append.1 (List.mem_of_getElem? hr') with h1 | h1
          · rwa [hrows.1 r h1] at h8
          · rwa [hrl r h1] at h8
        rcases rows_app (m := 0) (n := 0) (sz := 0) (c' := 0) hr' with ⟨hj, hr'⟩ | ⟨hj, hr'⟩
        · obtain ⟨u, hu, hi'⟩ := hrows.2 j c' r d hr' hd
          have hlt := mul_lt (sz := L.size e) hj
          exact ⟨u, by rw [hout _ (.inl (by omega))]; exact hu, K.imm hi'⟩
        · have hj2 := (List.getElem?_eq_some_iff.1 hr').1
          have hlt := mul_lt (sz := L.size e) hj2
          have hm : j * L.size e = xs.length * L.size e + (j - xs.length) * L.size e := by rw [← Nat.add_mul]; congr 1; omega
          obtain ⟨u, hu1, hu2⟩ := hin ((j - xs.length) * L.size e + c') (by omega)
          rw [show off + xs.length * L.size e + ((j - xs.length) * L.size e + c') = off + (j * L.size e + c') by omega] at hu2
          exact ⟨u, hu2, K.imm (hy.imm (j - xs.length) c' r d u hr' hd (by rw [hi2]; simpa using hu1))⟩
    · have hcl : (cellsAt w b off (xs.length * L.size e)).length = xs.length * L.size e := cellsAt_length _ _ _
      have hmul : xs.length * L.size e ≤ cap * L.size e := Nat.mul_le_mul_right _ hcap
      refine grow (some ⟨b, off, none⟩) cap (cellsAt w b off (xs.length * L.size e)).toArray rfl (by omega) (fun W hW => ?_) (by simp [cellsAt_length, hi2]) hrows.1 (fun j c' r d u hr' hd hu' => ?_)
      · have := run_loadCells_list (P := P) (w := W) ⟨b, off, none⟩ (cellsAt w b off (xs.length * L.size e)) (fun j v hv => by
          have hj : j < xs.length * L.size e := by
            have := (List.getElem?_eq_some_iff.1 hv).1
            rwa [cellsAt_length] at this
          obtain ⟨⟨u, hu⟩, _⟩ := hcell j (by omega)
          rw [cellsAt_get hj hu] at hv
          cases hv
          rw [add_none, hW]
          exact hu)
        rw [cellsAt_length] at this
        simp only [Builtin.firstCells, hi2, this]
      · have hj := (List.getElem?_eq_some_iff.1 hr').1
        have hc' : c' < L.size e := by
          have h8 := (List.getElem?_eq_some_iff.1 hd).1
          rwa [hrows.1 r (List.mem_of_getElem? hr')] at h8
        have hlt := mul_lt (sz := L.size e) hj
        obtain ⟨v, hv, hi'⟩ := hrows.2 j c' r d hr' hd
        have h3 := cellsAt_get (n := xs.length * L.size e) (j := j * L.size e + c') (by omega) hv
        simp only [List.getElem?_toArray] at hu'
        rw [h3] at hu'
        cases hu'
        exact hi'

theorem Src.mono {sz : Nat} {yv : Value} {ys : List (List D)} {news : Array Value} (h : Src P w G sz yv ys news) (hi : ∀ d v, Imm w G.be G.st d v → Imm w G'.be G'.st d v) : Src P w G' sz yv ys news :=
  { h with imm := fun j c r d u h1 h2 h3 => hi _ _ (h.imm j c r d u h1 h2 h3) }

theorem src_look (h : Rel X G s a w) {y : Operand} {sz : Nat} {ys : List (List D)} (hy : (match lookO s y with | some (.str b) => some (bytesRows b) | some d => lsD s d | none => none) = some ys) (hsz : 0 < sz) (hal : allLen sz ys = true) : ∃ news, Src P w G sz (a.eval y) ys news := by
  split at hy
  · rename_i b hl
    cases hy
    have e := inv_str (lookO_vt h hl (.air 0) rfl)
    rw [e]
    by_cases h0 : b.data = #[]
    · have hb : bytesRows b = [] := by simp [bytesRows, h0]
      rw [hb]
      refine ⟨#[], ⟨fun W => ?_, fun n W hn hW => ?_, by simp, by simp, fun j c r d u hj => by simp at hj⟩⟩
      · have : b.size = 0 := by
          show b.data.size = 0
          rw [h0]; rfl
        simp [Builtin.lenOf, this]
      · have hn0 : n = 0 := by simpa using hn
        subst hn0
        simp [Builtin.firstCells]
    · have hpos : 0 < (bytesRows b).length := by
        rw [List.length_pos_iff]
        intro e
        apply h0
        simpa [bytesRows] using e
      have h1 : sz = 1 := by
        have := List.all_eq_true.1 hal ((bytesRows b)[0]) (List.getElem_mem hpos)
        simp only [bytesRows, List.getElem_map, List.length_cons, List.length_nil, beq_iff_eq] at this
        omega
      subst h1
      exact ⟨_, src_str⟩
  · rename_i d _ hl
    obtain ⟨r, hv⟩ := lookO_any h hl
    exact src_ls (lsD_rel h hv hy) hsz hal
  · cases hy

theorem op_append (H : LyOK P L) (h : Rel X G s a w) (hn : c.n = X.n) {o : Oper} {args : Array Operand} {tys : Array TypeId} (ho : o.op = .call { callee := .builtin .append, args, argTypes := tys }) (hs : appendOp L c s o.dst args.toList tys.toList = some s') : Yd P X o a w s' := by
  have key : ∀ (x y : Operand) (t u e : Nat) (du : TypeDesc), args = #[x, y] → tys = #[t, u] → L.tk t = .slice e → P.underlying u = some du → (∀ k, du ≠ .int k) → appendD L c s o.dst e x y = some s' → Yd P X o a w s' := by
    intro x y t u e du ea et ht hu hdu hs
    unfold appendD at hs
    split at hs
    · cases hs
    · rename_i ys hy
      split at hs
      · rename_i sz xs s1 htk
        rw [Option.ite_none_right_eq_some] at hs
        obtain ⟨hc, hs⟩ := hs
        simp only [Bool.and_eq_true, Bool.or_eq_true, decide_eq_true_eq] at hc
        obtain ⟨⟨⟨⟨⟨h1, h2⟩, h3⟩, h4⟩, h5⟩, h6⟩ := hc
        obtain ⟨news, hsrc⟩ := src_look (P := P) h hy h2 h5
        obtain ⟨G1, r1, v1, K1, _⟩ := takeO_rel h htk 0
        obtain ⟨td, htd, _⟩ := size_has h2
        obtain ⟨v', w', G', n, q1, q2, q3⟩ := append_rel (ty := o.type) H r1 ht hu hdu (List.getElem?_eq_some_iff.1 htd).1 h6 v1 h1 h2 h3 h4 (hsrc.mono fun d v hi => K1.imm hi) h5
        obtain ⟨G2, r2⟩ := q2.putO hn hs n q3
        refine ⟨_, _, G2, .inl ?_, r2⟩
        subst ea et
        simp only [execOp, ho, resolve, invoke, builtin, Sem.run_bind, Sem.run_pure, Result.andThen_ok, List.map_toArray, List.map_cons, List.map_nil, q1]
      · cases hs
  unfold appendOp at hs
  split at hs
  · rename_i x y t u ea et
    have ea' : args = #[x, y] := by rw [← Array.toArray_toList (xs := args), ea]
    have et' : tys = #[t, u] := by rw [← Array.toArray_toList (xs := tys), et]
    split at hs
    · rename_i e e' hk1 hk2
      exact key x y t u e _ ea' et' hk1 (H.slice hk2) (fun k h => by cases h) hs
    · rename_i e hk1 hk2
      exact key x y t u e _ ea' et' hk1 (H.str hk2) (fun k h => by cases h) hs
    · cases hs
  · cases hs
end

end Go.Lv
