/-
  Part 15 of the texts under the proof: an abstract run of loaded code on data, and what the functions do. No condition.
-/
import Derived.Test.YtdlcjcpnkiphgaaM14
import Derived.JoinedCond
set_option linter.all false
set_option maxRecDepth 100000
namespace Go.Lv
open Go Go.ChangeShapes Go.WideShapes Go.ChangeAt Go.RowKit

section
variable {P : Program} {L : Ly} {H : Type} {enc : TypeId × Value → H} {W : World}
/-- A law that answers true on all data of a bulk. -/
theorem row_callsB (HL : LyOK P L) (hlaid : laidOutB P = true) {k : Nat} {fn : Func} {tb : Nat} {s : ChangeSpec} (hf : P.funcs[k]? = some fn) (hres : fn.resultTypes = #[tb]) (htb : L.tk tb = .bool) (hpar : fn.params.toList.all (parOK P L) = true) (hvars : s.vars = [])
    (hs : ∀ (H : Type) (ds : List (DataW H)), ds.length = fn.params.size → s.fn H ds = { results := [.lit (.bool true)], args := ds })
    {B : Nat} (hT : ∀ css, OkDs L fn.params.toList css → bulkLL css ≤ B → Tri P k 0 (argsD L fn.params.toList css) [] (fun d _ => d = .bool true))
    (W : World) (base : Nat) (args : Array Value) (ds gs : List (DataW H)) (before : List MemPlace)
    (hval : ∀ (j : Nat) t v, fn.params[j]? = some t → args[j]? = some v → Value.okWide P W .any base t v)
    (hW : DataW.Whole enc P fn.params.toList s.vars false W args.toList ds gs before)
    (hB : bulkWA ds ≤ B) :
    Calls P k args W fun e W' => ∃ v, e = .returned v ∧ s.post enc P fn false true false false W args v W' := by
  have hW' := hW
  obtain ⟨p, q, hA, hV, hpq, hfz, hnd⟩ := hW
  rw [hvars] at hV
  obtain ⟨rfl, rfl⟩ := trodVars_none hV
  have hpar' : ∀ t, t ∈ fn.params.toList → treeT L 12 t = true ∧ P.readableRec t = true ∧ t < P.types.size := fun t ht => by
    have := List.all_eq_true.1 hpar t ht
    simp only [parOK, Bool.and_eq_true, decide_eq_true_eq] at this
    exact ⟨this.1.1, this.1.2, this.2⟩
  obtain ⟨css, c1, c2, c3, _, c5⟩ := args_vtZ (base := base) HL fn.params.toList args.toList ds p (fun t ht => (hpar' t ht).1) (fun j t v h1 h2 => hval j t v (by simpa using h1) (by simpa using h2)) hA
  obtain ⟨fn', hf', hb, hlen, hro, hcall⟩ := hT css c1 (Nat.le_trans c5 hB)
  have e : fn' = fn := by rw [hf] at hf'; exact (Option.some.inj hf').symm
  subst e
  have hstart := Rel.top (W := W) (n := fn'.ntmps) c2 (by rw [← c2]; exact hlen) c3
  have := hcall (GW W) W args.toList c2.symm hstart
  rw [Array.toArray_toList] at this
  refine this.mono fun e W' he => ?_
  cases e with
  | panicked c => exact he.elim
  | outgrown => exact he.elim
  | returned v =>
    obtain ⟨d, s', G', a', rfl, hR, hv⟩ := he
    have hvb : v = .bool true := inv_bool hv
    subst hvb
    refine ⟨_, rfl, ?_⟩
    have hlt := hW'.lt
    have hbelow : Below W.heap.size W W' := ⟨hR.os, hR.tape, hR.output, hR.grow, fun k hk => (hR.old k hk rfl).1⟩
    have hdl : ds.length = fn'.params.size := by
      have : ∀ (ts : List Nat) (vs : List Value) (ds : List (DataW H)) (ps : List MemPlace), DataW.TrodAll enc P W 0 (fun _ => true) true ts vs ds ps → ds.length = ts.length := by
        intro ts
        induction ts with
        | nil => intro vs ds ps h; obtain ⟨_, rfl, _⟩ := trodAll_nil h; rfl
        | cons t ts ih => intro vs ds ps h; obtain ⟨v, vs', d, ds', p, q, rfl, rfl, rfl, h1, h2⟩ := trodAll_cons h; simp [ih _ _ _ h2]
      simpa using this _ _ _ _ hA
    have hfn := hs H ds hdl
    refine ⟨ds, [], before, [], before, [], hW', ?_, ?_, ?_, ?_, fun h => by cases h⟩
    · rw [List.append_nil, hfn, hres]
      exact trodAll_mk1 ⟨1, by simp [DataW.trod, HL.bool htb, Value.cells]⟩
    · rw [List.append_nil, hfn]
      rw [hpq, List.append_nil]
      exact trodAll_stays hlaid hbelow _ _ _ _ (fun t ht => (hpar' t ht).2) (fun x hx => hlt x (by rw [hpq, List.append_nil]; exact hx)) hA
    · rw [hvars]
      rw [List.append_nil, hfn]
      rfl
    · refine ⟨hR.os, hR.output, fun i hi => ?_⟩
      rw [(hR.old i hi rfl).1]
      split <;> simp_all
end

end Go.Lv
