/- logic: a row of a frozen slice, in memory; what valid computes. -/
import Derived.Test.YtbchmbddcdionaaEvN
set_option linter.unusedSimpArgs false
set_option linter.unusedVariables false
namespace Go.Proofs.Ytbchmbddcdionaa.Ev
open Go.RowKit

theorem cell_of {w : World} {g : Nat} {cur : Array Value} {e : TypeId} {fr : Nat × Nat} (h : w.heap[g]? = some (.cells cur e fr)) {o : Nat} {u : Value} (hu : cur[o]? = some u) : w.cell? ⟨g, o, none⟩ = some u := by
  simp [World.cell?, h, hu]
theorem RepF.row {S : Sta} {w : World} {B : Nat} (hW : WRel S w B) {l : List (List AV)} {v : Value} (h : RepF S.M (.lst l) v) {j : Nat} {row : List AV} (hj : l[j]? = some row) :
    ∃ g off cap, v = .slice (some ⟨g, off, none⟩) l.length cap ∧ g < w.heap.size ∧ ∀ k x, row[k]? = some x → ∃ u, w.cell? ⟨g, off + j * row.length + k, none⟩ = some u ∧ RepF S.M x u := by
  cases h with
  | lst0 a cap h => simp at hj
  | lst _ g off sz cap cur u h1 h2 h3 h4 h5 h6 =>
    obtain ⟨e, fr, he⟩ := hW.mem g cur h2
    refine ⟨g, off, cap, rfl, (Array.getElem?_eq_some_iff.1 he).1, fun k x hk => ⟨u j k, ?_, h6 j k row x hj hk⟩⟩
    have := h5 j k row x hj hk
    rw [h4 j row hj, Nat.add_assoc]
    exact cell_of he this

/-- what valid computes -/
def sem43 (ta tb : AV) (c fl : Int) (r : ByteArray) : Option Bool :=
  match ta, tb with
  | AV.lst l, AV.lst l' =>
    if c < 1 then some false else
    if ¬ c < (l.length : Int) then some false else
    if ¬ (r.toList = [80] ∨ r.toList = [76] ∨ r.toList = [86]) then some false else
    match l[c.toNat]?, l'[0]? with
    | some [AV.str _, AV.int .i64 _, AV.int .i64 mn, AV.int .i64 _, AV.lst fs, AV.int .i64 _, AV.bool _, AV.bool _], some [AV.str _, AV.int .i64 _, AV.int .i64 _, AV.int .i64 _, AV.lst rs, AV.int .i64 key, AV.bool _, AV.bool _] =>
      if fl < 0 then some false else
      if ¬ fl < (fs.length : Int) then some false else
      if key < 0 then none else
      match fs[fl.toNat]?, rs[key.toNat]? with
      | some [AV.str _, AV.int .i64 fa, AV.int .i64 fb], some [AV.str _, AV.int .i64 _, AV.int .i64 rb] =>
        if wrap64 (fa + fb) ≤ mn then some (fb == rb) else some false
      | _, _ => none
    | _, _ => none
  | _, _ => none
def p43 : List AV → Heap → Option (List AV × Heap)
  | [AV.agg [AV.str _, AV.int .i64 _, ta, _], AV.agg [AV.str _, AV.int .i64 _, tb, _], AV.agg [AV.int .i64 c, AV.int .i64 fl, AV.str r]], H => (sem43 ta tb c fl r).map fun b => ([AV.bool b], H)
  | _, _ => none
end Go.Proofs.Ytbchmbddcdionaa.Ev
