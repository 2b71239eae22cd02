/- The document's answer to one call. -/
import Derived.Test.YtehcdcnghcbimaaFj
set_option linter.unusedSimpArgs false
set_option linter.unusedVariables false
namespace Go.Proofs.Ytehcdcnghcbimaa.Code
open Go.Proofs.Ytehcdcnghcbimaa.Ev

/-- no key stands twice -/
def Apart (rows : List Row) : Prop := ∀ (i j : Nat) (r r' : Row), rows[i]? = some r → rows[j]? = some r' → r.1 = r'.1 → i = j
def seen (rows : List Row) (k : ByteArray) (i : Nat) : Int := match rows.findIdx? (fun (r : Row) => decide (r.1 = k)) with
  | some j => if j < i then (j : Int) else -1
  | none => -1
theorem seen_zero (rows : List Row) (k : ByteArray) : seen rows k 0 = -1 := by
  unfold seen
  split
  · rw [if_neg (by omega)]
  · rfl
theorem seen_all (rows : List Row) (k : ByteArray) : seen rows k rows.length = idxOf (fun (r : Row) => decide (r.1 = k)) rows := by
  unfold seen idxOf
  cases h : rows.findIdx? (fun (r : Row) => decide (r.1 = k)) with
  | none => rfl
  | some j => simp only; rw [if_pos (List.findIdx?_eq_some_iff_getElem.1 h).1]
theorem seen_yes {rows : List Row} (hA : Apart rows) {i : Nat} {r : Row} (hr : rows[i]? = some r) : seen rows r.1 (i + 1) = (i : Int) := by
  have hi := (List.getElem?_eq_some_iff.1 hr)
  obtain ⟨hlt, he⟩ := hi
  unfold seen
  cases h : rows.findIdx? (fun (r' : Row) => decide (r'.1 = r.1)) with
  | none =>
    have := List.findIdx?_eq_none_iff.1 h r (List.mem_of_getElem? hr)
    simp at this
  | some j =>
    obtain ⟨h1, h2, _⟩ := List.findIdx?_eq_some_iff_getElem.1 h
    simp only [decide_eq_true_eq] at h2
    have := hA j i _ r (List.getElem?_eq_getElem h1) hr h2
    subst this
    simp only
    rw [if_pos (by omega)]
theorem seen_no {rows : List Row} {k : ByteArray} {i : Nat} {r : Row} (hr : rows[i]? = some r) (hk : r.1 ≠ k) : seen rows k (i + 1) = seen rows k i := by
  unfold seen
  cases h : rows.findIdx? (fun (r' : Row) => decide (r'.1 = k)) with
  | none => rfl
  | some j =>
    obtain ⟨h1, h2, _⟩ := List.findIdx?_eq_some_iff_getElem.1 h
    simp only [decide_eq_true_eq] at h2
    have : j ≠ i := fun e => by
      subst e
      rw [List.getElem?_eq_getElem h1] at hr
      cases hr; exact hk h2
    simp only
    by_cases hj : j < i
    · rw [if_pos hj, if_pos (by omega)]
    · rw [if_neg hj, if_neg (by omega)]
theorem loop57 {rows : List Row} (hA : Apart rows) (hl : rows.length < 9223372036854775807) (F : Int) (rv : AV) (c : Fld) (H : Heap) (hr : RowsAt H rv rows) (st : St)
    (hE : keepEnv st.1 [2, 3, 5, 6] = [(2, .ptr H.length 0 2 0 0), (3, .ptr (H.length + 1) 0 4 0 0), (5, .int .i64 (-1)), (6, .int .i64 0)])
    (hH : st.2 = H ++ [⟨0, true, 24, 2, [[.int .i64 F, rv]]⟩, ⟨0, true, 37, 4, [rFld c]⟩]) (z : Option (CX × St)) (hz : itLim (evCode (evC cprog) itLim c57_l0) st = z) :
    ∃ T, z = some (.exit 0, T, H ++ [⟨0, true, 24, 2, [[.int .i64 F, rv]]⟩, ⟨0, true, 37, 4, [rFld c]⟩]) ∧ keepEnv T [2, 3, 5] = [(2, .ptr H.length 0 2 0 0), (3, .ptr (H.length + 1) 0 4 0 0), (5, .int .i64 (idxOf (fun (r : Row) => decide (r.1 = c.key)) rows))] := by
  have h3 := hr.len
  have L := loop_rule (σ := Nat) (m := [2, 3, 5, 6]) (env := fun i => [(2, .ptr H.length 0 2 0 0), (3, .ptr (H.length + 1) 0 4 0 0), (5, .int .i64 (seen rows c.key i)), (6, .int .i64 (i : Int))])
    (hp := fun _ => H ++ [⟨0, true, 24, 2, [[.int .i64 F, rv]]⟩, ⟨0, true, 37, 4, [rFld c]⟩])
    (P := fun _ r => ∃ T, r = (.exit 0, T, H ++ [⟨0, true, 24, 2, [[.int .i64 F, rv]]⟩, ⟨0, true, 37, 4, [rFld c]⟩]) ∧ keepEnv T [2, 3, 5] = [(2, .ptr H.length 0 2 0 0), (3, .ptr (H.length + 1) 0 4 0 0), (5, .int .i64 (idxOf (fun (r : Row) => decide (r.1 = c.key)) rows))])
    (mu := fun i => rows.length - i) (I := fun i => i ≤ rows.length) (evCode (evC cprog) itLim c57_l0) ?_ 0 st (Nat.zero_le _) (by rw [hE, seen_zero]; rfl) hH z hz
  · obtain ⟨r, rfl, T, rfl, hT⟩ := L
    exact ⟨T, rfl, hT⟩
  · intro i hi E hE
    by_cases hlt : i < rows.length
    · obtain ⟨r, hx⟩ : ∃ r, rows[i]? = some r := ⟨_, List.getElem?_eq_getElem hlt⟩
      obtain ⟨v, p, hv, hp, hat⟩ := hr.get hx
      have hi1 : (i : Int) < (rows.length : Int) := by omega
      simp only [c57_l0, hE, h3, hi1, hp, hat.faddr, hat.fldx, rFld, wrapS hlt hl, fn_eq, evR, Nat.reduceAdd, Nat.reduceLT, Nat.reduceLeDiff, reduceIte, Nat.reduceEqDiff, reduceCtorEq, argEnv, eq_self, if_true, if_false]
      repeat' (first | (rw [guardK_cases]; split <;> simp only [c57_l0, hE, h3, hi1, hp, hat.faddr, hat.fldx, rFld, wrapS hlt hl, evR, Nat.reduceAdd, Nat.reduceLT, Nat.reduceLeDiff, reduceIte, Nat.reduceEqDiff, reduceCtorEq, argEnv, eq_self, if_true, if_false, *]) | (rw [condK_bool]; split <;> simp only [c57_l0, hE, h3, hi1, hp, hat.faddr, hat.fldx, rFld, wrapS hlt hl, evR, Nat.reduceAdd, Nat.reduceLT, Nat.reduceLeDiff, reduceIte, Nat.reduceEqDiff, reduceCtorEq, argEnv, eq_self, if_true, if_false, *]))
      · rename_i hk
        have hk : r.1 = c.key := by simpa using hk
        exact q_next (i + 1) (by rw [← hk, seen_yes hA hx]; rfl) rfl (by omega) (by omega) (fun r h => h)
      · rename_i hk
        have hk : r.1 ≠ c.key := by simpa using hk
        exact q_next (i + 1) (by rw [seen_no hx hk]; rfl) rfl (by omega) (by omega) (fun r h => h)
    · have : i = rows.length := by omega
      subst this
      simp only [c57_l0, hE, h3, Int.lt_irrefl, rFld, fn_eq, evR, Nat.reduceAdd, Nat.reduceLT, Nat.reduceLeDiff, reduceIte, Nat.reduceEqDiff, reduceCtorEq, argEnv, eq_self, if_true, if_false]
      repeat' (first | (rw [guardK_cases]; split <;> simp only [c57_l0, hE, h3, Int.lt_irrefl, rFld, evR, Nat.reduceAdd, Nat.reduceLT, Nat.reduceLeDiff, reduceIte, Nat.reduceEqDiff, reduceCtorEq, argEnv, eq_self, if_true, if_false, *]) | (rw [condK_bool]; split <;> simp only [c57_l0, hE, h3, Int.lt_irrefl, rFld, evR, Nat.reduceAdd, Nat.reduceLT, Nat.reduceLeDiff, reduceIte, Nat.reduceEqDiff, reduceCtorEq, argEnv, eq_self, if_true, if_false, *]))
      exact q_exit ⟨_, rfl, by rw [← seen_all]; rfl⟩
end Go.Proofs.Ytehcdcnghcbimaa.Code
