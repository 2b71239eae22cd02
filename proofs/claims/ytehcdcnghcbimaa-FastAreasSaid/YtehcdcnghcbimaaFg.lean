/- fast: calls one after the other. -/
import Derived.Test.YtehcdcnghcbimaaFf
set_option linter.unusedSimpArgs false
set_option linter.unusedVariables false
namespace Go.Proofs.Ytehcdcnghcbimaa.Code
open Go.Proofs.Ytehcdcnghcbimaa.Ev

/-- a row has F values, and these are amounts -/
def GoodRows (F : Int) (rows : List Row) : Prop := ∀ r ∈ rows, (r.2.length : Int) = F ∧ ∀ n ∈ r.2, isAmount n = true
theorem GoodRows.doOne {F : Int} {rows : List Row} (h : GoodRows F rows) (c : Fld) : GoodRows F (doOne F rows c).2 := by
  unfold Code.doOne
  split
  · exact h
  · split
    · exact h
    · split
      · exact h
      · split
        · exact h
        · rename_i hA
          simp only [putAt]
          split
          · rename_i r hr
            intro r' hr'
            rcases List.mem_or_eq_of_mem_set hr' with h1 | rfl
            · exact h r' h1
            · obtain ⟨k1, k2⟩ := h r (List.mem_of_getElem? hr)
              refine ⟨by simpa using k1, fun n hn => ?_⟩
              rcases List.mem_or_eq_of_mem_set hn with h1 | rfl
              · exact k2 n h1
              · simpa using hA
          · exact h
theorem length_doOne (F : Int) (rows : List Row) (c : Fld) : (doOne F rows c).2.length = rows.length := by
  unfold doOne
  split
  · rfl
  · split
    · rfl
    · split
      · rfl
      · split
        · rfl
        · simp only [putAt]
          split
          · simp
          · rfl
def bad (F : Int) (rows : List Row) (c : Fld) : Bool := !decide ((doOne F rows c).1 = sOk)
def after (F : Int) (rows : List Row) (c : Fld) : List Row := (doOne F rows c).2
/-- a unit: the index of the first call that does not hold, or -1, and the rows then -/
def runUnit (F : Int) (rows : List Row) (l : List Fld) : Int × List Row := runIdx (bad F) (after F) rows l 0

structure RunInv (H0 : Heap) (N : Nat) (F : Int) (rv : AV) (m : Nat) (rows : List Row) (H : Heap) : Prop where
  own : Own H0 N rv rows H
  good : GoodRows F rows
  len : rows.length = m
theorem f70 {H0 : Heap} {N bt : Nat} {F : Int} {rv : AV} {m : Nat} (hm : m < 9223372036854775807) (hbt : H0[bt]? = some ⟨0, true, 24, 2, [[.int .i64 F, rv]]⟩) (rows : List Row) (H : Heap) (hI : RunInv H0 N F rv m rows H) (c : Fld) :
    ∃ H', cal (evC cprog) false 70 [.agg (rFld c), .ptr bt 0 2 0 0] H = some (.bool (bad F rows c), H') ∧ RunInv H0 N F rv m (after F rows c) H' := by
  have hb : ∀ X, (H ++ X)[bt]? = some ⟨0, true, 24, 2, [[.int .i64 F, rv]]⟩ := fun X => by
    have h1 := (List.getElem?_eq_some_iff.1 hbt).1
    rw [← hI.own.pre, List.getElem?_take_of_lt h1] at hbt
    rw [List.getElem?_append_left (List.getElem?_eq_some_iff.1 hbt).1]; exact hbt
  have hl : rows.length < 9223372036854775807 := by have := hI.len; omega
  obtain ⟨H1, h1, h2, _⟩ := f56 (hI.own.app [⟨0, true, 37, 4, [rFld c]⟩]) hl (fun r hr => (hI.good r hr).1) (fun r hr => (hI.good r hr).2) c
  rw [cal_of at70]
  simp only [rFld] at h1
  suffices h : ∃ H1, evFn (evC cprog) itLim c70 [.agg (rFld c), .ptr bt 0 2 0 0] H = some (.bool (bad F rows c), H1) ∧ RunInv H0 N F rv m (after F rows c) H1 by
    obtain ⟨H1, h3, h4⟩ := h
    rw [h3, calK_f]
    rcases gc_or H (.bool (bad F rows c)) H1 with h | ⟨h, ht⟩
    · exact ⟨H1, by rw [h], h4⟩
    · exact ⟨H, by rw [h], h4.own.trunc hI.own.le.2 ht, h4.good, h4.len⟩
  simp only [c70, rFld, hb, h1, fn_eq, evR, Nat.reduceAdd, Nat.reduceLT, Nat.reduceLeDiff, reduceIte, Nat.reduceEqDiff, reduceCtorEq, argEnv, eq_self, if_true, if_false]
  repeat' (first | (rw [guardK_cases]; split <;> simp only [c70, rFld, hb, h1, evR, Nat.reduceAdd, Nat.reduceLT, Nat.reduceLeDiff, reduceIte, Nat.reduceEqDiff, reduceCtorEq, argEnv, eq_self, if_true, if_false, *]) | (rw [condK_bool]; split <;> simp only [c70, rFld, hb, h1, evR, Nat.reduceAdd, Nat.reduceLT, Nat.reduceLeDiff, reduceIte, Nat.reduceEqDiff, reduceCtorEq, argEnv, eq_self, if_true, if_false, *]))
  exact ⟨H1, rfl, h2, hI.good.doOne c, by rw [after, length_doOne]; exact hI.len⟩
theorem f69 {H0 : Heap} {N bt : Nat} {F : Int} {rv : AV} (rows : List Row) (hm : rows.length < 9223372036854775807) (hbt : H0[bt]? = some ⟨0, true, 24, 2, [[.int .i64 F, rv]]⟩) (H : Heap) (hO : Own H0 N rv rows H) (hG : GoodRows F rows)
    (l : List Fld) (hl : l.length < 9223372036854775807) :
    ∃ H', cal (evC cprog) false 69 [eUnit l, .fn 70 [.ptr bt 0 2 0 0]] H = some (.int .i64 (runUnit F rows l).1, H') ∧ RunInv H0 N F rv rows.length (runUnit F rows l).2 H' :=
  indexFunc_st at69 rFld (fun c => .agg (rFld c)) lFld 70 [.ptr bt 0 2 0 0] (bad F) (after F) (RunInv H0 N F rv rows.length) (eUnit l) l (fun _ H _ => sUnit H l) hl
    (fun c _ rows H hI => f70 hm hbt rows H hI c) (fun s s' H H' h h' ht => ⟨h'.own.trunc h.own.le.2 ht, h'.good, h'.len⟩) rows H ⟨hO, hG, rfl⟩
end Go.Proofs.Ytehcdcnghcbimaa.Code
