/- The document's unit: what it leaves. -/
import Derived.Test.YtehcdcnghcbimaaFn
set_option linter.unusedSimpArgs false
set_option linter.unusedVariables false
namespace Go.Proofs.Ytehcdcnghcbimaa.Code
open Go.Proofs.Ytehcdcnghcbimaa.Ev

theorem own_end {H G' : Heap} {B1 B2 : Blk} (B1' B2' : Blk) {N : Nat} {rv : AV} {rows : List Row} (h : Own (H ++ [B1, B2]) N rv rows (H ++ [B1, B2] ++ G')) : ∃ N', Own H N' rv rows (if noRef0 rv = true then H else H ++ (B1' :: B2' :: G')) := by
  rcases h.tab with ⟨rfl, rfl | rfl⟩ | ⟨b, v, vb, rfl, h2⟩
  · exact ⟨H.length, by simp [noRef0], by simp [noRef0], .inl ⟨rfl, .inl rfl⟩⟩
  · exact ⟨H.length, by simp [noRef0], by simp [noRef0], .inl ⟨rfl, .inr rfl⟩⟩
  · refine ⟨N, ?_⟩
    have h := (h.swap (H1' := H ++ [B1', B2']) (by simp)).weaken
    simpa [noRef0] using h
theorem f46 (F : Int) (rows : List Row) (hl : rows.length ≤ 1000000) (hv : ∀ r ∈ rows, r.2 ≠ [] ∧ r.2.length ≤ 1000000) (hG : GoodRows F rows) (hA : Apart rows) (l : List Fld) (hu : l.length < 9223372036854775807) (H : Heap) :
    ∃ rv N H', cal (evC cprog) false 46 [.agg [.int .i64 F, .lst (rows.map rRow)], eUnit l] H = some (.tup [.agg [.int .i64 F, rv], .int .i64 (runUnit F rows l).1], H') ∧ Own H N rv (runUnit F rows l).2 H' ∧ GoodRows F (runUnit F rows l).2 := by
  obtain ⟨rv, G, N, h59, hO⟩ := f59 F rows hl hv (H ++ [⟨0, true, 24, 2, [[.int .i64 F, .lst (rows.map rRow)]]⟩, ⟨0, true, 24, 2, [[.int .i64 0, .nils]]⟩])
  have hle := hO.le
  have hI : DoneInv (H ++ [⟨0, true, 24, 2, [[.int .i64 F, .lst (rows.map rRow)]]⟩, ⟨0, true, 24, 2, [[.int .i64 0, .nils]]⟩]) N (H.length + (G.length + 2)) F rv rows.length rows
      (H ++ [⟨0, true, 24, 2, [[.int .i64 F, .lst (rows.map rRow)]]⟩, ⟨0, true, 24, 2, [[.int .i64 0, .nils]]⟩] ++ G ++ [⟨0, true, 24, 2, [[.int .i64 F, rv]]⟩]) :=
    ⟨hO.app _, hG, rfl, hA, by simp only [evR, Nat.reduceAdd, Nat.reduceLT, Nat.reduceLeDiff, reduceIte, Nat.reduceEqDiff, reduceCtorEq, argEnv, eq_self, if_true, if_false]⟩
  have hlp := fun st z => f46_loop (b4 := H.length + 1) (by omega : rows.length < 9223372036854775807) (by simp at hle; omega) (by simp only [evR, Nat.reduceAdd, Nat.reduceLT, Nat.reduceLeDiff, reduceIte, Nat.reduceEqDiff, reduceCtorEq, argEnv, eq_self, if_true, if_false]) l hu rows _ hI st z
  rw [cal_of at46]
  simp only [List.append_assoc, List.cons_append, List.nil_append] at h59 hlp
  simp only [c46, h59, fn_eq, evR, Nat.reduceAdd, Nat.reduceLT, Nat.reduceLeDiff, reduceIte, Nat.reduceEqDiff, reduceCtorEq, argEnv, eq_self, if_true, if_false]
  repeat' (first | (rw [guardK_cases]; split <;> simp only [c46, h59, evR, Nat.reduceAdd, Nat.reduceLT, Nat.reduceLeDiff, reduceIte, Nat.reduceEqDiff, reduceCtorEq, argEnv, eq_self, if_true, if_false, *]) | (rw [condK_bool]; split <;> simp only [c46, h59, evR, Nat.reduceAdd, Nat.reduceLT, Nat.reduceLeDiff, reduceIte, Nat.reduceEqDiff, reduceCtorEq, argEnv, eq_self, if_true, if_false, *]))
  generalize hz : itLim _ _ = z
  obtain ⟨T, Hc, hD, hz'⟩ := hlp _ z (by rfl) (by simp only [evR, Nat.reduceAdd, Nat.reduceLT, Nat.reduceLeDiff, reduceIte, Nat.reduceEqDiff, reduceCtorEq, argEnv, eq_self, if_true, if_false]) hz
  obtain ⟨G', hG'⟩ := hD.own.split
  have hown := hD.own
  have hbox := hD.box
  rw [hG'] at hown hbox
  simp only [evR, Nat.reduceAdd, Nat.reduceLT, Nat.reduceLeDiff, reduceIte, Nat.reduceEqDiff, reduceCtorEq, argEnv, eq_self, if_true, if_false] at hbox
  rw [hG'] at hz'
  simp only [List.append_assoc, List.cons_append, List.nil_append] at hz'
  by_cases hq : (runUnit F rows l).1 = -1
  · rw [if_pos hq] at hz'
    obtain ⟨rfl, hT⟩ := hz'
    rw [hq]
    simp only [hT, hbox, fn_eq, evR, Nat.reduceAdd, Nat.reduceLT, Nat.reduceLeDiff, reduceIte, Nat.reduceEqDiff, reduceCtorEq, argEnv, eq_self, if_true, if_false]
    repeat' (first | (rw [guardK_cases]; split <;> simp only [hT, hbox, evR, Nat.reduceAdd, Nat.reduceLT, Nat.reduceLeDiff, reduceIte, Nat.reduceEqDiff, reduceCtorEq, argEnv, eq_self, if_true, if_false, *]) | (rw [condK_bool]; split <;> simp only [hT, hbox, evR, Nat.reduceAdd, Nat.reduceLT, Nat.reduceLeDiff, reduceIte, Nat.reduceEqDiff, reduceCtorEq, argEnv, eq_self, if_true, if_false, *]))
    obtain ⟨N', hN'⟩ := own_end ⟨0, true, 24, 2, [[.int .i64 F, .lst (rows.map rRow)]]⟩ ⟨0, true, 24, 2, [[.int .i64 F, rv]]⟩ hown
    exact ⟨rv, N', _, rfl, by simpa using hN', hD.good⟩
  · rw [if_neg hq] at hz'
    obtain ⟨rfl, hT4, hT5⟩ := hz'
    simp only [hT4, hT5, hbox, fn_eq, evR, Nat.reduceAdd, Nat.reduceLT, Nat.reduceLeDiff, reduceIte, Nat.reduceEqDiff, reduceCtorEq, argEnv, eq_self, if_true, if_false]
    repeat' (first | (rw [guardK_cases]; split <;> simp only [hT4, hT5, hbox, evR, Nat.reduceAdd, Nat.reduceLT, Nat.reduceLeDiff, reduceIte, Nat.reduceEqDiff, reduceCtorEq, argEnv, eq_self, if_true, if_false, *]) | (rw [condK_bool]; split <;> simp only [hT4, hT5, hbox, evR, Nat.reduceAdd, Nat.reduceLT, Nat.reduceLeDiff, reduceIte, Nat.reduceEqDiff, reduceCtorEq, argEnv, eq_self, if_true, if_false, *]))
    obtain ⟨N', hN'⟩ := own_end ⟨0, true, 24, 2, [[.int .i64 F, .lst (rows.map rRow)]]⟩ ⟨0, true, 24, 2, [[.int .i64 F, rv]]⟩ hown
    exact ⟨rv, N', _, rfl, by simpa using hN', hD.good⟩
end Go.Proofs.Ytehcdcnghcbimaa.Code
