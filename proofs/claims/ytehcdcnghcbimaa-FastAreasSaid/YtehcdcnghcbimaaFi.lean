/- fast: a unit on a copy. -/
import Derived.Test.YtehcdcnghcbimaaFh
set_option linter.unusedSimpArgs false
set_option linter.unusedVariables false
namespace Go.Proofs.Ytehcdcnghcbimaa.Code
open Go.Proofs.Ytehcdcnghcbimaa.Ev

theorem Own.split {H0 : Heap} {N : Nat} {rv : AV} {rows : List Row} {H : Heap} (h : Own H0 N rv rows H) : ∃ G, H = H0 ++ G := ⟨H.drop H0.length, by
  have h1 := List.take_append_drop H0.length H
  rw [h.pre] at h1
  exact h1.symm⟩
theorem Own.weaken {H K : Heap} {N : Nat} {rv : AV} {rows : List Row} {Hc : Heap} (h : Own (H ++ K) N rv rows Hc) : Own H N rv rows Hc := by
  obtain ⟨G, rfl⟩ := h.split
  have hle := h.le
  refine ⟨by simp, ⟨by simp at hle; omega, hle.2⟩, ?_⟩
  rcases h.tab with h1 | ⟨b, v, vb, h1, h2⟩
  · exact .inl h1
  · refine .inr ⟨b, v, vb, h1, h2.len, ⟨by have := h2.blk.1; simp at this; omega, h2.blk.2⟩, fun i r w hr hw => ?_, h2.inj⟩
    obtain ⟨k1, k2⟩ := h2.vals i r w hr hw
    exact ⟨by simp at k1; omega, k2⟩
theorem f44 (F : Int) (rows : List Row) (hl : rows.length ≤ 1000000) (hv : ∀ r ∈ rows, r.2 ≠ [] ∧ r.2.length ≤ 1000000) (hG : GoodRows F rows) (l : List Fld) (hu : l.length < 9223372036854775807) (H : Heap) :
    ∃ rv N H', cal (evC cprog) false 44 [.agg [.int .i64 F, .lst (rows.map rRow)], eUnit l] H = some (.tup [.agg [.int .i64 F, rv], .int .i64 (runUnit F rows l).1], H') ∧ Own H N rv (runUnit F rows l).2 H' ∧ GoodRows F (runUnit F rows l).2 := by
  obtain ⟨rv, G, N, h58, hO⟩ := f58' F rows hl hv (H ++ [⟨0, true, 24, 2, [[.int .i64 F, .lst (rows.map rRow)]]⟩, ⟨0, true, 24, 2, [[.int .i64 0, .nils]]⟩])
  have hO' := hO.swap (H1' := H ++ [⟨0, true, 24, 2, [[.int .i64 F, rv]]⟩, ⟨0, true, 24, 2, [[.int .i64 0, .nils]]⟩]) (by simp)
  obtain ⟨H', h69, hI⟩ := f69 (bt := H.length) rows (by omega) (by simp) _ hO' hG l hu
  obtain ⟨G', rfl⟩ := hI.own.split
  rw [cal_of at44]
  simp only [List.append_assoc, List.cons_append, List.nil_append] at h58 h69
  simp only [c44, h58, h69, AV.scal, evW, fn_eq, evR, Nat.reduceAdd, Nat.reduceLT, Nat.reduceLeDiff, reduceIte, Nat.reduceEqDiff, reduceCtorEq, argEnv, eq_self, if_true, if_false]
  repeat' (first | (rw [guardK_cases]; split <;> simp only [c44, h58, h69, AV.scal, evW, evR, Nat.reduceAdd, Nat.reduceLT, Nat.reduceLeDiff, reduceIte, Nat.reduceEqDiff, reduceCtorEq, argEnv, eq_self, if_true, if_false, *]) | (rw [condK_bool]; split <;> simp only [c44, h58, h69, AV.scal, evW, evR, Nat.reduceAdd, Nat.reduceLT, Nat.reduceLeDiff, reduceIte, Nat.reduceEqDiff, reduceCtorEq, argEnv, eq_self, if_true, if_false, *]) | (rw [guardD_cases]; split <;> simp only [c44, h58, h69, AV.scal, evW, evR, Nat.reduceAdd, Nat.reduceLT, Nat.reduceLeDiff, reduceIte, Nat.reduceEqDiff, reduceCtorEq, argEnv, eq_self, if_true, if_false, *]))
  rcases hI.own.tab with ⟨h1, rfl | rfl⟩ | ⟨b, v, vb, rfl, h2⟩
  · refine ⟨.nil0, H.length, _, rfl, ?_, hI.good⟩
    simp only [evR, Nat.reduceAdd, Nat.reduceLT, Nat.reduceLeDiff, reduceIte, Nat.reduceEqDiff, reduceCtorEq, argEnv, eq_self, if_true, if_false, h1]
    exact ⟨by simp, by simp, .inl ⟨rfl, .inl rfl⟩⟩
  · refine ⟨.nils, H.length, _, rfl, ?_, hI.good⟩
    simp only [evR, Nat.reduceAdd, Nat.reduceLT, Nat.reduceLeDiff, reduceIte, Nat.reduceEqDiff, reduceCtorEq, argEnv, eq_self, if_true, if_false, h1]
    exact ⟨by simp, by simp, .inl ⟨rfl, .inr rfl⟩⟩
  · refine ⟨_, N, _, rfl, ?_, hI.good⟩
    have h := hI.own.swap (H1' := H ++ [⟨0, true, 24, 2, [[.int .i64 F, .ref b v 2 0 (runUnit F rows l).2.length]]⟩, ⟨0, true, 24, 2, [[.int .i64 F, .ref b v 2 0 (runUnit F rows l).2.length]]⟩]) (by simp)
    simpa [noRef0] using h.weaken
end Go.Proofs.Ytehcdcnghcbimaa.Code
