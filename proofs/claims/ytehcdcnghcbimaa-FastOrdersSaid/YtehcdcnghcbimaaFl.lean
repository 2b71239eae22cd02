/- The document's answer to one call: what it does. -/
import Derived.Test.YtehcdcnghcbimaaFk
set_option linter.unusedSimpArgs false
set_option linter.unusedVariables false
namespace Go.Proofs.Ytehcdcnghcbimaa.Code
open Go.Proofs.Ytehcdcnghcbimaa.Ev

set_option maxHeartbeats 4000000 in
theorem f57 {H0 : Heap} {N : Nat} {rv : AV} {rows : List Row} {H : Heap} (hO : Own H0 N rv rows H) {F : Int} (hl : rows.length < 9223372036854775807) (hF : ∀ r ∈ rows, (r.2.length : Int) = F) (hA : ∀ r ∈ rows, ∀ n ∈ r.2, isAmount n = true) (hAp : Apart rows) (c : Fld) :
    ∃ H', cal (evC cprog) false 57 [.agg [.int .i64 F, rv], .agg (rFld c)] H = some (.str (doOne F rows c).1, H') ∧ Own H0 N rv (doOne F rows c).2 H' ∧ Keep N H H' := by
  have h3 := hO.rowsAt.len
  have hlp := fun z hz => loop57 hAp hl F rv c H hO.rowsAt ([(6, .int .i64 0), (2, .ptr H.length 0 2 0 0), (3, .ptr (H.length + 1) 0 4 0 0), (5, .int .i64 (-1))], H ++ [⟨0, true, 24, 2, [[.int .i64 F, rv]]⟩, ⟨0, true, 37, 4, [rFld c]⟩]) (by rfl) rfl z hz
  rw [cal_of at57]
  by_cases h1 : idxOf (fun (r : Row) => decide (r.1 = c.key)) rows < 0
  · simp only [rFld] at hlp
    simp only [c57, rFld, fn_eq, evR, Nat.reduceAdd, Nat.reduceLT, Nat.reduceLeDiff, reduceIte, Nat.reduceEqDiff, reduceCtorEq, argEnv, eq_self, if_true, if_false]
    repeat' (first | (rw [guardK_cases]; split <;> simp only [c57, rFld, evR, Nat.reduceAdd, Nat.reduceLT, Nat.reduceLeDiff, reduceIte, Nat.reduceEqDiff, reduceCtorEq, argEnv, eq_self, if_true, if_false, *]) | (rw [condK_bool]; split <;> simp only [c57, rFld, evR, Nat.reduceAdd, Nat.reduceLT, Nat.reduceLeDiff, reduceIte, Nat.reduceEqDiff, reduceCtorEq, argEnv, eq_self, if_true, if_false, *]))
    generalize hz : itLim _ _ = z
    obtain ⟨T, rfl, hT⟩ := hlp z hz
    simp only [hT, h1, fn_eq, evR, Nat.reduceAdd, Nat.reduceLT, Nat.reduceLeDiff, reduceIte, Nat.reduceEqDiff, reduceCtorEq, argEnv, eq_self, if_true, if_false]
    repeat' (first | (rw [guardK_cases]; split <;> simp only [hT, h1, evR, Nat.reduceAdd, Nat.reduceLT, Nat.reduceLeDiff, reduceIte, Nat.reduceEqDiff, reduceCtorEq, argEnv, eq_self, if_true, if_false, *]) | (rw [condK_bool]; split <;> simp only [hT, h1, evR, Nat.reduceAdd, Nat.reduceLT, Nat.reduceLeDiff, reduceIte, Nat.reduceEqDiff, reduceCtorEq, argEnv, eq_self, if_true, if_false, *]))
    exact ⟨H, by simp only [doOne, h1, if_true]; rfl, by simp only [doOne, h1, if_true]; exact hO, .refl _ _⟩
  by_cases h2 : c.field < 0 ∨ F ≤ c.field ∨ isCall c = false
  · have hd : doOne F rows c = (sFI, rows) := by simp only [doOne, h1, h2, if_true, if_false]
    rw [hd]
    refine ⟨H, ?_, hO, .refl _ _⟩
    simp only [rFld] at hlp
    simp only [c57, rFld, fn_eq, evR, Nat.reduceAdd, Nat.reduceLT, Nat.reduceLeDiff, reduceIte, Nat.reduceEqDiff, reduceCtorEq, argEnv, eq_self, if_true, if_false]
    repeat' (first | (rw [guardK_cases]; split <;> simp only [c57, rFld, evR, Nat.reduceAdd, Nat.reduceLT, Nat.reduceLeDiff, reduceIte, Nat.reduceEqDiff, reduceCtorEq, argEnv, eq_self, if_true, if_false, *]) | (rw [condK_bool]; split <;> simp only [c57, rFld, evR, Nat.reduceAdd, Nat.reduceLT, Nat.reduceLeDiff, reduceIte, Nat.reduceEqDiff, reduceCtorEq, argEnv, eq_self, if_true, if_false, *]))
    generalize hz : itLim _ _ = z
    obtain ⟨T, rfl, hT⟩ := hlp z hz
    simp only [hT, h1, f55, f51, fn_eq, evR, Nat.reduceAdd, Nat.reduceLT, Nat.reduceLeDiff, reduceIte, Nat.reduceEqDiff, reduceCtorEq, argEnv, eq_self, if_true, if_false]
    repeat' (first | (rw [guardK_cases]; split <;> simp only [hT, h1, f55, f51, evR, Nat.reduceAdd, Nat.reduceLT, Nat.reduceLeDiff, reduceIte, Nat.reduceEqDiff, reduceCtorEq, argEnv, eq_self, if_true, if_false, *]) | (rw [condK_bool]; split <;> simp only [hT, h1, f55, f51, evR, Nat.reduceAdd, Nat.reduceLT, Nat.reduceLeDiff, reduceIte, Nat.reduceEqDiff, reduceCtorEq, argEnv, eq_self, if_true, if_false, *]))
    all_goals first | rfl | (exfalso; simp_all [isCall]; done) | (exfalso; simp_all [isCall]; omega)
  obtain ⟨i, hi⟩ : ∃ i, rows.findIdx? (fun (r : Row) => decide (r.1 = c.key)) = some i := by
    cases h : rows.findIdx? (fun (r : Row) => decide (r.1 = c.key)) with
    | none => exact absurd (by unfold idxOf; rw [h]; decide) h1
    | some i => exact ⟨i, rfl⟩
  have hidx : idxOf (fun (r : Row) => decide (r.1 = c.key)) rows = (i : Int) := by unfold idxOf; rw [hi]
  have hil : i < rows.length := (List.findIdx?_eq_some_iff_getElem.1 hi).1
  obtain ⟨r, hr⟩ : ∃ r, rows[i]? = some r := ⟨_, List.getElem?_eq_getElem hil⟩
  have hrm := List.mem_of_getElem? hr
  have hcall : isCall c = true := by cases h : isCall c <;> simp_all
  obtain ⟨f, hf⟩ : ∃ f : Nat, c.field = f := ⟨c.field.toNat, by omega⟩
  have hfl : f < r.2.length := by have := hF r hrm; omega
  obtain ⟨n, hn⟩ : ∃ n, r.2[f]? = some n := ⟨_, List.getElem?_eq_getElem hfl⟩
  have hnA := hA r hrm n (List.mem_of_getElem? hn)
  have hcA : isAmount c.n = true := by simp only [isCall, Bool.and_eq_true] at hcall; exact hcall.2
  have hadd : IntKind.i64.wrap (n + c.n) = n + c.n := by simp [isAmount] at hnA hcA; exact wrap_i64 (by omega) (by omega)
  have hsub : IntKind.i64.wrap (n - c.n) = n - c.n := by simp [isAmount] at hnA hcA; exact wrap_i64 (by omega) (by omega)
  rcases hO.tab with ⟨rfl, _⟩ | ⟨b, v, vb, rfl, hL⟩
  · simp at hil
  obtain ⟨w, hw⟩ : ∃ w, vb[i]? = some w := ⟨_, List.getElem?_eq_getElem (by have := hL.len; omega)⟩
  obtain ⟨_, _, kb, hkb, hrow⟩ := hL.blk
  obtain ⟨_, _, _, kw, hkw, hval⟩ := hL.vals i r w hr hw
  have hkbx : ∀ X, blkK (H ++ X)[b]? v 2 = some kb := fun X => curBlk_app hkb
  have hkwx : ∀ X, blkK (H ++ X)[w.1]? w.2 1 = some kw := fun X => curBlk_app hkw
  simp only [rFld, hidx, hf] at hlp
  rw [hidx] at h1
  rw [hf] at h2
  have hre := hrow i r w hr hw
  have hne := hval f n hn
  have hd : doOne F rows c = if holds c n = false then (sFV, rows) else if isAmount (next c n) = false then (sFO, rows) else (sOk, rows.set i (r.1, r.2.set f (next c n))) := by
    have e1 : valAt rows i f = n := by simp [valAt, hr, hn]
    simp only [doOne, h1, h2, if_false, hidx, Int.toNat_natCast, hf, e1, putAt, hr]
  have hset := fun m X => (hL.move (H' := H ++ X) fun g _ hg => List.getElem?_append_left (by have := hO.le; omega)).set hr hw hfl m (curBlk_app (G := X) hkw) (by have := hO.le; simp; omega)
  have hOwn : ∀ m X, Own H0 N (.ref b v 2 0 rows.length) (rows.set i (r.1, r.2.set f m)) ((H ++ X).set w.1 { kw with els := kw.els.set f [.int .i64 m] }) := fun m X => by
    have hp := (hO.app X).pre
    have hle := (hO.app X).le
    obtain ⟨k1, k2, _⟩ := hL.vals i r w hr hw
    refine ⟨?_, by rw [List.length_set]; exact hle, .inr ⟨b, v, vb, by rw [List.length_set], hset m X⟩⟩
    rw [List.take_set_of_le (by omega)]
    exact hp
  suffices h : ∃ H1, evFn (evC cprog) itLim c57 [.agg [.int .i64 F, .ref b v 2 0 rows.length], .agg (rFld c)] H = some (.str (doOne F rows c).1, H1) ∧ Own H0 N (.ref b v 2 0 rows.length) (doOne F rows c).2 H1 ∧ Keep N H H1 by
    obtain ⟨H1, h3, h4, h5⟩ := h
    rw [h3, calK_f]
    rcases gc_or H (.str (doOne F rows c).1) H1 with h | ⟨h, ht⟩
    · exact ⟨H1, by rw [h], h4, h5⟩
    · exact ⟨H, by rw [h], h4.trunc hO.le.2 ht, .refl _ _⟩
  rw [hd]
  have hst : ∀ (m : Int) (X : Heap), holds c n = true → next c n = m → isAmount m = true →
      ∃ H1, some (AV.str sOk, (H ++ X).set w.1 { kw with els := kw.els.set f [.int .i64 m] }) = some (AV.str (if holds c n = false then (sFV, rows) else if isAmount (next c n) = false then (sFO, rows) else (sOk, rows.set i (r.1, r.2.set f (next c n)))).1, H1) ∧
        Own H0 N (.ref b v 2 0 rows.length) (if holds c n = false then (sFV, rows) else if isAmount (next c n) = false then (sFO, rows) else (sOk, rows.set i (r.1, r.2.set f (next c n)))).2 H1 ∧ Keep N H H1 := fun m X g1 g2 g3 => by
    subst g2
    simp only [g1, g3, Bool.true_eq_false, if_false]
    exact ⟨_, rfl, hOwn _ X, (Keep.app N H X).set (hL.vals i r w hr hw).2.1 _⟩
  have hio := isCall_op hcall
  have hf0 : ¬ (f : Int) < 0 := by omega
  have hfF : ¬ F ≤ (f : Int) := fun h => h2 (.inr (.inl h))
  have hop : isOp c.op = true := by simp only [isCall, Bool.and_eq_true] at hcall; exact hcall.1
  simp only [c57, rFld, hf, fn_eq, evR, Nat.reduceAdd, Nat.reduceLT, Nat.reduceLeDiff, reduceIte, Nat.reduceEqDiff, reduceCtorEq, argEnv, eq_self, if_true, if_false]
  repeat' (first | (rw [guardK_cases]; split <;> simp only [c57, rFld, hf, evR, Nat.reduceAdd, Nat.reduceLT, Nat.reduceLeDiff, reduceIte, Nat.reduceEqDiff, reduceCtorEq, argEnv, eq_self, if_true, if_false, *]) | (rw [condK_bool]; split <;> simp only [c57, rFld, hf, evR, Nat.reduceAdd, Nat.reduceLT, Nat.reduceLeDiff, reduceIte, Nat.reduceEqDiff, reduceCtorEq, argEnv, eq_self, if_true, if_false, *]))
  generalize hz : itLim _ _ = z
  obtain ⟨T, rfl, hT⟩ := hlp z hz
  simp only [hT, f55, hop, hcA, hidx, hf, h1, hf0, hfF, hcall, hil, hkbx, hkwx, hre, hne, hfl, f50, f51, hadd, hsub, Int.toNat_natCast, fn_eq, evR, Nat.reduceAdd, Nat.reduceLT, Nat.reduceLeDiff, reduceIte, Nat.reduceEqDiff, reduceCtorEq, argEnv, eq_self, if_true, if_false]
  repeat' (first | (rw [guardK_cases]; split <;> simp only [hT, f55, hop, hcA, hidx, hf, h1, hf0, hfF, hcall, hil, hkbx, hkwx, hre, hne, hfl, f50, f51, hadd, hsub, Int.toNat_natCast, evR, Nat.reduceAdd, Nat.reduceLT, Nat.reduceLeDiff, reduceIte, Nat.reduceEqDiff, reduceCtorEq, argEnv, eq_self, if_true, if_false, *]) | (rw [condK_bool]; split <;> simp only [hT, f55, hop, hcA, hidx, hf, h1, hf0, hfF, hcall, hil, hkbx, hkwx, hre, hne, hfl, f50, f51, hadd, hsub, Int.toNat_natCast, evR, Nat.reduceAdd, Nat.reduceLT, Nat.reduceLeDiff, reduceIte, Nat.reduceEqDiff, reduceCtorEq, argEnv, eq_self, if_true, if_false, *]))
  all_goals first
    | (have hh : holds c n = false := by (simp_all [holds, sVe, sVl, sVg]; done)
       simp only [hh, if_true]; exact ⟨_, rfl, hO.app _, .app _ _ _⟩)
    | (have hh : holds c n = true := by (simp_all [holds, sVe, sVl, sVg]; done)
       have hm : isAmount (next c n) = false := by (simp_all [next, sVe, sVl, sVg, sPl, sMi, sEq]; done)
       simp only [hh, hm, if_true, if_false, Bool.true_eq_false]; exact ⟨_, rfl, hO.app _, .app _ _ _⟩)
    | exact hst _ _ (by simp_all [holds, sVe, sVl, sVg]; done) (by simp_all [next, sVe, sVl, sVg, sPl, sMi, sEq]; done) (by simp_all; done)
    | (exfalso; clear hst hOwn hset hlp; simp_all [sVe, sVl, sVg, sPl, sMi, sEq]; done)
end Go.Proofs.Ytehcdcnghcbimaa.Code
