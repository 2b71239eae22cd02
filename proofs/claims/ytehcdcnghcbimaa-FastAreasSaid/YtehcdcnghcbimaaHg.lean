/- Areas: the program's repair. -/
import Derived.Test.YtehcdcnghcbimaaHf
import Derived.Test.YtehcdcnghcbimaaFi
set_option linter.unusedSimpArgs false
set_option linter.unusedVariables false
namespace Go.Proofs.Ytehcdcnghcbimaa.Code
open Go.Proofs.Ytehcdcnghcbimaa.Ev

theorem at64' : cprog 64 = some (cClone 96 2 24) := rfl
section
variable {tA tC : Nat} {H : Heap} {ba bc vc : Nat} {ws : Ws} {nb : Nat} {cs : List (List Bk)}
theorem l38 (h : Ar tA tC 96 H ba bc vc ws nb cs) {i : Nat} {c : List Bk} (hc : cs[i]? = some c) (hcl : c.length = nb) (st : St)
    (hE : keepEnv st.1 [0, 1, 6, 7, 34, 35, 36] = [(0, .ptr ba 0 1 0 0), (1, .int .i64 (i : Int)), (6, .ref H.length 0 2 0 nb), (7, .int .i64 0), (34, .ref H.length 0 2 0 nb), (35, .int .i64 (nb : Int)), (36, .int .i64 0)])
    (hH : st.2 = H ++ [⟨0, true, 96, 2, c.map rBk⟩]) (z : Option (CX × St)) (hz : itLim (evCode (evC cprog) itLim c38_l0) st = z) :
    ((∃ n, n < nb ∧ Lost cs c n) ∧ ∃ T Y, z = some (.ret, T, H ++ Y) ∧ get T 4 = some (.int .i64 0) ∧ get T 5 = some (.int .i64 213)) ∨
    ((¬ ∃ n, n < nb ∧ Lost cs c n) ∧ ∃ T X, z = some (.exit 1, T, H ++ (⟨0, true, 96, 2, (fixTo cs c nb).map rBk⟩ :: X)) ∧ keepEnv T [0, 1, 6, 7] = [(0, .ptr ba 0 1 0 0), (1, .int .i64 (i : Int)), (6, .ref H.length 0 2 0 nb), (7, .int .i64 (cntB c nb : Int))]) := by
  have hs := h.some'
  have L := loop_rule (σ := Nat × Heap) (m := [0, 1, 6, 7, 34, 35, 36]) (env := fun k => [(0, .ptr ba 0 1 0 0), (1, .int .i64 (i : Int)), (6, .ref H.length 0 2 0 nb), (7, .int .i64 (cntB c k.1 : Int)), (34, .ref H.length 0 2 0 nb), (35, .int .i64 (nb : Int)), (36, .int .i64 (k.1 : Int))])
    (hp := fun k => H ++ (⟨0, true, 96, 2, (fixTo cs c k.1).map rBk⟩ :: k.2))
    (P := fun k r => ((∃ n, k.1 ≤ n ∧ n < nb ∧ Lost cs c n) ∧ ∃ T Y, r = (.ret, T, H ++ Y) ∧ get T 4 = some (.int .i64 0) ∧ get T 5 = some (.int .i64 213)) ∨
      ((¬ ∃ n, k.1 ≤ n ∧ n < nb ∧ Lost cs c n) ∧ ∃ T X, r = (.exit 1, T, H ++ (⟨0, true, 96, 2, (fixTo cs c nb).map rBk⟩ :: X)) ∧ keepEnv T [0, 1, 6, 7] = [(0, .ptr ba 0 1 0 0), (1, .int .i64 (i : Int)), (6, .ref H.length 0 2 0 nb), (7, .int .i64 (cntB c nb : Int))]))
    (mu := fun k => nb - k.1) (I := fun k => k.1 ≤ nb) (evCode (evC cprog) itLim c38_l0) ?_ (0, []) st (Nat.zero_le _) hE (by rw [hH, fixTo_zero]) z hz
  · obtain ⟨r, rfl, hP⟩ := L
    rcases hP with ⟨⟨n, _, h1, h2⟩, T, Y, rfl, h3⟩ | ⟨h1, T, X, rfl, h3⟩
    · exact .inl ⟨⟨n, h1, h2⟩, T, Y, rfl, h3⟩
    · exact .inr ⟨fun ⟨n, h4, h5⟩ => h1 ⟨n, Nat.zero_le _, h4, h5⟩, T, X, rfl, h3⟩
  · intro ⟨k, X⟩ hk E hE
    simp only at hk hE ⊢
    by_cases hlt : k < nb
    · have hi1 : (k : Int) < (nb : Int) := by omega
      have hib : iaddrK 2 (some (.ref H.length 0 2 0 nb)) (some (.int .i64 (k : Int))) = some (.ptr H.length 0 2 k 0) := by
        rw [iaddr_ref, asNat_cast, refK_some, if_pos ⟨hlt, rfl⟩, Nat.zero_add]
      have hcell : ((fixTo cs c k).map rBk)[k]? = some [.str (bkAt c k).1, .bool (bkAt c k).2] := by
        rw [List.getElem?_map, fixTo_get cs c k k (by omega), if_neg (by omega)]; rfl
      have hwr := wrapS hlt (by omega : nb < 9223372036854775807)
      have step : ∀ {q : Prop}, (∃ n, k ≤ n ∧ n < nb ∧ q) → True := fun _ => trivial
      cases hb : (bkAt c k).2 with
      | false =>
        rw [hb] at hcell
        have hsame := fixTo_same cs c hb
        have hcnt := cntB_succ c k
        rw [if_neg (by simp [hb])] at hcnt
        have hnl : ¬ Lost cs c k := fun hl => by have := hl.1; rw [hb] at this; cases this
        simp only [c38_l0, hE, hi1, hib, hcell, hwr, evX, Int.reduceEq, Int.reduceLT, Int.reduceLE, Nat.reduceMul, Nat.reduceMod, evW, fn_eq, evR, Nat.reduceAdd, Nat.reduceLT, Nat.reduceLeDiff, reduceIte, Nat.reduceEqDiff, reduceCtorEq, argEnv, eq_self, if_true, if_false]
        repeat' (first | (rw [guardK_cases]; split <;> simp only [c38_l0, hE, hi1, hib, hcell, hwr, evX, Int.reduceEq, Int.reduceLT, Int.reduceLE, Nat.reduceMul, Nat.reduceMod, evW, evR, Nat.reduceAdd, Nat.reduceLT, Nat.reduceLeDiff, reduceIte, Nat.reduceEqDiff, reduceCtorEq, argEnv, eq_self, if_true, if_false, *]) | (rw [condK_bool]; split <;> simp only [c38_l0, hE, hi1, hib, hcell, hwr, evX, Int.reduceEq, Int.reduceLT, Int.reduceLE, Nat.reduceMul, Nat.reduceMod, evW, evR, Nat.reduceAdd, Nat.reduceLT, Nat.reduceLeDiff, reduceIte, Nat.reduceEqDiff, reduceCtorEq, argEnv, eq_self, if_true, if_false, *]) | (rw [guardD_cases]; split <;> simp only [c38_l0, hE, hi1, hib, hcell, hwr, evX, Int.reduceEq, Int.reduceLT, Int.reduceLE, Nat.reduceMul, Nat.reduceMod, evW, evR, Nat.reduceAdd, Nat.reduceLT, Nat.reduceLeDiff, reduceIte, Nat.reduceEqDiff, reduceCtorEq, argEnv, eq_self, if_true, if_false, *]))
        refine q_next (k + 1, _) (by rw [hcnt]; rfl) (by rw [hsame]) (by omega) (by simp only; omega) fun r hP => ?_
        rcases hP with ⟨⟨n, g0, g1, g2⟩, hP⟩ | ⟨g, hP⟩
        · exact .inl ⟨⟨n, by simp only at g0 ⊢; omega, g1, g2⟩, hP⟩
        · refine .inr ⟨fun ⟨n, g0, g1, g2⟩ => ?_, hP⟩
          by_cases hn : n = k
          · subst hn; exact hnl g2
          · exact g ⟨n, by simp only at g0 ⊢; omega, g1, g2⟩
      | true =>
        rw [hb] at hcell
        have h61 := fun Y => f61 (h.app Y) k hlt
        have hcnt := cntB_succ c k
        rw [if_pos (by simp [hb])] at hcnt
        have hcw := wrapS (i := cntB c k) (n := 100) (by have := cntB_le c k; omega) (by omega)
        rcases find_ix (well' k) cs with ⟨hf, hi⟩ | ⟨j, d, hf, hi, hd, hw⟩
        · rw [hi] at h61
          have hm : ((-1 : Int) < 0) = True := by simp
          simp only [c38_l0, hE, hi1, hib, hcell, h61, hm, evX, Int.reduceEq, Int.reduceLT, Int.reduceLE, Nat.reduceMul, Nat.reduceMod, evW, fn_eq, evR, Nat.reduceAdd, Nat.reduceLT, Nat.reduceLeDiff, reduceIte, Nat.reduceEqDiff, reduceCtorEq, argEnv, eq_self, if_true, if_false]
          repeat' (first | (rw [guardK_cases]; split <;> simp only [c38_l0, hE, hi1, hib, hcell, h61, hm, evX, Int.reduceEq, Int.reduceLT, Int.reduceLE, Nat.reduceMul, Nat.reduceMod, evW, evR, Nat.reduceAdd, Nat.reduceLT, Nat.reduceLeDiff, reduceIte, Nat.reduceEqDiff, reduceCtorEq, argEnv, eq_self, if_true, if_false, *]) | (rw [condK_bool]; split <;> simp only [c38_l0, hE, hi1, hib, hcell, h61, hm, evX, Int.reduceEq, Int.reduceLT, Int.reduceLE, Nat.reduceMul, Nat.reduceMod, evW, evR, Nat.reduceAdd, Nat.reduceLT, Nat.reduceLeDiff, reduceIte, Nat.reduceEqDiff, reduceCtorEq, argEnv, eq_self, if_true, if_false, *]) | (rw [guardD_cases]; split <;> simp only [c38_l0, hE, hi1, hib, hcell, h61, hm, evX, Int.reduceEq, Int.reduceLT, Int.reduceLE, Nat.reduceMul, Nat.reduceMod, evW, evR, Nat.reduceAdd, Nat.reduceLT, Nat.reduceLeDiff, reduceIte, Nat.reduceEqDiff, reduceCtorEq, argEnv, eq_self, if_true, if_false, *]))
          exact q_ret (.inl ⟨⟨k, Nat.le_refl _, hlt, hb, hf⟩, _, _, rfl, by rfl, by rfl⟩)
        · rw [hi] at h61
          have hm : ¬ (j : Int) < 0 := by omega
          have hnl : ¬ Lost cs c k := fun hl => by have := hl.2; rw [hf] at this; cases this
          have hfx : fixB cs c k = ((bkAt d k).1, false) := by unfold fixB; rw [if_pos hb, hf]
          have hjl := (List.getElem?_eq_some_iff.1 hd).1
          have hir := h.iaRow hjl
          obtain ⟨w, hwj, hrw, hbk, hcd, hdl⟩ := h.raw hd hlt
          have hibw := h.iaBlk w hlt
          have hrows := fun Y => (h.app Y).rows
          have hbox := h.boxx
          have hbkx : ∀ Y, (H ++ Y)[w.1]? = some ⟨w.2, true, 96, 2, d.map rBk⟩ := fun Y => ((h.app Y).blk j w d hwj hd).1
          have hdb : (bkAt d k).2 = false := by simpa [well'] using hw
          rw [hdb] at hcd
          have hset := rowsSet (fixTo cs c k) k ((bkAt d k).1, false)
          simp only at hset
          have hfs := fixTo_succ cs c (k := k) (by omega)
          rw [hfx] at hfs
          rw [hfs] at hset
          simp only [c38_l0, hE, hi1, hib, hcell, h61, hm, nck, hbox, hir, hrows, hrw, hibw, hbkx, hcd, hset, hcw, hwr, evX, Int.reduceEq, Int.reduceLT, Int.reduceLE, Nat.reduceMul, Nat.reduceMod, evW, fn_eq, evR, Nat.reduceAdd, Nat.reduceLT, Nat.reduceLeDiff, reduceIte, Nat.reduceEqDiff, reduceCtorEq, argEnv, eq_self, if_true, if_false]
          repeat' (first | (rw [guardK_cases]; split <;> simp only [c38_l0, hE, hi1, hib, hcell, h61, hm, nck, hbox, hir, hrows, hrw, hibw, hbkx, hcd, hset, hcw, hwr, evX, Int.reduceEq, Int.reduceLT, Int.reduceLE, Nat.reduceMul, Nat.reduceMod, evW, evR, Nat.reduceAdd, Nat.reduceLT, Nat.reduceLeDiff, reduceIte, Nat.reduceEqDiff, reduceCtorEq, argEnv, eq_self, if_true, if_false, *]) | (rw [condK_bool]; split <;> simp only [c38_l0, hE, hi1, hib, hcell, h61, hm, nck, hbox, hir, hrows, hrw, hibw, hbkx, hcd, hset, hcw, hwr, evX, Int.reduceEq, Int.reduceLT, Int.reduceLE, Nat.reduceMul, Nat.reduceMod, evW, evR, Nat.reduceAdd, Nat.reduceLT, Nat.reduceLeDiff, reduceIte, Nat.reduceEqDiff, reduceCtorEq, argEnv, eq_self, if_true, if_false, *]) | (rw [guardD_cases]; split <;> simp only [c38_l0, hE, hi1, hib, hcell, h61, hm, nck, hbox, hir, hrows, hrw, hibw, hbkx, hcd, hset, hcw, hwr, evX, Int.reduceEq, Int.reduceLT, Int.reduceLE, Nat.reduceMul, Nat.reduceMod, evW, evR, Nat.reduceAdd, Nat.reduceLT, Nat.reduceLeDiff, reduceIte, Nat.reduceEqDiff, reduceCtorEq, argEnv, eq_self, if_true, if_false, *]))
          refine q_next (k + 1, _) (by rw [hcnt]; rfl) rfl (by omega) (by simp only; omega) fun r hP => ?_
          rcases hP with ⟨⟨n, g0, g1, g2⟩, hP⟩ | ⟨g, hP⟩
          · exact .inl ⟨⟨n, by simp only at g0 ⊢; omega, g1, g2⟩, hP⟩
          · refine .inr ⟨fun ⟨n, g0, g1, g2⟩ => ?_, hP⟩
            by_cases hn : n = k
            · subst hn; exact hnl g2
            · exact g ⟨n, by simp only at g0 ⊢; omega, g1, g2⟩
    · have : k = nb := by omega
      subst this
      simp only [c38_l0, hE, Int.lt_irrefl, evX, Int.reduceEq, Int.reduceLT, Int.reduceLE, Nat.reduceMul, Nat.reduceMod, evW, fn_eq, evR, Nat.reduceAdd, Nat.reduceLT, Nat.reduceLeDiff, reduceIte, Nat.reduceEqDiff, reduceCtorEq, argEnv, eq_self, if_true, if_false]
      repeat' (first | (rw [guardK_cases]; split <;> simp only [c38_l0, hE, Int.lt_irrefl, evX, Int.reduceEq, Int.reduceLT, Int.reduceLE, Nat.reduceMul, Nat.reduceMod, evW, evR, Nat.reduceAdd, Nat.reduceLT, Nat.reduceLeDiff, reduceIte, Nat.reduceEqDiff, reduceCtorEq, argEnv, eq_self, if_true, if_false, *]) | (rw [condK_bool]; split <;> simp only [c38_l0, hE, Int.lt_irrefl, evX, Int.reduceEq, Int.reduceLT, Int.reduceLE, Nat.reduceMul, Nat.reduceMod, evW, evR, Nat.reduceAdd, Nat.reduceLT, Nat.reduceLeDiff, reduceIte, Nat.reduceEqDiff, reduceCtorEq, argEnv, eq_self, if_true, if_false, *]) | (rw [guardD_cases]; split <;> simp only [c38_l0, hE, Int.lt_irrefl, evX, Int.reduceEq, Int.reduceLT, Int.reduceLE, Nat.reduceMul, Nat.reduceMod, evW, evR, Nat.reduceAdd, Nat.reduceLT, Nat.reduceLeDiff, reduceIte, Nat.reduceEqDiff, reduceCtorEq, argEnv, eq_self, if_true, if_false, *]))
      exact q_exit (.inr ⟨fun ⟨n, g0, g1, _⟩ => by omega, _, X, rfl, by rfl⟩)
end
end Go.Proofs.Ytehcdcnghcbimaa.Code
