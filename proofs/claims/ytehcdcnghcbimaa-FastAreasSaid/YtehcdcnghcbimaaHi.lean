/- Areas: the document's repair. -/
import Derived.Test.YtehcdcnghcbimaaHh
set_option linter.unusedSimpArgs false
set_option linter.unusedVariables false
namespace Go.Proofs.Ytehcdcnghcbimaa.Code
open Go.Proofs.Ytehcdcnghcbimaa.Ev

section
variable {tA tC tB : Nat} {H : Heap} {ba bc vc : Nat} {ws : Ws} {nb : Nat} {cs : List (List Bk)}
theorem l39_0 (h : Ar tA tC tB H ba bc vc ws nb cs) {i : Nat} {c : List Bk} (hc : cs[i]? = some c) (st : St)
    (hE : keepEnv st.1 [0, 1, 6, 7] = [(0, .ptr ba 0 1 0 0), (1, .int .i64 (i : Int)), (6, .int .i64 0), (7, .int .i64 0)]) (hH : st.2 = H) (z : Option (CX × St)) (hz : itLim (evCode (evC cprog) itLim c39_l0) st = z) :
    ((∃ n, n < nb ∧ Lost cs c n) ∧ ∃ T, z = some (.ret, T, H) ∧ get T 4 = some (.int .i64 0) ∧ get T 5 = some (.int .i64 213)) ∨
    ((¬ ∃ n, n < nb ∧ Lost cs c n) ∧ ∃ T, z = some (.exit 0, T, H) ∧ keepEnv T [0, 1, 6] = [(0, .ptr ba 0 1 0 0), (1, .int .i64 (i : Int)), (6, .int .i64 (cntB c nb : Int))]) := by
  have hs := h.some'
  have hi := (List.getElem?_eq_some_iff.1 hc).1
  have hbox := h.box
  have hrows := h.rows
  have hir := h.iaRow hi
  have L := loop_rule (σ := Nat) (m := [0, 1, 6, 7]) (env := fun k => [(0, .ptr ba 0 1 0 0), (1, .int .i64 (i : Int)), (6, .int .i64 (cntB c k : Int)), (7, .int .i64 (k : Int))])
    (hp := fun _ => H)
    (P := fun k r => ((∃ n, k ≤ n ∧ n < nb ∧ Lost cs c n) ∧ ∃ T, r = (.ret, T, H) ∧ get T 4 = some (.int .i64 0) ∧ get T 5 = some (.int .i64 213)) ∨
      ((¬ ∃ n, k ≤ n ∧ n < nb ∧ Lost cs c n) ∧ ∃ T, r = (.exit 0, T, H) ∧ keepEnv T [0, 1, 6] = [(0, .ptr ba 0 1 0 0), (1, .int .i64 (i : Int)), (6, .int .i64 (cntB c nb : Int))]))
    (mu := fun k => nb - k) (I := fun k => k ≤ nb) (evCode (evC cprog) itLim c39_l0) ?_ 0 st (Nat.zero_le _) hE hH z hz
  · obtain ⟨r, rfl, hP⟩ := L
    rcases hP with ⟨⟨n, _, h1, h2⟩, T, rfl, h3⟩ | ⟨h1, T, rfl, h3⟩
    · exact .inl ⟨⟨n, h1, h2⟩, T, rfl, h3⟩
    · exact .inr ⟨fun ⟨n, h4, h5⟩ => h1 ⟨n, Nat.zero_le _, h4, h5⟩, T, rfl, h3⟩
  · intro k hk E hE
    try simp only at hk
    try simp only at hE
    obtain ⟨w, hw, hrw, hbk, _, hcl⟩ := h.raw hc (n := 0) (by omega)
    by_cases hlt : k < nb
    · have hi1 : (k : Int) < (nb : Int) := by omega
      obtain ⟨_, _, _, _, hcell, _⟩ := h.raw hc hlt
      have hib := h.iaBlk w hlt
      have hwr := wrapS hlt (by omega : nb < 9223372036854775807)
      have more : ∀ {r : CX × St}, ¬ Lost cs c k → (((∃ n, k + 1 ≤ n ∧ n < nb ∧ Lost cs c n) ∧ ∃ T, r = (.ret, T, H) ∧ get T 4 = some (.int .i64 0) ∧ get T 5 = some (.int .i64 213)) ∨
      ((¬ ∃ n, k + 1 ≤ n ∧ n < nb ∧ Lost cs c n) ∧ ∃ T, r = (.exit 0, T, H) ∧ keepEnv T [0, 1, 6] = [(0, .ptr ba 0 1 0 0), (1, .int .i64 (i : Int)), (6, .int .i64 (cntB c nb : Int))])) →
        (((∃ n, k ≤ n ∧ n < nb ∧ Lost cs c n) ∧ ∃ T, r = (.ret, T, H) ∧ get T 4 = some (.int .i64 0) ∧ get T 5 = some (.int .i64 213)) ∨
      ((¬ ∃ n, k ≤ n ∧ n < nb ∧ Lost cs c n) ∧ ∃ T, r = (.exit 0, T, H) ∧ keepEnv T [0, 1, 6] = [(0, .ptr ba 0 1 0 0), (1, .int .i64 (i : Int)), (6, .int .i64 (cntB c nb : Int))])) := fun hnl hP => by
        rcases hP with ⟨⟨n, g0, g1, g2⟩, hP⟩ | ⟨g, hP⟩
        · exact .inl ⟨⟨n, by omega, g1, g2⟩, hP⟩
        · refine .inr ⟨fun ⟨n, g0, g1, g2⟩ => ?_, hP⟩
          by_cases hn : n = k
          · subst hn; exact hnl g2
          · exact g ⟨n, by omega, g1, g2⟩
      cases hb : (bkAt c k).2 with
      | false =>
        rw [hb] at hcell
        have hcnt := cntB_succ c k
        rw [if_neg (by simp [hb])] at hcnt
        simp only [c39_l0, hE, nck, hbox, hrows, hir, hrw, hi1, hib, hbk, hcell, hwr, evX, Int.reduceEq, Int.reduceLT, Int.reduceLE, Nat.reduceMul, Nat.reduceMod, evW, fn_eq, evR, Nat.reduceAdd, Nat.reduceLT, Nat.reduceLeDiff, reduceIte, Nat.reduceEqDiff, reduceCtorEq, argEnv, eq_self, if_true, if_false]
        repeat' (first | (rw [guardK_cases]; split <;> simp only [c39_l0, hE, nck, hbox, hrows, hir, hrw, hi1, hib, hbk, hcell, hwr, evX, Int.reduceEq, Int.reduceLT, Int.reduceLE, Nat.reduceMul, Nat.reduceMod, evW, evR, Nat.reduceAdd, Nat.reduceLT, Nat.reduceLeDiff, reduceIte, Nat.reduceEqDiff, reduceCtorEq, argEnv, eq_self, if_true, if_false, *]) | (rw [condK_bool]; split <;> simp only [c39_l0, hE, nck, hbox, hrows, hir, hrw, hi1, hib, hbk, hcell, hwr, evX, Int.reduceEq, Int.reduceLT, Int.reduceLE, Nat.reduceMul, Nat.reduceMod, evW, evR, Nat.reduceAdd, Nat.reduceLT, Nat.reduceLeDiff, reduceIte, Nat.reduceEqDiff, reduceCtorEq, argEnv, eq_self, if_true, if_false, *]) | (rw [guardD_cases]; split <;> simp only [c39_l0, hE, nck, hbox, hrows, hir, hrw, hi1, hib, hbk, hcell, hwr, evX, Int.reduceEq, Int.reduceLT, Int.reduceLE, Nat.reduceMul, Nat.reduceMod, evW, evR, Nat.reduceAdd, Nat.reduceLT, Nat.reduceLeDiff, reduceIte, Nat.reduceEqDiff, reduceCtorEq, argEnv, eq_self, if_true, if_false, *]))
        exact q_next (k + 1) (by rw [hcnt]; rfl) rfl (by omega) (by omega) fun r hP => more (fun hl => by have := hl.1; rw [hb] at this; cases this) hP
      | true =>
        rw [hb] at hcell
        have h33 := f33 h (k : Int)
        have hok : okBlk nb (k : Int) := ⟨by omega, by omega⟩
        have hcnt := cntB_succ c k
        rw [if_pos (by simp [hb])] at hcnt
        have hcw := wrapS (i := cntB c k) (n := 100) (by have := cntB_le c k; omega) (by omega)
        cases hf : cs.find? (well' k) with
        | none =>
          have hr : readA cs nb k = (⟨#[]⟩, 213) := by simp only [readA, if_pos hok, Int.toNat_natCast, hf]
          rw [hr] at h33
          simp only [c39_l0, hE, nck, hbox, hrows, hir, hrw, hi1, hib, hbk, hcell, h33, evX, Int.reduceEq, Int.reduceLT, Int.reduceLE, Nat.reduceMul, Nat.reduceMod, evW, fn_eq, evR, Nat.reduceAdd, Nat.reduceLT, Nat.reduceLeDiff, reduceIte, Nat.reduceEqDiff, reduceCtorEq, argEnv, eq_self, if_true, if_false]
          repeat' (first | (rw [guardK_cases]; split <;> simp only [c39_l0, hE, nck, hbox, hrows, hir, hrw, hi1, hib, hbk, hcell, h33, evX, Int.reduceEq, Int.reduceLT, Int.reduceLE, Nat.reduceMul, Nat.reduceMod, evW, evR, Nat.reduceAdd, Nat.reduceLT, Nat.reduceLeDiff, reduceIte, Nat.reduceEqDiff, reduceCtorEq, argEnv, eq_self, if_true, if_false, *]) | (rw [condK_bool]; split <;> simp only [c39_l0, hE, nck, hbox, hrows, hir, hrw, hi1, hib, hbk, hcell, h33, evX, Int.reduceEq, Int.reduceLT, Int.reduceLE, Nat.reduceMul, Nat.reduceMod, evW, evR, Nat.reduceAdd, Nat.reduceLT, Nat.reduceLeDiff, reduceIte, Nat.reduceEqDiff, reduceCtorEq, argEnv, eq_self, if_true, if_false, *]) | (rw [guardD_cases]; split <;> simp only [c39_l0, hE, nck, hbox, hrows, hir, hrw, hi1, hib, hbk, hcell, h33, evX, Int.reduceEq, Int.reduceLT, Int.reduceLE, Nat.reduceMul, Nat.reduceMod, evW, evR, Nat.reduceAdd, Nat.reduceLT, Nat.reduceLeDiff, reduceIte, Nat.reduceEqDiff, reduceCtorEq, argEnv, eq_self, if_true, if_false, *]))
          exact q_ret (.inl ⟨⟨k, Nat.le_refl _, hlt, hb, hf⟩, _, rfl, by rfl, by rfl⟩)
        | some d =>
          have hr : readA cs nb k = ((bkAt d k).1, 0) := by simp only [readA, if_pos hok, Int.toNat_natCast, hf]
          rw [hr] at h33
          simp only [c39_l0, hE, nck, hbox, hrows, hir, hrw, hi1, hib, hbk, hcell, h33, hcw, hwr, evX, Int.reduceEq, Int.reduceLT, Int.reduceLE, Nat.reduceMul, Nat.reduceMod, evW, fn_eq, evR, Nat.reduceAdd, Nat.reduceLT, Nat.reduceLeDiff, reduceIte, Nat.reduceEqDiff, reduceCtorEq, argEnv, eq_self, if_true, if_false]
          repeat' (first | (rw [guardK_cases]; split <;> simp only [c39_l0, hE, nck, hbox, hrows, hir, hrw, hi1, hib, hbk, hcell, h33, hcw, hwr, evX, Int.reduceEq, Int.reduceLT, Int.reduceLE, Nat.reduceMul, Nat.reduceMod, evW, evR, Nat.reduceAdd, Nat.reduceLT, Nat.reduceLeDiff, reduceIte, Nat.reduceEqDiff, reduceCtorEq, argEnv, eq_self, if_true, if_false, *]) | (rw [condK_bool]; split <;> simp only [c39_l0, hE, nck, hbox, hrows, hir, hrw, hi1, hib, hbk, hcell, h33, hcw, hwr, evX, Int.reduceEq, Int.reduceLT, Int.reduceLE, Nat.reduceMul, Nat.reduceMod, evW, evR, Nat.reduceAdd, Nat.reduceLT, Nat.reduceLeDiff, reduceIte, Nat.reduceEqDiff, reduceCtorEq, argEnv, eq_self, if_true, if_false, *]) | (rw [guardD_cases]; split <;> simp only [c39_l0, hE, nck, hbox, hrows, hir, hrw, hi1, hib, hbk, hcell, h33, hcw, hwr, evX, Int.reduceEq, Int.reduceLT, Int.reduceLE, Nat.reduceMul, Nat.reduceMod, evW, evR, Nat.reduceAdd, Nat.reduceLT, Nat.reduceLeDiff, reduceIte, Nat.reduceEqDiff, reduceCtorEq, argEnv, eq_self, if_true, if_false, *]))
          exact q_next (k + 1) (by rw [hcnt]; rfl) rfl (by omega) (by omega) fun r hP => more (fun hl => by have := hl.2; rw [hf] at this; cases this) hP
    · have : k = nb := by omega
      subst this
      simp only [c39_l0, hE, nck, hbox, hrows, hir, hrw, Int.lt_irrefl, evX, Int.reduceEq, Int.reduceLT, Int.reduceLE, Nat.reduceMul, Nat.reduceMod, evW, fn_eq, evR, Nat.reduceAdd, Nat.reduceLT, Nat.reduceLeDiff, reduceIte, Nat.reduceEqDiff, reduceCtorEq, argEnv, eq_self, if_true, if_false]
      repeat' (first | (rw [guardK_cases]; split <;> simp only [c39_l0, hE, nck, hbox, hrows, hir, hrw, Int.lt_irrefl, evX, Int.reduceEq, Int.reduceLT, Int.reduceLE, Nat.reduceMul, Nat.reduceMod, evW, evR, Nat.reduceAdd, Nat.reduceLT, Nat.reduceLeDiff, reduceIte, Nat.reduceEqDiff, reduceCtorEq, argEnv, eq_self, if_true, if_false, *]) | (rw [condK_bool]; split <;> simp only [c39_l0, hE, nck, hbox, hrows, hir, hrw, Int.lt_irrefl, evX, Int.reduceEq, Int.reduceLT, Int.reduceLE, Nat.reduceMul, Nat.reduceMod, evW, evR, Nat.reduceAdd, Nat.reduceLT, Nat.reduceLeDiff, reduceIte, Nat.reduceEqDiff, reduceCtorEq, argEnv, eq_self, if_true, if_false, *]) | (rw [guardD_cases]; split <;> simp only [c39_l0, hE, nck, hbox, hrows, hir, hrw, Int.lt_irrefl, evX, Int.reduceEq, Int.reduceLT, Int.reduceLE, Nat.reduceMul, Nat.reduceMod, evW, evR, Nat.reduceAdd, Nat.reduceLT, Nat.reduceLeDiff, reduceIte, Nat.reduceEqDiff, reduceCtorEq, argEnv, eq_self, if_true, if_false, *]))
      exact q_exit (.inr ⟨fun ⟨n, g0, g1, _⟩ => by omega, _, rfl, by rfl⟩)
theorem l39_1 (h : Ar tA tC tB H ba bc vc ws nb cs) {i : Nat} {c : List Bk} (hc : cs[i]? = some c) (hno : ¬ ∃ n, n < nb ∧ Lost cs c n) (P6 : AV) (st : St)
    (hE : keepEnv st.1 [0, 1, 6, 10] = [(0, .ptr ba 0 1 0 0), (1, .int .i64 (i : Int)), (6, P6), (10, .int .i64 0)]) (hH : st.2 = H) (z : Option (CX × St)) (hz : itLim (evCode (evC cprog) itLim c39_l1) st = z) :
    ∃ T H', z = some (.exit 2, T, H') ∧ get T 6 = some P6 ∧ Ar tA tC tB H' ba bc vc ws nb (cs.set i (fixTo cs c nb)) ∧ Frame (foot ba bc ws) H H' := by
  have hs := h.some'
  have hi := (List.getElem?_eq_some_iff.1 hc).1
  obtain ⟨_, _, _, _, _, hcl⟩ := h.raw hc (n := 0) (by omega)
  have L := loop_rule (σ := Nat × Heap) (m := [0, 1, 6, 10]) (env := fun k => [(0, .ptr ba 0 1 0 0), (1, .int .i64 (i : Int)), (6, P6), (10, .int .i64 (k.1 : Int))])
    (hp := fun k => k.2) (P := fun _ r => ∃ T H', r = (.exit 2, T, H') ∧ get T 6 = some P6 ∧ Ar tA tC tB H' ba bc vc ws nb (cs.set i (fixTo cs c nb)) ∧ Frame (foot ba bc ws) H H')
    (mu := fun k => nb - k.1) (I := fun k => k.1 ≤ nb ∧ Ar tA tC tB k.2 ba bc vc ws nb (cs.set i (fixTo cs c k.1)) ∧ Frame (foot ba bc ws) H k.2) (evCode (evC cprog) itLim c39_l1) ?_ (0, H) st ⟨Nat.zero_le _, by
      rw [fixTo_zero]
      have : cs.set i c = cs := by
        apply List.ext_getElem?
        intro j
        by_cases hj : j = i
        · subst hj; rw [List.getElem?_set_self hi, hc]
        · rw [List.getElem?_set_ne (fun e => hj e.symm)]
      rw [this]; exact h, .refl _ _⟩ hE hH z hz
  · obtain ⟨r, rfl, T, H', rfl, h1⟩ := L
    exact ⟨T, H', rfl, h1⟩
  · intro ⟨k, Hc⟩ ⟨hk, hI, hF⟩ E hE
    simp only at hk hI hF hE ⊢
    have hci : (cs.set i (fixTo cs c k))[i]? = some (fixTo cs c k) := List.getElem?_set_self hi
    obtain ⟨w, hw, hrw, hbk, _, _⟩ := hI.raw hci (n := 0) (by omega)
    have hbox := hI.box
    have hrows := hI.rows
    have hir := hI.iaRow (i := i) (by rw [List.length_set]; exact hi)
    rw [List.length_set] at hbox hir
    by_cases hlt : k < nb
    · have hi1 : (k : Int) < (nb : Int) := by omega
      obtain ⟨_, _, _, _, hcell, _⟩ := hI.raw hci hlt
      have hib := hI.iaBlk w hlt
      have hwr := wrapS hlt (by omega : nb < 9223372036854775807)
      rw [fixTo_at cs c (Nat.le_refl k)] at hcell
      cases hb : (bkAt c k).2 with
      | false =>
        rw [hb] at hcell
        have hsame := fixTo_same cs c hb
        simp only [c39_l1, hE, nck, hbox, hrows, hir, hrw, hi1, hib, hbk, hcell, hwr, evX, Int.reduceEq, Int.reduceLT, Int.reduceLE, Nat.reduceMul, Nat.reduceMod, evW, fn_eq, evR, Nat.reduceAdd, Nat.reduceLT, Nat.reduceLeDiff, reduceIte, Nat.reduceEqDiff, reduceCtorEq, argEnv, eq_self, if_true, if_false]
        repeat' (first | (rw [guardK_cases]; split <;> simp only [c39_l1, hE, nck, hbox, hrows, hir, hrw, hi1, hib, hbk, hcell, hwr, evX, Int.reduceEq, Int.reduceLT, Int.reduceLE, Nat.reduceMul, Nat.reduceMod, evW, evR, Nat.reduceAdd, Nat.reduceLT, Nat.reduceLeDiff, reduceIte, Nat.reduceEqDiff, reduceCtorEq, argEnv, eq_self, if_true, if_false, *]) | (rw [condK_bool]; split <;> simp only [c39_l1, hE, nck, hbox, hrows, hir, hrw, hi1, hib, hbk, hcell, hwr, evX, Int.reduceEq, Int.reduceLT, Int.reduceLE, Nat.reduceMul, Nat.reduceMod, evW, evR, Nat.reduceAdd, Nat.reduceLT, Nat.reduceLeDiff, reduceIte, Nat.reduceEqDiff, reduceCtorEq, argEnv, eq_self, if_true, if_false, *]) | (rw [guardD_cases]; split <;> simp only [c39_l1, hE, nck, hbox, hrows, hir, hrw, hi1, hib, hbk, hcell, hwr, evX, Int.reduceEq, Int.reduceLT, Int.reduceLE, Nat.reduceMul, Nat.reduceMod, evW, evR, Nat.reduceAdd, Nat.reduceLT, Nat.reduceLeDiff, reduceIte, Nat.reduceEqDiff, reduceCtorEq, argEnv, eq_self, if_true, if_false, *]))
        exact q_next (k + 1, Hc) (by rfl) rfl ⟨by omega, by rw [hsame]; exact hI, hF⟩ (by simp only; omega) fun r hP => hP
      | true =>
        rw [hb] at hcell
        have hok : okBlk nb (k : Int) := ⟨by omega, by omega⟩
        have hwc : well' k c = false := by simp [well', hb]
        have hwf : well' k (fixTo cs c k) = false := by unfold well'; rw [fixTo_at cs c (Nat.le_refl k)]; simp [hb]
        have h33 := f33 hI (k : Int)
        cases hf : cs.find? (well' k) with
        | none => exact absurd ⟨k, hlt, hb, hf⟩ hno
        | some d =>
          have hr : readA (cs.set i (fixTo cs c k)) nb k = ((bkAt d k).1, 0) := by
            simp only [readA, if_pos hok, Int.toNat_natCast, find_set (well' k) cs i c (fixTo cs c k) hc hwc hwf, hf]
          rw [hr] at h33
          have hfx : fixB cs c k = ((bkAt d k).1, false) := by unfold fixB; rw [if_pos hb, hf]
          have hset := rowsSet (fixTo cs c k) k ((bkAt d k).1, false)
          simp only at hset
          have hfs := fixTo_succ cs c (k := k) (by omega)
          rw [hfx] at hfs
          rw [hfs] at hset
          have hnew := hI.setBlk hw hci (c' := fixTo cs c (k + 1)) (by rw [fixTo_len]; exact hcl)
          rw [List.set_set] at hnew
          simp only [c39_l1, hE, nck, hbox, hrows, hir, hrw, hi1, hib, hbk, hcell, h33, hset, hwr, evX, Int.reduceEq, Int.reduceLT, Int.reduceLE, Nat.reduceMul, Nat.reduceMod, evW, fn_eq, evR, Nat.reduceAdd, Nat.reduceLT, Nat.reduceLeDiff, reduceIte, Nat.reduceEqDiff, reduceCtorEq, argEnv, eq_self, if_true, if_false]
          repeat' (first | (rw [guardK_cases]; split <;> simp only [c39_l1, hE, nck, hbox, hrows, hir, hrw, hi1, hib, hbk, hcell, h33, hset, hwr, evX, Int.reduceEq, Int.reduceLT, Int.reduceLE, Nat.reduceMul, Nat.reduceMod, evW, evR, Nat.reduceAdd, Nat.reduceLT, Nat.reduceLeDiff, reduceIte, Nat.reduceEqDiff, reduceCtorEq, argEnv, eq_self, if_true, if_false, *]) | (rw [condK_bool]; split <;> simp only [c39_l1, hE, nck, hbox, hrows, hir, hrw, hi1, hib, hbk, hcell, h33, hset, hwr, evX, Int.reduceEq, Int.reduceLT, Int.reduceLE, Nat.reduceMul, Nat.reduceMod, evW, evR, Nat.reduceAdd, Nat.reduceLT, Nat.reduceLeDiff, reduceIte, Nat.reduceEqDiff, reduceCtorEq, argEnv, eq_self, if_true, if_false, *]) | (rw [guardD_cases]; split <;> simp only [c39_l1, hE, nck, hbox, hrows, hir, hrw, hi1, hib, hbk, hcell, h33, hset, hwr, evX, Int.reduceEq, Int.reduceLT, Int.reduceLE, Nat.reduceMul, Nat.reduceMod, evW, evR, Nat.reduceAdd, Nat.reduceLT, Nat.reduceLeDiff, reduceIte, Nat.reduceEqDiff, reduceCtorEq, argEnv, eq_self, if_true, if_false, *]))
          exact q_next (k + 1, _) (by rfl) rfl ⟨by omega, hnew, hF.set (hI.mem hw) _⟩ (by simp only; omega) fun r hP => hP
    · have : k = nb := by omega
      subst this
      simp only [c39_l1, hE, nck, hbox, hrows, hir, hrw, Int.lt_irrefl, evX, Int.reduceEq, Int.reduceLT, Int.reduceLE, Nat.reduceMul, Nat.reduceMod, evW, fn_eq, evR, Nat.reduceAdd, Nat.reduceLT, Nat.reduceLeDiff, reduceIte, Nat.reduceEqDiff, reduceCtorEq, argEnv, eq_self, if_true, if_false]
      repeat' (first | (rw [guardK_cases]; split <;> simp only [c39_l1, hE, nck, hbox, hrows, hir, hrw, Int.lt_irrefl, evX, Int.reduceEq, Int.reduceLT, Int.reduceLE, Nat.reduceMul, Nat.reduceMod, evW, evR, Nat.reduceAdd, Nat.reduceLT, Nat.reduceLeDiff, reduceIte, Nat.reduceEqDiff, reduceCtorEq, argEnv, eq_self, if_true, if_false, *]) | (rw [condK_bool]; split <;> simp only [c39_l1, hE, nck, hbox, hrows, hir, hrw, Int.lt_irrefl, evX, Int.reduceEq, Int.reduceLT, Int.reduceLE, Nat.reduceMul, Nat.reduceMod, evW, evR, Nat.reduceAdd, Nat.reduceLT, Nat.reduceLeDiff, reduceIte, Nat.reduceEqDiff, reduceCtorEq, argEnv, eq_self, if_true, if_false, *]) | (rw [guardD_cases]; split <;> simp only [c39_l1, hE, nck, hbox, hrows, hir, hrw, Int.lt_irrefl, evX, Int.reduceEq, Int.reduceLT, Int.reduceLE, Nat.reduceMul, Nat.reduceMod, evW, evR, Nat.reduceAdd, Nat.reduceLT, Nat.reduceLeDiff, reduceIte, Nat.reduceEqDiff, reduceCtorEq, argEnv, eq_self, if_true, if_false, *]))
      exact q_exit ⟨_, Hc, rfl, by rfl, hI, hF⟩
theorem f39 (h : Ar tA tC tB H ba bc vc ws nb cs) (i : Int) : ∃ H', cal (evC cprog) false 39 [.ptr ba 0 1 0 0, .int .i64 i] H = some (.tup [.int .i64 (repairA cs nb i).1.1, .int .i64 (repairA cs nb i).1.2], H') ∧
    Ar tA tC tB H' ba bc vc ws nb (repairA cs nb i).2 ∧ Frame (foot ba bc ws) H H' := by
  have hs := h.some'
  have hbox := h.box
  rw [cal_of at39]
  by_cases hk : okBlk cs.length i
  · have g1 : ¬ i < 0 := by have := hk.1; omega
    have g2 : ¬ (cs.length : Int) ≤ i := by have := hk.2; omega
    obtain ⟨i, rfl⟩ : ∃ k : Nat, i = k := ⟨i.toNat, by have := hk.1; omega⟩
    have hi : i < cs.length := by have := hk.2; omega
    obtain ⟨c, hc⟩ : ∃ c, cs[i]? = some c := ⟨_, List.getElem?_eq_getElem hi⟩
    have hlp := l39_0 h hc
    by_cases hl : ∃ n, n < nb ∧ Lost cs c n
    · rw [repair_lost hc hl]
      refine ⟨H, ?_, h, .refl _ _⟩
      simp only [c39, g1, g2, nck, hbox, evX, Int.reduceEq, Int.reduceLT, Int.reduceLE, Nat.reduceMul, Nat.reduceMod, evW, fn_eq, evR, Nat.reduceAdd, Nat.reduceLT, Nat.reduceLeDiff, reduceIte, Nat.reduceEqDiff, reduceCtorEq, argEnv, eq_self, if_true, if_false]
      repeat' (first | (rw [guardK_cases]; split <;> simp only [c39, g1, g2, nck, hbox, evX, Int.reduceEq, Int.reduceLT, Int.reduceLE, Nat.reduceMul, Nat.reduceMod, evW, evR, Nat.reduceAdd, Nat.reduceLT, Nat.reduceLeDiff, reduceIte, Nat.reduceEqDiff, reduceCtorEq, argEnv, eq_self, if_true, if_false, *]) | (rw [condK_bool]; split <;> simp only [c39, g1, g2, nck, hbox, evX, Int.reduceEq, Int.reduceLT, Int.reduceLE, Nat.reduceMul, Nat.reduceMod, evW, evR, Nat.reduceAdd, Nat.reduceLT, Nat.reduceLeDiff, reduceIte, Nat.reduceEqDiff, reduceCtorEq, argEnv, eq_self, if_true, if_false, *]) | (rw [guardD_cases]; split <;> simp only [c39, g1, g2, nck, hbox, evX, Int.reduceEq, Int.reduceLT, Int.reduceLE, Nat.reduceMul, Nat.reduceMod, evW, evR, Nat.reduceAdd, Nat.reduceLT, Nat.reduceLeDiff, reduceIte, Nat.reduceEqDiff, reduceCtorEq, argEnv, eq_self, if_true, if_false, *]))
      generalize hz : itLim _ _ = z
      rcases hlp _ (by rfl) (by rfl) z hz with ⟨_, T, rfl, hT4, hT5⟩ | ⟨hno, _⟩
      · simp only [hT4, hT5, evX, Int.reduceEq, Int.reduceLT, Int.reduceLE, Nat.reduceMul, Nat.reduceMod, evW, fn_eq, evR, Nat.reduceAdd, Nat.reduceLT, Nat.reduceLeDiff, reduceIte, Nat.reduceEqDiff, reduceCtorEq, argEnv, eq_self, if_true, if_false]
        repeat' (first | (rw [guardK_cases]; split <;> simp only [hT4, hT5, evX, Int.reduceEq, Int.reduceLT, Int.reduceLE, Nat.reduceMul, Nat.reduceMod, evW, evR, Nat.reduceAdd, Nat.reduceLT, Nat.reduceLeDiff, reduceIte, Nat.reduceEqDiff, reduceCtorEq, argEnv, eq_self, if_true, if_false, *]) | (rw [condK_bool]; split <;> simp only [hT4, hT5, evX, Int.reduceEq, Int.reduceLT, Int.reduceLE, Nat.reduceMul, Nat.reduceMod, evW, evR, Nat.reduceAdd, Nat.reduceLT, Nat.reduceLeDiff, reduceIte, Nat.reduceEqDiff, reduceCtorEq, argEnv, eq_self, if_true, if_false, *]) | (rw [guardD_cases]; split <;> simp only [hT4, hT5, evX, Int.reduceEq, Int.reduceLT, Int.reduceLE, Nat.reduceMul, Nat.reduceMod, evW, evR, Nat.reduceAdd, Nat.reduceLT, Nat.reduceLeDiff, reduceIte, Nat.reduceEqDiff, reduceCtorEq, argEnv, eq_self, if_true, if_false, *]))
      · exact absurd hl hno
    · rw [repair_ok hc hl]
      suffices hh : ∃ H1, evFn (evC cprog) itLim c39 [.ptr ba 0 1 0 0, .int .i64 (i : Int)] H = some (.tup [.int .i64 (cntB c nb : Int), .int .i64 0], H1) ∧ Ar tA tC tB H1 ba bc vc ws nb (cs.set i (fixTo cs c nb)) ∧ Frame (foot ba bc ws) H H1 by
        obtain ⟨H1, k1, k2, k3⟩ := hh
        rw [k1, calK_f]
        rcases gc_or H (.tup [.int .i64 (cntB c nb : Int), .int .i64 0]) H1 with hg | ⟨hg, ht⟩
        · exact ⟨H1, by rw [hg], k2, k3⟩
        · exact ⟨H, by rw [hg], h.trunc k2 ht, .refl _ _⟩
      simp only [c39, g1, g2, nck, hbox, evX, Int.reduceEq, Int.reduceLT, Int.reduceLE, Nat.reduceMul, Nat.reduceMod, evW, fn_eq, evR, Nat.reduceAdd, Nat.reduceLT, Nat.reduceLeDiff, reduceIte, Nat.reduceEqDiff, reduceCtorEq, argEnv, eq_self, if_true, if_false]
      repeat' (first | (rw [guardK_cases]; split <;> simp only [c39, g1, g2, nck, hbox, evX, Int.reduceEq, Int.reduceLT, Int.reduceLE, Nat.reduceMul, Nat.reduceMod, evW, evR, Nat.reduceAdd, Nat.reduceLT, Nat.reduceLeDiff, reduceIte, Nat.reduceEqDiff, reduceCtorEq, argEnv, eq_self, if_true, if_false, *]) | (rw [condK_bool]; split <;> simp only [c39, g1, g2, nck, hbox, evX, Int.reduceEq, Int.reduceLT, Int.reduceLE, Nat.reduceMul, Nat.reduceMod, evW, evR, Nat.reduceAdd, Nat.reduceLT, Nat.reduceLeDiff, reduceIte, Nat.reduceEqDiff, reduceCtorEq, argEnv, eq_self, if_true, if_false, *]) | (rw [guardD_cases]; split <;> simp only [c39, g1, g2, nck, hbox, evX, Int.reduceEq, Int.reduceLT, Int.reduceLE, Nat.reduceMul, Nat.reduceMod, evW, evR, Nat.reduceAdd, Nat.reduceLT, Nat.reduceLeDiff, reduceIte, Nat.reduceEqDiff, reduceCtorEq, argEnv, eq_self, if_true, if_false, *]))
      generalize hz : itLim _ _ = z
      rcases hlp _ (by rfl) (by rfl) z hz with ⟨hno, _⟩ | ⟨_, T, rfl, hT⟩
      · exact absurd hno hl
      · simp only [hT, evX, Int.reduceEq, Int.reduceLT, Int.reduceLE, Nat.reduceMul, Nat.reduceMod, evW, fn_eq, evR, Nat.reduceAdd, Nat.reduceLT, Nat.reduceLeDiff, reduceIte, Nat.reduceEqDiff, reduceCtorEq, argEnv, eq_self, if_true, if_false]
        repeat' (first | (rw [guardK_cases]; split <;> simp only [hT, evX, Int.reduceEq, Int.reduceLT, Int.reduceLE, Nat.reduceMul, Nat.reduceMod, evW, evR, Nat.reduceAdd, Nat.reduceLT, Nat.reduceLeDiff, reduceIte, Nat.reduceEqDiff, reduceCtorEq, argEnv, eq_self, if_true, if_false, *]) | (rw [condK_bool]; split <;> simp only [hT, evX, Int.reduceEq, Int.reduceLT, Int.reduceLE, Nat.reduceMul, Nat.reduceMod, evW, evR, Nat.reduceAdd, Nat.reduceLT, Nat.reduceLeDiff, reduceIte, Nat.reduceEqDiff, reduceCtorEq, argEnv, eq_self, if_true, if_false, *]) | (rw [guardD_cases]; split <;> simp only [hT, evX, Int.reduceEq, Int.reduceLT, Int.reduceLE, Nat.reduceMul, Nat.reduceMod, evW, evR, Nat.reduceAdd, Nat.reduceLT, Nat.reduceLeDiff, reduceIte, Nat.reduceEqDiff, reduceCtorEq, argEnv, eq_self, if_true, if_false, *]))
        generalize hz' : itLim _ _ = z'
        obtain ⟨T', H', rfl, hT', k1, k2⟩ := l39_1 h hc hl _ _ (by rfl) (by rfl) z' hz'
        simp only [hT', evX, Int.reduceEq, Int.reduceLT, Int.reduceLE, Nat.reduceMul, Nat.reduceMod, evW, fn_eq, evR, Nat.reduceAdd, Nat.reduceLT, Nat.reduceLeDiff, reduceIte, Nat.reduceEqDiff, reduceCtorEq, argEnv, eq_self, if_true, if_false]
        repeat' (first | (rw [guardK_cases]; split <;> simp only [hT', evX, Int.reduceEq, Int.reduceLT, Int.reduceLE, Nat.reduceMul, Nat.reduceMod, evW, evR, Nat.reduceAdd, Nat.reduceLT, Nat.reduceLeDiff, reduceIte, Nat.reduceEqDiff, reduceCtorEq, argEnv, eq_self, if_true, if_false, *]) | (rw [condK_bool]; split <;> simp only [hT', evX, Int.reduceEq, Int.reduceLT, Int.reduceLE, Nat.reduceMul, Nat.reduceMod, evW, evR, Nat.reduceAdd, Nat.reduceLT, Nat.reduceLeDiff, reduceIte, Nat.reduceEqDiff, reduceCtorEq, argEnv, eq_self, if_true, if_false, *]) | (rw [guardD_cases]; split <;> simp only [hT', evX, Int.reduceEq, Int.reduceLT, Int.reduceLE, Nat.reduceMul, Nat.reduceMod, evW, evR, Nat.reduceAdd, Nat.reduceLT, Nat.reduceLeDiff, reduceIte, Nat.reduceEqDiff, reduceCtorEq, argEnv, eq_self, if_true, if_false, *]))
        exact ⟨H', rfl, k1, k2⟩
  · rw [repair_no hk]
    refine ⟨H, ?_, h, .refl _ _⟩
    by_cases g1 : i < 0
    · simp only [c39, g1, evX, Int.reduceEq, Int.reduceLT, Int.reduceLE, Nat.reduceMul, Nat.reduceMod, evW, fn_eq, evR, Nat.reduceAdd, Nat.reduceLT, Nat.reduceLeDiff, reduceIte, Nat.reduceEqDiff, reduceCtorEq, argEnv, eq_self, if_true, if_false]
      repeat' (first | (rw [guardK_cases]; split <;> simp only [c39, g1, evX, Int.reduceEq, Int.reduceLT, Int.reduceLE, Nat.reduceMul, Nat.reduceMod, evW, evR, Nat.reduceAdd, Nat.reduceLT, Nat.reduceLeDiff, reduceIte, Nat.reduceEqDiff, reduceCtorEq, argEnv, eq_self, if_true, if_false, *]) | (rw [condK_bool]; split <;> simp only [c39, g1, evX, Int.reduceEq, Int.reduceLT, Int.reduceLE, Nat.reduceMul, Nat.reduceMod, evW, evR, Nat.reduceAdd, Nat.reduceLT, Nat.reduceLeDiff, reduceIte, Nat.reduceEqDiff, reduceCtorEq, argEnv, eq_self, if_true, if_false, *]) | (rw [guardD_cases]; split <;> simp only [c39, g1, evX, Int.reduceEq, Int.reduceLT, Int.reduceLE, Nat.reduceMul, Nat.reduceMod, evW, evR, Nat.reduceAdd, Nat.reduceLT, Nat.reduceLeDiff, reduceIte, Nat.reduceEqDiff, reduceCtorEq, argEnv, eq_self, if_true, if_false, *]))
    · have g2 : (cs.length : Int) ≤ i := by unfold okBlk at hk; omega
      simp only [c39, g1, g2, nck, hbox, evX, Int.reduceEq, Int.reduceLT, Int.reduceLE, Nat.reduceMul, Nat.reduceMod, evW, fn_eq, evR, Nat.reduceAdd, Nat.reduceLT, Nat.reduceLeDiff, reduceIte, Nat.reduceEqDiff, reduceCtorEq, argEnv, eq_self, if_true, if_false]
      repeat' (first | (rw [guardK_cases]; split <;> simp only [c39, g1, g2, nck, hbox, evX, Int.reduceEq, Int.reduceLT, Int.reduceLE, Nat.reduceMul, Nat.reduceMod, evW, evR, Nat.reduceAdd, Nat.reduceLT, Nat.reduceLeDiff, reduceIte, Nat.reduceEqDiff, reduceCtorEq, argEnv, eq_self, if_true, if_false, *]) | (rw [condK_bool]; split <;> simp only [c39, g1, g2, nck, hbox, evX, Int.reduceEq, Int.reduceLT, Int.reduceLE, Nat.reduceMul, Nat.reduceMod, evW, evR, Nat.reduceAdd, Nat.reduceLT, Nat.reduceLeDiff, reduceIte, Nat.reduceEqDiff, reduceCtorEq, argEnv, eq_self, if_true, if_false, *]) | (rw [guardD_cases]; split <;> simp only [c39, g1, g2, nck, hbox, evX, Int.reduceEq, Int.reduceLT, Int.reduceLE, Nat.reduceMul, Nat.reduceMod, evW, evR, Nat.reduceAdd, Nat.reduceLT, Nat.reduceLeDiff, reduceIte, Nat.reduceEqDiff, reduceCtorEq, argEnv, eq_self, if_true, if_false, *]))
end
end Go.Proofs.Ytehcdcnghcbimaa.Code
