/- Areas: the document's writes; blocks made bad. -/
import Derived.Test.YtehcdcnghcbimaaHd
set_option linter.unusedSimpArgs false
set_option linter.unusedVariables false
namespace Go.Proofs.Ytehcdcnghcbimaa.Code
open Go.Proofs.Ytehcdcnghcbimaa.Ev

section
variable {tA tC tB : Nat} {H : Heap} {ba bc vc : Nat} {ws : Ws} {nb : Nat} {cs : List (List Bk)}
theorem l35 (h : Ar tA tC tB H ba bc vc ws nb cs) (n : Nat) (hn : n < nb) (s : ByteArray) (st : St)
    (hE : keepEnv st.1 [0, 1, 2, 9] = [(0, .ptr ba 0 1 0 0), (1, .int .i64 (n : Int)), (2, .str s), (9, .int .i64 0)]) (hH : st.2 = H) (z : Option (CX × St)) (hz : itLim (evCode (evC cprog) itLim c35_l0) st = z) :
    ∃ T H', z = some (.exit 0, T, H') ∧ Ar tA tC tB H' ba bc vc ws nb (cs.map (upd n s)) ∧ Frame (foot ba bc ws) H H' := by
  have hs := h.some'
  have L := loop_rule (σ := Nat × Heap) (m := [0, 1, 2, 9]) (env := fun i => [(0, .ptr ba 0 1 0 0), (1, .int .i64 (n : Int)), (2, .str s), (9, .int .i64 (i.1 : Int))]) (hp := fun i => i.2)
    (P := fun i r => ∃ T H', r = (.exit 0, T, H') ∧ Ar tA tC tB H' ba bc vc ws nb (cs.map (upd n s)) ∧ Frame (foot ba bc ws) H H')
    (mu := fun i => cs.length - i.1) (I := fun i => i.1 ≤ cs.length ∧ Ar tA tC tB i.2 ba bc vc ws nb ((cs.take i.1).map (upd n s) ++ cs.drop i.1) ∧ Frame (foot ba bc ws) H i.2) (evCode (evC cprog) itLim c35_l0) ?_ (0, H) st ⟨Nat.zero_le _, by simpa using h, .refl _ _⟩ hE hH z hz
  · obtain ⟨r, rfl, T, H', rfl, h1, h2⟩ := L
    exact ⟨T, H', rfl, h1, h2⟩
  · intro ⟨i, Hc⟩ ⟨hi, hI, hF⟩ E hE
    simp only at hi hI hF hE ⊢
    have hll : ((cs.take i).map (upd n s) ++ cs.drop i).length = cs.length := by simp; omega
    have hbox := hI.box
    rw [hll] at hbox
    by_cases hlt : i < cs.length
    · have hi1 : (i : Int) < (cs.length : Int) := by omega
      obtain ⟨c, hc⟩ : ∃ c, cs[i]? = some c := ⟨_, List.getElem?_eq_getElem hlt⟩
      have hcm := mid_get (upd n s) cs hc
      obtain ⟨w, hw, hrw, hbk, hcell, hcl⟩ := hI.raw hcm hn
      have hir := hI.iaRow (i := i) (by rw [hll]; exact hlt)
      have hib := hI.iaBlk w hn
      have hrows := hI.rows
      rw [hll] at hir
      have hset := rowsSet c n (s, false)
      simp only at hset
      have hnew := hI.setBlk hw hcm (c' := upd n s c) (by rw [upd_len]; exact hcl)
      rw [map_upd (upd n s) cs hc] at hnew
      cases hb : (bkAt c n).2 with
      | true =>
        rw [hb] at hcell
        have hu : upd n s c = c := by unfold upd; rw [if_neg (by simp [well', hb])]
        have hsame : Hc.set w.1 ⟨w.2, true, tB, 2, c.map rBk⟩ = Hc := by
          apply List.ext_getElem?
          intro j
          by_cases hj : j = w.1
          · subst hj; rw [List.getElem?_set_self (List.getElem?_eq_some_iff.1 hbk).1, hbk]
          · rw [List.getElem?_set_ne (fun e => hj e.symm)]
        rw [hu, hsame] at hnew
        simp only [c35_l0, hE, nck, hbox, hi1, hir, hrows, hrw, hib, hbk, hcell, wrapS hlt (by omega : cs.length < 9223372036854775807), evX, Int.reduceEq, Int.reduceLT, Int.reduceLE, Nat.reduceMul, Nat.reduceMod, evW, fn_eq, evR, Nat.reduceAdd, Nat.reduceLT, Nat.reduceLeDiff, reduceIte, Nat.reduceEqDiff, reduceCtorEq, argEnv, eq_self, if_true, if_false]
        repeat' (first | (rw [guardK_cases]; split <;> simp only [c35_l0, hE, nck, hbox, hi1, hir, hrows, hrw, hib, hbk, hcell, wrapS hlt (by omega : cs.length < 9223372036854775807), evX, Int.reduceEq, Int.reduceLT, Int.reduceLE, Nat.reduceMul, Nat.reduceMod, evW, evR, Nat.reduceAdd, Nat.reduceLT, Nat.reduceLeDiff, reduceIte, Nat.reduceEqDiff, reduceCtorEq, argEnv, eq_self, if_true, if_false, *]) | (rw [condK_bool]; split <;> simp only [c35_l0, hE, nck, hbox, hi1, hir, hrows, hrw, hib, hbk, hcell, wrapS hlt (by omega : cs.length < 9223372036854775807), evX, Int.reduceEq, Int.reduceLT, Int.reduceLE, Nat.reduceMul, Nat.reduceMod, evW, evR, Nat.reduceAdd, Nat.reduceLT, Nat.reduceLeDiff, reduceIte, Nat.reduceEqDiff, reduceCtorEq, argEnv, eq_self, if_true, if_false, *]) | (rw [guardD_cases]; split <;> simp only [c35_l0, hE, nck, hbox, hi1, hir, hrows, hrw, hib, hbk, hcell, wrapS hlt (by omega : cs.length < 9223372036854775807), evX, Int.reduceEq, Int.reduceLT, Int.reduceLE, Nat.reduceMul, Nat.reduceMod, evW, evR, Nat.reduceAdd, Nat.reduceLT, Nat.reduceLeDiff, reduceIte, Nat.reduceEqDiff, reduceCtorEq, argEnv, eq_self, if_true, if_false, *]))
        exact q_next (i + 1, Hc) (by rfl) rfl ⟨by omega, hnew, hF⟩ (by simp only; omega) (fun r h => h)
      | false =>
        rw [hb] at hcell
        have hu : upd n s c = c.set n (s, false) := by unfold upd; rw [if_pos (by simp [well', hb])]
        rw [hu] at hnew
        simp only [c35_l0, hE, nck, hbox, hi1, hir, hrows, hrw, hib, hbk, hcell, hset, wrapS hlt (by omega : cs.length < 9223372036854775807), evX, Int.reduceEq, Int.reduceLT, Int.reduceLE, Nat.reduceMul, Nat.reduceMod, evW, fn_eq, evR, Nat.reduceAdd, Nat.reduceLT, Nat.reduceLeDiff, reduceIte, Nat.reduceEqDiff, reduceCtorEq, argEnv, eq_self, if_true, if_false]
        repeat' (first | (rw [guardK_cases]; split <;> simp only [c35_l0, hE, nck, hbox, hi1, hir, hrows, hrw, hib, hbk, hcell, hset, wrapS hlt (by omega : cs.length < 9223372036854775807), evX, Int.reduceEq, Int.reduceLT, Int.reduceLE, Nat.reduceMul, Nat.reduceMod, evW, evR, Nat.reduceAdd, Nat.reduceLT, Nat.reduceLeDiff, reduceIte, Nat.reduceEqDiff, reduceCtorEq, argEnv, eq_self, if_true, if_false, *]) | (rw [condK_bool]; split <;> simp only [c35_l0, hE, nck, hbox, hi1, hir, hrows, hrw, hib, hbk, hcell, hset, wrapS hlt (by omega : cs.length < 9223372036854775807), evX, Int.reduceEq, Int.reduceLT, Int.reduceLE, Nat.reduceMul, Nat.reduceMod, evW, evR, Nat.reduceAdd, Nat.reduceLT, Nat.reduceLeDiff, reduceIte, Nat.reduceEqDiff, reduceCtorEq, argEnv, eq_self, if_true, if_false, *]) | (rw [guardD_cases]; split <;> simp only [c35_l0, hE, nck, hbox, hi1, hir, hrows, hrw, hib, hbk, hcell, hset, wrapS hlt (by omega : cs.length < 9223372036854775807), evX, Int.reduceEq, Int.reduceLT, Int.reduceLE, Nat.reduceMul, Nat.reduceMod, evW, evR, Nat.reduceAdd, Nat.reduceLT, Nat.reduceLeDiff, reduceIte, Nat.reduceEqDiff, reduceCtorEq, argEnv, eq_self, if_true, if_false, *]))
        exact q_next (i + 1, _) (by rfl) rfl ⟨by omega, hnew, hF.set (hI.mem hw) _⟩ (by simp only; omega) (fun r h => h)
    · have : i = cs.length := by omega
      subst this
      simp only [c35_l0, hE, nck, hbox, Int.lt_irrefl, evX, Int.reduceEq, Int.reduceLT, Int.reduceLE, Nat.reduceMul, Nat.reduceMod, evW, fn_eq, evR, Nat.reduceAdd, Nat.reduceLT, Nat.reduceLeDiff, reduceIte, Nat.reduceEqDiff, reduceCtorEq, argEnv, eq_self, if_true, if_false]
      repeat' (first | (rw [guardK_cases]; split <;> simp only [c35_l0, hE, nck, hbox, Int.lt_irrefl, evX, Int.reduceEq, Int.reduceLT, Int.reduceLE, Nat.reduceMul, Nat.reduceMod, evW, evR, Nat.reduceAdd, Nat.reduceLT, Nat.reduceLeDiff, reduceIte, Nat.reduceEqDiff, reduceCtorEq, argEnv, eq_self, if_true, if_false, *]) | (rw [condK_bool]; split <;> simp only [c35_l0, hE, nck, hbox, Int.lt_irrefl, evX, Int.reduceEq, Int.reduceLT, Int.reduceLE, Nat.reduceMul, Nat.reduceMod, evW, evR, Nat.reduceAdd, Nat.reduceLT, Nat.reduceLeDiff, reduceIte, Nat.reduceEqDiff, reduceCtorEq, argEnv, eq_self, if_true, if_false, *]) | (rw [guardD_cases]; split <;> simp only [c35_l0, hE, nck, hbox, Int.lt_irrefl, evX, Int.reduceEq, Int.reduceLT, Int.reduceLE, Nat.reduceMul, Nat.reduceMod, evW, evR, Nat.reduceAdd, Nat.reduceLT, Nat.reduceLeDiff, reduceIte, Nat.reduceEqDiff, reduceCtorEq, argEnv, eq_self, if_true, if_false, *]))
      refine q_exit ⟨_, Hc, rfl, ?_, hF⟩
      simpa using hI
theorem f35 (h : Ar tA tC tB H ba bc vc ws nb cs) (n : Int) (s : ByteArray) : ∃ H', cal (evC cprog) false 35 [.ptr ba 0 1 0 0, .int .i64 n, .str s] H = some (.int .i64 (writeA cs nb n s).1, H') ∧ Ar tA tC tB H' ba bc vc ws nb (writeA cs nb n s).2 ∧ Frame (foot ba bc ws) H H' := by
  have h62 := f62 h n
  rw [cal_of at35]
  by_cases hk : okBlk nb n
  · rw [decide_eq_true hk] at h62
    have h33 := f33 h n
    by_cases hs : 20 < (s.size : Int)
    · have ha : writeA cs nb n s = (2, cs) := by simp only [writeA, hk, hs, not_true_eq_false, if_true, if_false]
      rw [ha]
      refine ⟨H, ?_, h, .refl _ _⟩
      simp only [c35, h62, hs, evX, Int.reduceEq, Int.reduceLT, Int.reduceLE, Nat.reduceMul, Nat.reduceMod, evW, fn_eq, evR, Nat.reduceAdd, Nat.reduceLT, Nat.reduceLeDiff, reduceIte, Nat.reduceEqDiff, reduceCtorEq, argEnv, eq_self, if_true, if_false]
      repeat' (first | (rw [guardK_cases]; split <;> simp only [c35, h62, hs, evX, Int.reduceEq, Int.reduceLT, Int.reduceLE, Nat.reduceMul, Nat.reduceMod, evW, evR, Nat.reduceAdd, Nat.reduceLT, Nat.reduceLeDiff, reduceIte, Nat.reduceEqDiff, reduceCtorEq, argEnv, eq_self, if_true, if_false, *]) | (rw [condK_bool]; split <;> simp only [c35, h62, hs, evX, Int.reduceEq, Int.reduceLT, Int.reduceLE, Nat.reduceMul, Nat.reduceMod, evW, evR, Nat.reduceAdd, Nat.reduceLT, Nat.reduceLeDiff, reduceIte, Nat.reduceEqDiff, reduceCtorEq, argEnv, eq_self, if_true, if_false, *]) | (rw [guardD_cases]; split <;> simp only [c35, h62, hs, evX, Int.reduceEq, Int.reduceLT, Int.reduceLE, Nat.reduceMul, Nat.reduceMod, evW, evR, Nat.reduceAdd, Nat.reduceLT, Nat.reduceLeDiff, reduceIte, Nat.reduceEqDiff, reduceCtorEq, argEnv, eq_self, if_true, if_false, *]))
    obtain ⟨n, rfl⟩ : ∃ k : Nat, n = k := ⟨n.toNat, by have := hk.1; omega⟩
    have hn : n < nb := by have := hk.2; omega
    cases hf : cs.find? (well' n) with
    | none =>
      have ha : writeA cs nb n s = (213, cs) := by simp only [writeA, hk, hs, hf, Int.toNat_natCast, not_true_eq_false, if_true, if_false]
      have hr : readA cs nb n = (⟨#[]⟩, 213) := by simp only [readA, if_pos hk, Int.toNat_natCast, hf]
      rw [ha]
      rw [hr] at h33
      refine ⟨H, ?_, h, .refl _ _⟩
      simp only [c35, h62, hs, h33, evX, Int.reduceEq, Int.reduceLT, Int.reduceLE, Nat.reduceMul, Nat.reduceMod, evW, fn_eq, evR, Nat.reduceAdd, Nat.reduceLT, Nat.reduceLeDiff, reduceIte, Nat.reduceEqDiff, reduceCtorEq, argEnv, eq_self, if_true, if_false]
      repeat' (first | (rw [guardK_cases]; split <;> simp only [c35, h62, hs, h33, evX, Int.reduceEq, Int.reduceLT, Int.reduceLE, Nat.reduceMul, Nat.reduceMod, evW, evR, Nat.reduceAdd, Nat.reduceLT, Nat.reduceLeDiff, reduceIte, Nat.reduceEqDiff, reduceCtorEq, argEnv, eq_self, if_true, if_false, *]) | (rw [condK_bool]; split <;> simp only [c35, h62, hs, h33, evX, Int.reduceEq, Int.reduceLT, Int.reduceLE, Nat.reduceMul, Nat.reduceMod, evW, evR, Nat.reduceAdd, Nat.reduceLT, Nat.reduceLeDiff, reduceIte, Nat.reduceEqDiff, reduceCtorEq, argEnv, eq_self, if_true, if_false, *]) | (rw [guardD_cases]; split <;> simp only [c35, h62, hs, h33, evX, Int.reduceEq, Int.reduceLT, Int.reduceLE, Nat.reduceMul, Nat.reduceMod, evW, evR, Nat.reduceAdd, Nat.reduceLT, Nat.reduceLeDiff, reduceIte, Nat.reduceEqDiff, reduceCtorEq, argEnv, eq_self, if_true, if_false, *]))
    | some c =>
      have ha : writeA cs nb n s = (0, cs.map (upd n s)) := by
        simp only [writeA, hk, hs, hf, Int.toNat_natCast, not_true_eq_false, if_false, reduceCtorEq]
      have hr : readA cs nb n = ((bkAt c n).1, 0) := by simp only [readA, if_pos hk, Int.toNat_natCast, hf]
      rw [ha]
      rw [hr] at h33
      suffices hh : ∃ H1, evFn (evC cprog) itLim c35 [.ptr ba 0 1 0 0, .int .i64 (n : Int), .str s] H = some (.int .i64 0, H1) ∧ Ar tA tC tB H1 ba bc vc ws nb (cs.map (upd n s)) ∧ Frame (foot ba bc ws) H H1 by
        obtain ⟨H1, k1, k2, k3⟩ := hh
        rw [k1, calK_f]
        rcases gc_or H (.int .i64 0) H1 with hg | ⟨hg, ht⟩
        · exact ⟨H1, by rw [hg], k2, k3⟩
        · exact ⟨H, by rw [hg], h.trunc k2 ht, .refl _ _⟩
      simp only [c35, h62, hs, h33, evX, Int.reduceEq, Int.reduceLT, Int.reduceLE, Nat.reduceMul, Nat.reduceMod, evW, fn_eq, evR, Nat.reduceAdd, Nat.reduceLT, Nat.reduceLeDiff, reduceIte, Nat.reduceEqDiff, reduceCtorEq, argEnv, eq_self, if_true, if_false]
      repeat' (first | (rw [guardK_cases]; split <;> simp only [c35, h62, hs, h33, evX, Int.reduceEq, Int.reduceLT, Int.reduceLE, Nat.reduceMul, Nat.reduceMod, evW, evR, Nat.reduceAdd, Nat.reduceLT, Nat.reduceLeDiff, reduceIte, Nat.reduceEqDiff, reduceCtorEq, argEnv, eq_self, if_true, if_false, *]) | (rw [condK_bool]; split <;> simp only [c35, h62, hs, h33, evX, Int.reduceEq, Int.reduceLT, Int.reduceLE, Nat.reduceMul, Nat.reduceMod, evW, evR, Nat.reduceAdd, Nat.reduceLT, Nat.reduceLeDiff, reduceIte, Nat.reduceEqDiff, reduceCtorEq, argEnv, eq_self, if_true, if_false, *]) | (rw [guardD_cases]; split <;> simp only [c35, h62, hs, h33, evX, Int.reduceEq, Int.reduceLT, Int.reduceLE, Nat.reduceMul, Nat.reduceMod, evW, evR, Nat.reduceAdd, Nat.reduceLT, Nat.reduceLeDiff, reduceIte, Nat.reduceEqDiff, reduceCtorEq, argEnv, eq_self, if_true, if_false, *]))
      generalize hz : itLim _ _ = z
      obtain ⟨T, H', rfl, k1, k2⟩ := l35 h n hn s _ (by rfl) rfl z hz
      simp only [evX, Int.reduceEq, Int.reduceLT, Int.reduceLE, Nat.reduceMul, Nat.reduceMod, evW, fn_eq, evR, Nat.reduceAdd, Nat.reduceLT, Nat.reduceLeDiff, reduceIte, Nat.reduceEqDiff, reduceCtorEq, argEnv, eq_self, if_true, if_false]
      repeat' (first | (rw [guardK_cases]; split <;> simp only [evX, Int.reduceEq, Int.reduceLT, Int.reduceLE, Nat.reduceMul, Nat.reduceMod, evW, evR, Nat.reduceAdd, Nat.reduceLT, Nat.reduceLeDiff, reduceIte, Nat.reduceEqDiff, reduceCtorEq, argEnv, eq_self, if_true, if_false, *]) | (rw [condK_bool]; split <;> simp only [evX, Int.reduceEq, Int.reduceLT, Int.reduceLE, Nat.reduceMul, Nat.reduceMod, evW, evR, Nat.reduceAdd, Nat.reduceLT, Nat.reduceLeDiff, reduceIte, Nat.reduceEqDiff, reduceCtorEq, argEnv, eq_self, if_true, if_false, *]) | (rw [guardD_cases]; split <;> simp only [evX, Int.reduceEq, Int.reduceLT, Int.reduceLE, Nat.reduceMul, Nat.reduceMod, evW, evR, Nat.reduceAdd, Nat.reduceLT, Nat.reduceLeDiff, reduceIte, Nat.reduceEqDiff, reduceCtorEq, argEnv, eq_self, if_true, if_false, *]))
      exact ⟨H', rfl, k1, k2⟩
  · rw [decide_eq_false hk] at h62
    have ha : writeA cs nb n s = (2, cs) := by simp only [writeA, hk, not_false_eq_true, if_true]
    rw [ha]
    refine ⟨H, ?_, h, .refl _ _⟩
    simp only [c35, h62, evX, Int.reduceEq, Int.reduceLT, Int.reduceLE, Nat.reduceMul, Nat.reduceMod, evW, fn_eq, evR, Nat.reduceAdd, Nat.reduceLT, Nat.reduceLeDiff, reduceIte, Nat.reduceEqDiff, reduceCtorEq, argEnv, eq_self, if_true, if_false]
    repeat' (first | (rw [guardK_cases]; split <;> simp only [c35, h62, evX, Int.reduceEq, Int.reduceLT, Int.reduceLE, Nat.reduceMul, Nat.reduceMod, evW, evR, Nat.reduceAdd, Nat.reduceLT, Nat.reduceLeDiff, reduceIte, Nat.reduceEqDiff, reduceCtorEq, argEnv, eq_self, if_true, if_false, *]) | (rw [condK_bool]; split <;> simp only [c35, h62, evX, Int.reduceEq, Int.reduceLT, Int.reduceLE, Nat.reduceMul, Nat.reduceMod, evW, evR, Nat.reduceAdd, Nat.reduceLT, Nat.reduceLeDiff, reduceIte, Nat.reduceEqDiff, reduceCtorEq, argEnv, eq_self, if_true, if_false, *]) | (rw [guardD_cases]; split <;> simp only [c35, h62, evX, Int.reduceEq, Int.reduceLT, Int.reduceLE, Nat.reduceMul, Nat.reduceMod, evW, evR, Nat.reduceAdd, Nat.reduceLT, Nat.reduceLeDiff, reduceIte, Nat.reduceEqDiff, reduceCtorEq, argEnv, eq_self, if_true, if_false, *]))
/-- what Bad does -/
def badA (cs : List (List Bk)) (nb : Nat) (i n : Int) : Int × List (List Bk) :=
  if ¬ okBlk nb n ∨ ¬ okBlk cs.length i then (2, cs) else (0, cs.set i.toNat (((cs[i.toNat]?).getD []).set n.toNat (⟨#[]⟩, true)))
theorem badEnd (h : Ar tA tC tB H ba bc vc ws nb cs) {i n : Nat} {w : Nat × Nat} {c : List Bk} (hw : ws[i]? = some w) (hc : cs[i]? = some c) (hcl : c.length = nb) :
    ∃ H', calK false H (some (.int .i64 0, H.set w.1 ⟨w.2, true, tB, 2, (c.set n (⟨#[]⟩, true)).map rBk⟩)) = some (.int .i64 0, H') ∧ Ar tA tC tB H' ba bc vc ws nb (cs.set i (((cs[i]?).getD []).set n (⟨#[]⟩, true))) ∧ Frame (foot ba bc ws) H H' := by
  have hnew := h.setBlk hw hc (c' := c.set n (⟨#[]⟩, true)) (by rw [List.length_set]; exact hcl)
  rw [hc]
  simp only [Option.getD_some]
  rw [calK_f]
  rcases gc_or H (.int .i64 0) (H.set w.1 ⟨w.2, true, tB, 2, (c.set n (⟨#[]⟩, true)).map rBk⟩) with hg | ⟨hg, ht⟩
  · exact ⟨_, by rw [hg], hnew, (Frame.refl _ _).set (h.mem hw) _⟩
  · exact ⟨H, by rw [hg], h.trunc hnew ht, .refl _ _⟩
theorem f36 (h : Ar tA tC tB H ba bc vc ws nb cs) (i n : Int) : ∃ H', cal (evC cprog) false 36 [.ptr ba 0 1 0 0, .int .i64 i, .int .i64 n] H = some (.int .i64 (badA cs nb i n).1, H') ∧ Ar tA tC tB H' ba bc vc ws nb (badA cs nb i n).2 ∧ Frame (foot ba bc ws) H H' := by
  have h60 := f60 h n
  have hbox := h.box
  rw [cal_of at36]
  by_cases hk : okBlk nb n
  · rw [if_pos hk] at h60
    by_cases hki : okBlk cs.length i
    · have ha : badA cs nb i n = (0, cs.set i.toNat (((cs[i.toNat]?).getD []).set n.toNat (⟨#[]⟩, true))) := by simp only [badA, hk, hki, not_true_eq_false, or_self, if_false]
      rw [ha]
      obtain ⟨n, rfl⟩ : ∃ k : Nat, n = k := ⟨n.toNat, by have := hk.1; omega⟩
      obtain ⟨i, rfl⟩ : ∃ k : Nat, i = k := ⟨i.toNat, by have := hki.1; omega⟩
      have hn : n < nb := by have := hk.2; omega
      have hi : i < cs.length := by have := hki.2; omega
      simp only [Int.toNat_natCast]
      obtain ⟨c, hc⟩ : ∃ c, cs[i]? = some c := ⟨_, List.getElem?_eq_getElem hi⟩
      obtain ⟨w, hw, hrw, hbk, hcell, hcl⟩ := h.raw hc hn
      have hir := h.iaRow hi
      have hib := h.iaBlk w hn
      have hrows := h.rows
      have hset := rowsSet c n (⟨#[]⟩, true)
      simp only at hset
      have g1 : ¬ (i : Int) < 0 := by omega
      have g2 : ¬ (cs.length : Int) ≤ (i : Int) := by omega
      have hend := badEnd h (n := n) hw hc hcl
      simp only [c36, h60, g1, g2, nck, hbox, hir, hrows, hrw, hib, hbk, hcell, hset, evX, Int.reduceEq, Int.reduceLT, Int.reduceLE, Nat.reduceMul, Nat.reduceMod, evW, fn_eq, evR, Nat.reduceAdd, Nat.reduceLT, Nat.reduceLeDiff, reduceIte, Nat.reduceEqDiff, reduceCtorEq, argEnv, eq_self, if_true, if_false]
      repeat' (first | (rw [guardK_cases]; split <;> simp only [c36, h60, g1, g2, nck, hbox, hir, hrows, hrw, hib, hbk, hcell, hset, evX, Int.reduceEq, Int.reduceLT, Int.reduceLE, Nat.reduceMul, Nat.reduceMod, evW, evR, Nat.reduceAdd, Nat.reduceLT, Nat.reduceLeDiff, reduceIte, Nat.reduceEqDiff, reduceCtorEq, argEnv, eq_self, if_true, if_false, *]) | (rw [condK_bool]; split <;> simp only [c36, h60, g1, g2, nck, hbox, hir, hrows, hrw, hib, hbk, hcell, hset, evX, Int.reduceEq, Int.reduceLT, Int.reduceLE, Nat.reduceMul, Nat.reduceMod, evW, evR, Nat.reduceAdd, Nat.reduceLT, Nat.reduceLeDiff, reduceIte, Nat.reduceEqDiff, reduceCtorEq, argEnv, eq_self, if_true, if_false, *]) | (rw [guardD_cases]; split <;> simp only [c36, h60, g1, g2, nck, hbox, hir, hrows, hrw, hib, hbk, hcell, hset, evX, Int.reduceEq, Int.reduceLT, Int.reduceLE, Nat.reduceMul, Nat.reduceMod, evW, evR, Nat.reduceAdd, Nat.reduceLT, Nat.reduceLeDiff, reduceIte, Nat.reduceEqDiff, reduceCtorEq, argEnv, eq_self, if_true, if_false, *]))
      exact hend
    · have ha : badA cs nb i n = (2, cs) := by simp only [badA, hki, not_false_eq_true, or_true, if_true]
      rw [ha]
      refine ⟨H, ?_, h, .refl _ _⟩
      by_cases g1 : i < 0
      · simp only [c36, h60, g1, evX, Int.reduceEq, Int.reduceLT, Int.reduceLE, Nat.reduceMul, Nat.reduceMod, evW, fn_eq, evR, Nat.reduceAdd, Nat.reduceLT, Nat.reduceLeDiff, reduceIte, Nat.reduceEqDiff, reduceCtorEq, argEnv, eq_self, if_true, if_false]
        repeat' (first | (rw [guardK_cases]; split <;> simp only [c36, h60, g1, evX, Int.reduceEq, Int.reduceLT, Int.reduceLE, Nat.reduceMul, Nat.reduceMod, evW, evR, Nat.reduceAdd, Nat.reduceLT, Nat.reduceLeDiff, reduceIte, Nat.reduceEqDiff, reduceCtorEq, argEnv, eq_self, if_true, if_false, *]) | (rw [condK_bool]; split <;> simp only [c36, h60, g1, evX, Int.reduceEq, Int.reduceLT, Int.reduceLE, Nat.reduceMul, Nat.reduceMod, evW, evR, Nat.reduceAdd, Nat.reduceLT, Nat.reduceLeDiff, reduceIte, Nat.reduceEqDiff, reduceCtorEq, argEnv, eq_self, if_true, if_false, *]) | (rw [guardD_cases]; split <;> simp only [c36, h60, g1, evX, Int.reduceEq, Int.reduceLT, Int.reduceLE, Nat.reduceMul, Nat.reduceMod, evW, evR, Nat.reduceAdd, Nat.reduceLT, Nat.reduceLeDiff, reduceIte, Nat.reduceEqDiff, reduceCtorEq, argEnv, eq_self, if_true, if_false, *]))
      · have g2 : (cs.length : Int) ≤ i := by unfold okBlk at hki; omega
        simp only [c36, h60, g1, g2, nck, hbox, evX, Int.reduceEq, Int.reduceLT, Int.reduceLE, Nat.reduceMul, Nat.reduceMod, evW, fn_eq, evR, Nat.reduceAdd, Nat.reduceLT, Nat.reduceLeDiff, reduceIte, Nat.reduceEqDiff, reduceCtorEq, argEnv, eq_self, if_true, if_false]
        repeat' (first | (rw [guardK_cases]; split <;> simp only [c36, h60, g1, g2, nck, hbox, evX, Int.reduceEq, Int.reduceLT, Int.reduceLE, Nat.reduceMul, Nat.reduceMod, evW, evR, Nat.reduceAdd, Nat.reduceLT, Nat.reduceLeDiff, reduceIte, Nat.reduceEqDiff, reduceCtorEq, argEnv, eq_self, if_true, if_false, *]) | (rw [condK_bool]; split <;> simp only [c36, h60, g1, g2, nck, hbox, evX, Int.reduceEq, Int.reduceLT, Int.reduceLE, Nat.reduceMul, Nat.reduceMod, evW, evR, Nat.reduceAdd, Nat.reduceLT, Nat.reduceLeDiff, reduceIte, Nat.reduceEqDiff, reduceCtorEq, argEnv, eq_self, if_true, if_false, *]) | (rw [guardD_cases]; split <;> simp only [c36, h60, g1, g2, nck, hbox, evX, Int.reduceEq, Int.reduceLT, Int.reduceLE, Nat.reduceMul, Nat.reduceMod, evW, evR, Nat.reduceAdd, Nat.reduceLT, Nat.reduceLeDiff, reduceIte, Nat.reduceEqDiff, reduceCtorEq, argEnv, eq_self, if_true, if_false, *]))
  · rw [if_neg hk] at h60
    have ha : badA cs nb i n = (2, cs) := by simp only [badA, hk, not_false_eq_true, true_or, if_true]
    rw [ha]
    refine ⟨H, ?_, h, .refl _ _⟩
    simp only [c36, h60, evX, Int.reduceEq, Int.reduceLT, Int.reduceLE, Nat.reduceMul, Nat.reduceMod, evW, fn_eq, evR, Nat.reduceAdd, Nat.reduceLT, Nat.reduceLeDiff, reduceIte, Nat.reduceEqDiff, reduceCtorEq, argEnv, eq_self, if_true, if_false]
    repeat' (first | (rw [guardK_cases]; split <;> simp only [c36, h60, evX, Int.reduceEq, Int.reduceLT, Int.reduceLE, Nat.reduceMul, Nat.reduceMod, evW, evR, Nat.reduceAdd, Nat.reduceLT, Nat.reduceLeDiff, reduceIte, Nat.reduceEqDiff, reduceCtorEq, argEnv, eq_self, if_true, if_false, *]) | (rw [condK_bool]; split <;> simp only [c36, h60, evX, Int.reduceEq, Int.reduceLT, Int.reduceLE, Nat.reduceMul, Nat.reduceMod, evW, evR, Nat.reduceAdd, Nat.reduceLT, Nat.reduceLeDiff, reduceIte, Nat.reduceEqDiff, reduceCtorEq, argEnv, eq_self, if_true, if_false, *]) | (rw [guardD_cases]; split <;> simp only [c36, h60, evX, Int.reduceEq, Int.reduceLT, Int.reduceLE, Nat.reduceMul, Nat.reduceMod, evW, evR, Nat.reduceAdd, Nat.reduceLT, Nat.reduceLeDiff, reduceIte, Nat.reduceEqDiff, reduceCtorEq, argEnv, eq_self, if_true, if_false, *]))
theorem f37 (h : Ar tA tC tB H ba bc vc ws nb cs) (i n : Int) : ∃ H', cal (evC cprog) false 37 [.ptr ba 0 1 0 0, .int .i64 i, .int .i64 n] H = some (.int .i64 (badA cs nb i n).1, H') ∧ Ar tA tC tB H' ba bc vc ws nb (badA cs nb i n).2 ∧ Frame (foot ba bc ws) H H' := by
  have h62 := f62 h n
  have hbox := h.box
  rw [cal_of at37]
  by_cases hki : okBlk cs.length i
  · have g1 : ¬ i < 0 := by have := hki.1; omega
    have g2 : ¬ (cs.length : Int) ≤ i := by have := hki.2; omega
    by_cases hk : okBlk nb n
    · rw [decide_eq_true hk] at h62
      have ha : badA cs nb i n = (0, cs.set i.toNat (((cs[i.toNat]?).getD []).set n.toNat (⟨#[]⟩, true))) := by simp only [badA, hk, hki, not_true_eq_false, or_self, if_false]
      rw [ha]
      obtain ⟨n, rfl⟩ : ∃ k : Nat, n = k := ⟨n.toNat, by have := hk.1; omega⟩
      obtain ⟨i, rfl⟩ : ∃ k : Nat, i = k := ⟨i.toNat, by have := hki.1; omega⟩
      have hn : n < nb := by have := hk.2; omega
      have hi : i < cs.length := by have := hki.2; omega
      simp only [Int.toNat_natCast]
      obtain ⟨c, hc⟩ : ∃ c, cs[i]? = some c := ⟨_, List.getElem?_eq_getElem hi⟩
      obtain ⟨w, hw, hrw, hbk, hcell, hcl⟩ := h.raw hc hn
      have hir := h.iaRow hi
      have hib := h.iaBlk w hn
      have hrows := h.rows
      have hset := rowsSet c n (⟨#[]⟩, true)
      simp only at hset
      have hend := badEnd h (n := n) hw hc hcl
      simp only [c37, h62, g1, g2, nck, hbox, hir, hrows, hrw, hib, hbk, hcell, hset, evX, Int.reduceEq, Int.reduceLT, Int.reduceLE, Nat.reduceMul, Nat.reduceMod, evW, fn_eq, evR, Nat.reduceAdd, Nat.reduceLT, Nat.reduceLeDiff, reduceIte, Nat.reduceEqDiff, reduceCtorEq, argEnv, eq_self, if_true, if_false]
      repeat' (first | (rw [guardK_cases]; split <;> simp only [c37, h62, g1, g2, nck, hbox, hir, hrows, hrw, hib, hbk, hcell, hset, evX, Int.reduceEq, Int.reduceLT, Int.reduceLE, Nat.reduceMul, Nat.reduceMod, evW, evR, Nat.reduceAdd, Nat.reduceLT, Nat.reduceLeDiff, reduceIte, Nat.reduceEqDiff, reduceCtorEq, argEnv, eq_self, if_true, if_false, *]) | (rw [condK_bool]; split <;> simp only [c37, h62, g1, g2, nck, hbox, hir, hrows, hrw, hib, hbk, hcell, hset, evX, Int.reduceEq, Int.reduceLT, Int.reduceLE, Nat.reduceMul, Nat.reduceMod, evW, evR, Nat.reduceAdd, Nat.reduceLT, Nat.reduceLeDiff, reduceIte, Nat.reduceEqDiff, reduceCtorEq, argEnv, eq_self, if_true, if_false, *]) | (rw [guardD_cases]; split <;> simp only [c37, h62, g1, g2, nck, hbox, hir, hrows, hrw, hib, hbk, hcell, hset, evX, Int.reduceEq, Int.reduceLT, Int.reduceLE, Nat.reduceMul, Nat.reduceMod, evW, evR, Nat.reduceAdd, Nat.reduceLT, Nat.reduceLeDiff, reduceIte, Nat.reduceEqDiff, reduceCtorEq, argEnv, eq_self, if_true, if_false, *]))
      exact hend
    · rw [decide_eq_false hk] at h62
      have ha : badA cs nb i n = (2, cs) := by simp only [badA, hk, not_false_eq_true, true_or, if_true]
      rw [ha]
      refine ⟨H, ?_, h, .refl _ _⟩
      simp only [c37, h62, g1, g2, nck, hbox, evX, Int.reduceEq, Int.reduceLT, Int.reduceLE, Nat.reduceMul, Nat.reduceMod, evW, fn_eq, evR, Nat.reduceAdd, Nat.reduceLT, Nat.reduceLeDiff, reduceIte, Nat.reduceEqDiff, reduceCtorEq, argEnv, eq_self, if_true, if_false]
      repeat' (first | (rw [guardK_cases]; split <;> simp only [c37, h62, g1, g2, nck, hbox, evX, Int.reduceEq, Int.reduceLT, Int.reduceLE, Nat.reduceMul, Nat.reduceMod, evW, evR, Nat.reduceAdd, Nat.reduceLT, Nat.reduceLeDiff, reduceIte, Nat.reduceEqDiff, reduceCtorEq, argEnv, eq_self, if_true, if_false, *]) | (rw [condK_bool]; split <;> simp only [c37, h62, g1, g2, nck, hbox, evX, Int.reduceEq, Int.reduceLT, Int.reduceLE, Nat.reduceMul, Nat.reduceMod, evW, evR, Nat.reduceAdd, Nat.reduceLT, Nat.reduceLeDiff, reduceIte, Nat.reduceEqDiff, reduceCtorEq, argEnv, eq_self, if_true, if_false, *]) | (rw [guardD_cases]; split <;> simp only [c37, h62, g1, g2, nck, hbox, evX, Int.reduceEq, Int.reduceLT, Int.reduceLE, Nat.reduceMul, Nat.reduceMod, evW, evR, Nat.reduceAdd, Nat.reduceLT, Nat.reduceLeDiff, reduceIte, Nat.reduceEqDiff, reduceCtorEq, argEnv, eq_self, if_true, if_false, *]))
  · have ha : badA cs nb i n = (2, cs) := by simp only [badA, hki, not_false_eq_true, or_true, if_true]
    rw [ha]
    refine ⟨H, ?_, h, .refl _ _⟩
    by_cases g1 : i < 0
    · simp only [c37, g1, evX, Int.reduceEq, Int.reduceLT, Int.reduceLE, Nat.reduceMul, Nat.reduceMod, evW, fn_eq, evR, Nat.reduceAdd, Nat.reduceLT, Nat.reduceLeDiff, reduceIte, Nat.reduceEqDiff, reduceCtorEq, argEnv, eq_self, if_true, if_false]
      repeat' (first | (rw [guardK_cases]; split <;> simp only [c37, g1, evX, Int.reduceEq, Int.reduceLT, Int.reduceLE, Nat.reduceMul, Nat.reduceMod, evW, evR, Nat.reduceAdd, Nat.reduceLT, Nat.reduceLeDiff, reduceIte, Nat.reduceEqDiff, reduceCtorEq, argEnv, eq_self, if_true, if_false, *]) | (rw [condK_bool]; split <;> simp only [c37, g1, evX, Int.reduceEq, Int.reduceLT, Int.reduceLE, Nat.reduceMul, Nat.reduceMod, evW, evR, Nat.reduceAdd, Nat.reduceLT, Nat.reduceLeDiff, reduceIte, Nat.reduceEqDiff, reduceCtorEq, argEnv, eq_self, if_true, if_false, *]) | (rw [guardD_cases]; split <;> simp only [c37, g1, evX, Int.reduceEq, Int.reduceLT, Int.reduceLE, Nat.reduceMul, Nat.reduceMod, evW, evR, Nat.reduceAdd, Nat.reduceLT, Nat.reduceLeDiff, reduceIte, Nat.reduceEqDiff, reduceCtorEq, argEnv, eq_self, if_true, if_false, *]))
    · have g2 : (cs.length : Int) ≤ i := by unfold okBlk at hki; omega
      simp only [c37, g1, g2, nck, hbox, evX, Int.reduceEq, Int.reduceLT, Int.reduceLE, Nat.reduceMul, Nat.reduceMod, evW, fn_eq, evR, Nat.reduceAdd, Nat.reduceLT, Nat.reduceLeDiff, reduceIte, Nat.reduceEqDiff, reduceCtorEq, argEnv, eq_self, if_true, if_false]
      repeat' (first | (rw [guardK_cases]; split <;> simp only [c37, g1, g2, nck, hbox, evX, Int.reduceEq, Int.reduceLT, Int.reduceLE, Nat.reduceMul, Nat.reduceMod, evW, evR, Nat.reduceAdd, Nat.reduceLT, Nat.reduceLeDiff, reduceIte, Nat.reduceEqDiff, reduceCtorEq, argEnv, eq_self, if_true, if_false, *]) | (rw [condK_bool]; split <;> simp only [c37, g1, g2, nck, hbox, evX, Int.reduceEq, Int.reduceLT, Int.reduceLE, Nat.reduceMul, Nat.reduceMod, evW, evR, Nat.reduceAdd, Nat.reduceLT, Nat.reduceLeDiff, reduceIte, Nat.reduceEqDiff, reduceCtorEq, argEnv, eq_self, if_true, if_false, *]) | (rw [guardD_cases]; split <;> simp only [c37, g1, g2, nck, hbox, evX, Int.reduceEq, Int.reduceLT, Int.reduceLE, Nat.reduceMul, Nat.reduceMod, evW, evR, Nat.reduceAdd, Nat.reduceLT, Nat.reduceLeDiff, reduceIte, Nat.reduceEqDiff, reduceCtorEq, argEnv, eq_self, if_true, if_false, *]))
end
end Go.Proofs.Ytehcdcnghcbimaa.Code
