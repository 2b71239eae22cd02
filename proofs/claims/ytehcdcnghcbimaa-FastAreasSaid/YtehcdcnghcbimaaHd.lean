/- Areas: writes, and blocks made bad. -/
import Derived.Test.YtehcdcnghcbimaaHc
set_option linter.unusedSimpArgs false
set_option linter.unusedVariables false
namespace Go.Proofs.Ytehcdcnghcbimaa.Code
open Go.Proofs.Ytehcdcnghcbimaa.Ev

def upd (n : Nat) (s : ByteArray) (c : List Bk) : List Bk := if well' n c = true then c.set n (s, false) else c
def writeA (cs : List (List Bk)) (nb : Nat) (n : Int) (s : ByteArray) : Int × List (List Bk) :=
  if ¬ okBlk nb n then (2, cs) else if 20 < (s.size : Int) then (2, cs) else if cs.find? (well' n.toNat) = none then (213, cs) else (0, cs.map (upd n.toNat s))
theorem rowsSet (c : List Bk) (n : Nat) (x : Bk) : (c.map rBk).set n [.str x.1, .bool x.2] = (c.set n x).map rBk := by rw [List.map_set]; rfl
theorem upd_len (n : Nat) (s : ByteArray) (c : List Bk) : (upd n s c).length = c.length := by unfold upd; split <;> simp
theorem map_upd (f : List Bk → List Bk) (cs : List (List Bk)) {i : Nat} {c : List Bk} (h : cs[i]? = some c) : ((cs.take i).map f ++ cs.drop i).set i (f c) = (cs.take (i + 1)).map f ++ cs.drop (i + 1) := by
  have hlt := (List.getElem?_eq_some_iff.1 h).1
  apply List.ext_getElem?
  intro j
  by_cases hj : j = i
  · subst hj
    rw [List.getElem?_set_self (by simp; omega), List.getElem?_append_left (by simp; omega), List.getElem?_map, List.getElem?_take_of_lt (by omega), h]; rfl
  · rw [List.getElem?_set_ne (fun e => hj e.symm)]
    by_cases hlt' : j < i
    · rw [List.getElem?_append_left (by simp; omega), List.getElem?_append_left (by simp; omega), List.getElem?_map, List.getElem?_map, List.getElem?_take_of_lt hlt', List.getElem?_take_of_lt (by omega)]
    · rw [List.getElem?_append_right (by simp; omega), List.getElem?_append_right (by simp; omega)]
      simp only [List.length_map, List.length_take, List.getElem?_drop]
      congr 1; omega
theorem mid_get (f : List Bk → List Bk) (cs : List (List Bk)) {i : Nat} {c : List Bk} (h : cs[i]? = some c) : ((cs.take i).map f ++ cs.drop i)[i]? = some c := by
  have hlt := (List.getElem?_eq_some_iff.1 h).1
  rw [List.getElem?_append_right (by simp; omega)]
  simp only [List.length_map, List.length_take, List.getElem?_drop]
  rw [← h]; congr 1; omega
section
variable {tA tC tB : Nat} {H : Heap} {ba bc vc : Nat} {ws : Ws} {nb : Nat} {cs : List (List Bk)}
theorem Ar.trunc {H1 : Heap} {cs' : List (List Bk)} (h : Ar tA tC tB H ba bc vc ws nb cs) (h1 : Ar tA tC tB H1 ba bc vc ws nb cs') (ht : H1.take H.length = H) : Ar tA tC tB H ba bc vc ws nb cs' :=
  h1.same fun g hg => by
    have := h.lt g hg
    rw [← ht, List.getElem?_take_of_lt this]
theorem Ar.iaBlk (h : Ar tA tC tB H ba bc vc ws nb cs) (w : Nat × Nat) {n : Nat} (hn : n < nb) : iaddrK 2 (some (.ref w.1 w.2 2 0 nb)) (some (.int .i64 (n : Int))) = some (.ptr w.1 w.2 2 n 0) := by
  rw [iaddr_ref, asNat_cast, refK_some, if_pos ⟨hn, rfl⟩, Nat.zero_add]
theorem Ar.iaRow (h : Ar tA tC tB H ba bc vc ws nb cs) {i : Nat} (hi : i < cs.length) : iaddrK 1 (some (.ref bc vc 1 0 cs.length)) (some (.int .i64 (i : Int))) = some (.ptr bc vc 1 i 0) := by
  rw [iaddr_ref, asNat_cast, refK_some, if_pos ⟨hi, rfl⟩, Nat.zero_add]
/-- the same, told so that a write can be reckoned -/
theorem Ar.raw (h : Ar tA tC tB H ba bc vc ws nb cs) {i : Nat} {c : List Bk} (hc : cs[i]? = some c) {n : Nat} (hn : n < nb) : ∃ w, ws[i]? = some w ∧ (ws.map (rW nb))[i]? = some [.ref w.1 w.2 2 0 nb] ∧ H[w.1]? = some ⟨w.2, true, tB, 2, c.map rBk⟩ ∧ (c.map rBk)[n]? = some [.str (bkAt c n).1, .bool (bkAt c n).2] ∧ c.length = nb := by
  obtain ⟨w, hw⟩ : ∃ w, ws[i]? = some w := ⟨_, List.getElem?_eq_getElem (by have := h.len; have := (List.getElem?_eq_some_iff.1 hc).1; omega)⟩
  obtain ⟨h1, h2⟩ := h.blk i w c hw hc
  exact ⟨w, hw, by rw [List.getElem?_map, hw]; rfl, h1, by rw [List.getElem?_map, bk_get (by omega)]; rfl, h2⟩
theorem l34 (h : Ar tA tC tB H ba bc vc ws nb cs) (n : Nat) (hn : n < nb) (s : ByteArray) (st : St)
    (hE : keepEnv st.1 [1, 2, 29, 30, 31] = [(1, .int .i64 (n : Int)), (2, .str s), (29, .ref bc vc 1 0 cs.length), (30, .int .i64 (cs.length : Int)), (31, .int .i64 0)]) (hH : st.2 = H) (z : Option (CX × St)) (hz : itLim (evCode (evC cprog) itLim c34_l0) st = z) :
    ∃ T H', z = some (.exit 1, T, H') ∧ Ar tA tC tB H' ba bc vc ws nb (cs.map (upd n s)) ∧ Frame (foot ba bc ws) H H' := by
  have hs := h.some'
  have L := loop_rule (σ := Nat × Heap) (m := [1, 2, 29, 30, 31]) (env := fun i => [(1, .int .i64 (n : Int)), (2, .str s), (29, .ref bc vc 1 0 cs.length), (30, .int .i64 (cs.length : Int)), (31, .int .i64 (i.1 : Int))]) (hp := fun i => i.2)
    (P := fun i r => ∃ T H', r = (.exit 1, T, H') ∧ Ar tA tC tB H' ba bc vc ws nb (cs.map (upd n s)) ∧ Frame (foot ba bc ws) H H')
    (mu := fun i => cs.length - i.1) (I := fun i => i.1 ≤ cs.length ∧ Ar tA tC tB i.2 ba bc vc ws nb ((cs.take i.1).map (upd n s) ++ cs.drop i.1) ∧ Frame (foot ba bc ws) H i.2) (evCode (evC cprog) itLim c34_l0) ?_ (0, H) st ⟨Nat.zero_le _, by simpa using h, .refl _ _⟩ hE hH z hz
  · obtain ⟨r, rfl, T, H', rfl, h1, h2⟩ := L
    exact ⟨T, H', rfl, h1, h2⟩
  · intro ⟨i, Hc⟩ ⟨hi, hI, hF⟩ E hE
    simp only at hi hI hF hE ⊢
    have hll : ((cs.take i).map (upd n s) ++ cs.drop i).length = cs.length := by simp; omega
    by_cases hlt : i < cs.length
    · have hi1 : (i : Int) < (cs.length : Int) := by omega
      obtain ⟨c, hc⟩ : ∃ c, cs[i]? = some c := ⟨_, List.getElem?_eq_getElem hlt⟩
      have hcm := mid_get (upd n s) cs hc
      obtain ⟨w, hw, hrw, hbk, hcell, hcl⟩ := hI.raw hcm hn
      have hir := hI.iaRow (i := i) (by rw [hll]; exact hlt)
      have hib := hI.iaBlk w hn
      have hrows := hI.rows
      rw [hll] at hir
      have hset := rowsSet c n (s, false)
      simp only at hset
      have hnew := hI.setBlk hw hcm (c' := upd n s c) (by rw [upd_len]; exact hcl)
      rw [map_upd (upd n s) cs hc] at hnew
      cases hb : (bkAt c n).2 with
      | true =>
        rw [hb] at hcell
        have hu : upd n s c = c := by unfold upd; rw [if_neg (by simp [well', hb])]
        have hsame : Hc.set w.1 ⟨w.2, true, tB, 2, c.map rBk⟩ = Hc := by
          apply List.ext_getElem?
          intro j
          by_cases hj : j = w.1
          · subst hj; rw [List.getElem?_set_self (List.getElem?_eq_some_iff.1 hbk).1, hbk]
          · rw [List.getElem?_set_ne (fun e => hj e.symm)]
        rw [hu, hsame] at hnew
        simp only [c34_l0, hE, hi1, hir, hrows, hrw, hib, hbk, hcell, wrapS hlt (by omega : cs.length < 9223372036854775807), evX, Int.reduceEq, Int.reduceLT, Int.reduceLE, Nat.reduceMul, Nat.reduceMod, evW, fn_eq, evR, Nat.reduceAdd, Nat.reduceLT, Nat.reduceLeDiff, reduceIte, Nat.reduceEqDiff, reduceCtorEq, argEnv, eq_self, if_true, if_false]
        repeat' (first | (rw [guardK_cases]; split <;> simp only [c34_l0, hE, hi1, hir, hrows, hrw, hib, hbk, hcell, wrapS hlt (by omega : cs.length < 9223372036854775807), evX, Int.reduceEq, Int.reduceLT, Int.reduceLE, Nat.reduceMul, Nat.reduceMod, evW, evR, Nat.reduceAdd, Nat.reduceLT, Nat.reduceLeDiff, reduceIte, Nat.reduceEqDiff, reduceCtorEq, argEnv, eq_self, if_true, if_false, *]) | (rw [condK_bool]; split <;> simp only [c34_l0, hE, hi1, hir, hrows, hrw, hib, hbk, hcell, wrapS hlt (by omega : cs.length < 9223372036854775807), evX, Int.reduceEq, Int.reduceLT, Int.reduceLE, Nat.reduceMul, Nat.reduceMod, evW, evR, Nat.reduceAdd, Nat.reduceLT, Nat.reduceLeDiff, reduceIte, Nat.reduceEqDiff, reduceCtorEq, argEnv, eq_self, if_true, if_false, *]) | (rw [guardD_cases]; split <;> simp only [c34_l0, hE, hi1, hir, hrows, hrw, hib, hbk, hcell, wrapS hlt (by omega : cs.length < 9223372036854775807), evX, Int.reduceEq, Int.reduceLT, Int.reduceLE, Nat.reduceMul, Nat.reduceMod, evW, evR, Nat.reduceAdd, Nat.reduceLT, Nat.reduceLeDiff, reduceIte, Nat.reduceEqDiff, reduceCtorEq, argEnv, eq_self, if_true, if_false, *]))
        exact q_next (i + 1, Hc) (by rfl) rfl ⟨by omega, hnew, hF⟩ (by simp only; omega) (fun r h => h)
      | false =>
        rw [hb] at hcell
        have hu : upd n s c = c.set n (s, false) := by unfold upd; rw [if_pos (by simp [well', hb])]
        rw [hu] at hnew
        simp only [c34_l0, hE, hi1, hir, hrows, hrw, hib, hbk, hcell, hset, wrapS hlt (by omega : cs.length < 9223372036854775807), evX, Int.reduceEq, Int.reduceLT, Int.reduceLE, Nat.reduceMul, Nat.reduceMod, evW, fn_eq, evR, Nat.reduceAdd, Nat.reduceLT, Nat.reduceLeDiff, reduceIte, Nat.reduceEqDiff, reduceCtorEq, argEnv, eq_self, if_true, if_false]
        repeat' (first | (rw [guardK_cases]; split <;> simp only [c34_l0, hE, hi1, hir, hrows, hrw, hib, hbk, hcell, hset, wrapS hlt (by omega : cs.length < 9223372036854775807), evX, Int.reduceEq, Int.reduceLT, Int.reduceLE, Nat.reduceMul, Nat.reduceMod, evW, evR, Nat.reduceAdd, Nat.reduceLT, Nat.reduceLeDiff, reduceIte, Nat.reduceEqDiff, reduceCtorEq, argEnv, eq_self, if_true, if_false, *]) | (rw [condK_bool]; split <;> simp only [c34_l0, hE, hi1, hir, hrows, hrw, hib, hbk, hcell, hset, wrapS hlt (by omega : cs.length < 9223372036854775807), evX, Int.reduceEq, Int.reduceLT, Int.reduceLE, Nat.reduceMul, Nat.reduceMod, evW, evR, Nat.reduceAdd, Nat.reduceLT, Nat.reduceLeDiff, reduceIte, Nat.reduceEqDiff, reduceCtorEq, argEnv, eq_self, if_true, if_false, *]) | (rw [guardD_cases]; split <;> simp only [c34_l0, hE, hi1, hir, hrows, hrw, hib, hbk, hcell, hset, wrapS hlt (by omega : cs.length < 9223372036854775807), evX, Int.reduceEq, Int.reduceLT, Int.reduceLE, Nat.reduceMul, Nat.reduceMod, evW, evR, Nat.reduceAdd, Nat.reduceLT, Nat.reduceLeDiff, reduceIte, Nat.reduceEqDiff, reduceCtorEq, argEnv, eq_self, if_true, if_false, *]))
        exact q_next (i + 1, _) (by rfl) rfl ⟨by omega, hnew, hF.set (hI.mem hw) _⟩ (by simp only; omega) (fun r h => h)
    · have : i = cs.length := by omega
      subst this
      simp only [c34_l0, hE, Int.lt_irrefl, evX, Int.reduceEq, Int.reduceLT, Int.reduceLE, Nat.reduceMul, Nat.reduceMod, evW, fn_eq, evR, Nat.reduceAdd, Nat.reduceLT, Nat.reduceLeDiff, reduceIte, Nat.reduceEqDiff, reduceCtorEq, argEnv, eq_self, if_true, if_false]
      repeat' (first | (rw [guardK_cases]; split <;> simp only [c34_l0, hE, Int.lt_irrefl, evX, Int.reduceEq, Int.reduceLT, Int.reduceLE, Nat.reduceMul, Nat.reduceMod, evW, evR, Nat.reduceAdd, Nat.reduceLT, Nat.reduceLeDiff, reduceIte, Nat.reduceEqDiff, reduceCtorEq, argEnv, eq_self, if_true, if_false, *]) | (rw [condK_bool]; split <;> simp only [c34_l0, hE, Int.lt_irrefl, evX, Int.reduceEq, Int.reduceLT, Int.reduceLE, Nat.reduceMul, Nat.reduceMod, evW, evR, Nat.reduceAdd, Nat.reduceLT, Nat.reduceLeDiff, reduceIte, Nat.reduceEqDiff, reduceCtorEq, argEnv, eq_self, if_true, if_false, *]) | (rw [guardD_cases]; split <;> simp only [c34_l0, hE, Int.lt_irrefl, evX, Int.reduceEq, Int.reduceLT, Int.reduceLE, Nat.reduceMul, Nat.reduceMod, evW, evR, Nat.reduceAdd, Nat.reduceLT, Nat.reduceLeDiff, reduceIte, Nat.reduceEqDiff, reduceCtorEq, argEnv, eq_self, if_true, if_false, *]))
      refine q_exit ⟨_, Hc, rfl, ?_, hF⟩
      simpa using hI
theorem f34 (h : Ar tA tC tB H ba bc vc ws nb cs) (n : Int) (s : ByteArray) : ∃ H', cal (evC cprog) false 34 [.ptr ba 0 1 0 0, .int .i64 n, .str s] H = some (.int .i64 (writeA cs nb n s).1, H') ∧ Ar tA tC tB H' ba bc vc ws nb (writeA cs nb n s).2 ∧ Frame (foot ba bc ws) H H' := by
  have h60 := f60 h n
  rw [cal_of at34]
  by_cases hk : okBlk nb n
  · rw [if_pos hk] at h60
    obtain ⟨n, rfl⟩ : ∃ k : Nat, n = k := ⟨n.toNat, by have := hk.1; omega⟩
    have hn : n < nb := by have := hk.2; omega
    by_cases hs : 20 < (s.size : Int)
    · have ha : writeA cs nb n s = (2, cs) := by simp only [writeA, hk, hs, not_true_eq_false, if_true, if_false]
      rw [ha]
      refine ⟨H, ?_, h, .refl _ _⟩
      simp only [c34, h60, hs, evX, Int.reduceEq, Int.reduceLT, Int.reduceLE, Nat.reduceMul, Nat.reduceMod, evW, fn_eq, evR, Nat.reduceAdd, Nat.reduceLT, Nat.reduceLeDiff, reduceIte, Nat.reduceEqDiff, reduceCtorEq, argEnv, eq_self, if_true, if_false]
      repeat' (first | (rw [guardK_cases]; split <;> simp only [c34, h60, hs, evX, Int.reduceEq, Int.reduceLT, Int.reduceLE, Nat.reduceMul, Nat.reduceMod, evW, evR, Nat.reduceAdd, Nat.reduceLT, Nat.reduceLeDiff, reduceIte, Nat.reduceEqDiff, reduceCtorEq, argEnv, eq_self, if_true, if_false, *]) | (rw [condK_bool]; split <;> simp only [c34, h60, hs, evX, Int.reduceEq, Int.reduceLT, Int.reduceLE, Nat.reduceMul, Nat.reduceMod, evW, evR, Nat.reduceAdd, Nat.reduceLT, Nat.reduceLeDiff, reduceIte, Nat.reduceEqDiff, reduceCtorEq, argEnv, eq_self, if_true, if_false, *]) | (rw [guardD_cases]; split <;> simp only [c34, h60, hs, evX, Int.reduceEq, Int.reduceLT, Int.reduceLE, Nat.reduceMul, Nat.reduceMod, evW, evR, Nat.reduceAdd, Nat.reduceLT, Nat.reduceLeDiff, reduceIte, Nat.reduceEqDiff, reduceCtorEq, argEnv, eq_self, if_true, if_false, *]))
    have h61 := f61 h n hn
    rcases find_ix (well' n) cs with ⟨hf, hi⟩ | ⟨i, c, hf, hi, hc, hw⟩
    · have ha : writeA cs nb n s = (213, cs) := by simp only [writeA, hk, hs, hf, Int.toNat_natCast, not_true_eq_false, if_true, if_false]
      rw [ha]
      rw [hi] at h61
      have hm : ((-1 : Int) < 0) = True := by simp
      refine ⟨H, ?_, h, .refl _ _⟩
      simp only [c34, h60, hs, h61, hm, evX, Int.reduceEq, Int.reduceLT, Int.reduceLE, Nat.reduceMul, Nat.reduceMod, evW, fn_eq, evR, Nat.reduceAdd, Nat.reduceLT, Nat.reduceLeDiff, reduceIte, Nat.reduceEqDiff, reduceCtorEq, argEnv, eq_self, if_true, if_false]
      repeat' (first | (rw [guardK_cases]; split <;> simp only [c34, h60, hs, h61, hm, evX, Int.reduceEq, Int.reduceLT, Int.reduceLE, Nat.reduceMul, Nat.reduceMod, evW, evR, Nat.reduceAdd, Nat.reduceLT, Nat.reduceLeDiff, reduceIte, Nat.reduceEqDiff, reduceCtorEq, argEnv, eq_self, if_true, if_false, *]) | (rw [condK_bool]; split <;> simp only [c34, h60, hs, h61, hm, evX, Int.reduceEq, Int.reduceLT, Int.reduceLE, Nat.reduceMul, Nat.reduceMod, evW, evR, Nat.reduceAdd, Nat.reduceLT, Nat.reduceLeDiff, reduceIte, Nat.reduceEqDiff, reduceCtorEq, argEnv, eq_self, if_true, if_false, *]) | (rw [guardD_cases]; split <;> simp only [c34, h60, hs, h61, hm, evX, Int.reduceEq, Int.reduceLT, Int.reduceLE, Nat.reduceMul, Nat.reduceMod, evW, evR, Nat.reduceAdd, Nat.reduceLT, Nat.reduceLeDiff, reduceIte, Nat.reduceEqDiff, reduceCtorEq, argEnv, eq_self, if_true, if_false, *]))
    · have ha : writeA cs nb n s = (0, cs.map (upd n s)) := by
        simp only [writeA, hk, hs, hf, Int.toNat_natCast, not_true_eq_false, if_false, reduceCtorEq]
      rw [ha]
      rw [hi] at h61
      have hm : ¬ (i : Int) < 0 := by omega
      have hbox := h.box
      suffices hh : ∃ H1, evFn (evC cprog) itLim c34 [.ptr ba 0 1 0 0, .int .i64 (n : Int), .str s] H = some (.int .i64 0, H1) ∧ Ar tA tC tB H1 ba bc vc ws nb (cs.map (upd n s)) ∧ Frame (foot ba bc ws) H H1 by
        obtain ⟨H1, k1, k2, k3⟩ := hh
        rw [k1, calK_f]
        rcases gc_or H (.int .i64 0) H1 with hg | ⟨hg, ht⟩
        · exact ⟨H1, by rw [hg], k2, k3⟩
        · exact ⟨H, by rw [hg], h.trunc k2 ht, .refl _ _⟩
      simp only [c34, h60, hs, h61, hm, nck, hbox, evX, Int.reduceEq, Int.reduceLT, Int.reduceLE, Nat.reduceMul, Nat.reduceMod, evW, fn_eq, evR, Nat.reduceAdd, Nat.reduceLT, Nat.reduceLeDiff, reduceIte, Nat.reduceEqDiff, reduceCtorEq, argEnv, eq_self, if_true, if_false]
      repeat' (first | (rw [guardK_cases]; split <;> simp only [c34, h60, hs, h61, hm, nck, hbox, evX, Int.reduceEq, Int.reduceLT, Int.reduceLE, Nat.reduceMul, Nat.reduceMod, evW, evR, Nat.reduceAdd, Nat.reduceLT, Nat.reduceLeDiff, reduceIte, Nat.reduceEqDiff, reduceCtorEq, argEnv, eq_self, if_true, if_false, *]) | (rw [condK_bool]; split <;> simp only [c34, h60, hs, h61, hm, nck, hbox, evX, Int.reduceEq, Int.reduceLT, Int.reduceLE, Nat.reduceMul, Nat.reduceMod, evW, evR, Nat.reduceAdd, Nat.reduceLT, Nat.reduceLeDiff, reduceIte, Nat.reduceEqDiff, reduceCtorEq, argEnv, eq_self, if_true, if_false, *]) | (rw [guardD_cases]; split <;> simp only [c34, h60, hs, h61, hm, nck, hbox, evX, Int.reduceEq, Int.reduceLT, Int.reduceLE, Nat.reduceMul, Nat.reduceMod, evW, evR, Nat.reduceAdd, Nat.reduceLT, Nat.reduceLeDiff, reduceIte, Nat.reduceEqDiff, reduceCtorEq, argEnv, eq_self, if_true, if_false, *]))
      generalize hz : itLim _ _ = z
      obtain ⟨T, H', rfl, k1, k2⟩ := l34 h n hn s _ (by rfl) rfl z hz
      simp only [evX, Int.reduceEq, Int.reduceLT, Int.reduceLE, Nat.reduceMul, Nat.reduceMod, evW, fn_eq, evR, Nat.reduceAdd, Nat.reduceLT, Nat.reduceLeDiff, reduceIte, Nat.reduceEqDiff, reduceCtorEq, argEnv, eq_self, if_true, if_false]
      repeat' (first | (rw [guardK_cases]; split <;> simp only [evX, Int.reduceEq, Int.reduceLT, Int.reduceLE, Nat.reduceMul, Nat.reduceMod, evW, evR, Nat.reduceAdd, Nat.reduceLT, Nat.reduceLeDiff, reduceIte, Nat.reduceEqDiff, reduceCtorEq, argEnv, eq_self, if_true, if_false, *]) | (rw [condK_bool]; split <;> simp only [evX, Int.reduceEq, Int.reduceLT, Int.reduceLE, Nat.reduceMul, Nat.reduceMod, evW, evR, Nat.reduceAdd, Nat.reduceLT, Nat.reduceLeDiff, reduceIte, Nat.reduceEqDiff, reduceCtorEq, argEnv, eq_self, if_true, if_false, *]) | (rw [guardD_cases]; split <;> simp only [evX, Int.reduceEq, Int.reduceLT, Int.reduceLE, Nat.reduceMul, Nat.reduceMod, evW, evR, Nat.reduceAdd, Nat.reduceLT, Nat.reduceLeDiff, reduceIte, Nat.reduceEqDiff, reduceCtorEq, argEnv, eq_self, if_true, if_false, *]))
      exact ⟨H', rfl, k1, k2⟩
  · rw [if_neg hk] at h60
    have ha : writeA cs nb n s = (2, cs) := by simp only [writeA, hk, not_false_eq_true, if_true]
    rw [ha]
    refine ⟨H, ?_, h, .refl _ _⟩
    simp only [c34, h60, evX, Int.reduceEq, Int.reduceLT, Int.reduceLE, Nat.reduceMul, Nat.reduceMod, evW, fn_eq, evR, Nat.reduceAdd, Nat.reduceLT, Nat.reduceLeDiff, reduceIte, Nat.reduceEqDiff, reduceCtorEq, argEnv, eq_self, if_true, if_false]
    repeat' (first | (rw [guardK_cases]; split <;> simp only [c34, h60, evX, Int.reduceEq, Int.reduceLT, Int.reduceLE, Nat.reduceMul, Nat.reduceMod, evW, evR, Nat.reduceAdd, Nat.reduceLT, Nat.reduceLeDiff, reduceIte, Nat.reduceEqDiff, reduceCtorEq, argEnv, eq_self, if_true, if_false, *]) | (rw [condK_bool]; split <;> simp only [c34, h60, evX, Int.reduceEq, Int.reduceLT, Int.reduceLE, Nat.reduceMul, Nat.reduceMod, evW, evR, Nat.reduceAdd, Nat.reduceLT, Nat.reduceLeDiff, reduceIte, Nat.reduceEqDiff, reduceCtorEq, argEnv, eq_self, if_true, if_false, *]) | (rw [guardD_cases]; split <;> simp only [c34, h60, evX, Int.reduceEq, Int.reduceLT, Int.reduceLE, Nat.reduceMul, Nat.reduceMod, evW, evR, Nat.reduceAdd, Nat.reduceLT, Nat.reduceLeDiff, reduceIte, Nat.reduceEqDiff, reduceCtorEq, argEnv, eq_self, if_true, if_false, *]))
end
end Go.Proofs.Ytehcdcnghcbimaa.Code
