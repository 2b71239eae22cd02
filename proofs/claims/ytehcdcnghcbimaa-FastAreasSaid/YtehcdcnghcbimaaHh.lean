/- Areas: the program's repair, whole. -/
import Derived.Test.YtehcdcnghcbimaaHg
set_option linter.unusedSimpArgs false
set_option linter.unusedVariables false
namespace Go.Proofs.Ytehcdcnghcbimaa.Code
open Go.Proofs.Ytehcdcnghcbimaa.Ev

section
variable {tA tC tB : Nat} {H : Heap} {ba bc vc : Nat} {ws : Ws} {nb : Nat} {cs : List (List Bk)}
theorem nodup_fresh : ∀ (l : List Nat) (i x : Nat), l.Nodup → x ∉ l → (l.set i x).Nodup
  | [], _, _, _, _ => by simp
  | a :: l, 0, x, h, hx => by
    simp only [List.nodup_cons] at h
    simp only [List.mem_cons, not_or] at hx
    simp only [List.set_cons_zero, List.nodup_cons]
    exact ⟨hx.2, h.2⟩
  | a :: l, i + 1, x, h, hx => by
    simp only [List.nodup_cons] at h
    simp only [List.mem_cons, not_or] at hx
    simp only [List.set_cons_succ, List.nodup_cons]
    refine ⟨fun hm => ?_, nodup_fresh l i x h.2 hx.2⟩
    rcases List.mem_or_eq_of_mem_set hm with hm | hm
    · exact h.1 hm
    · exact hx.1 hm.symm
/-- a copy exchanged for a new one -/
theorem Ar.setRow (h : Ar tA tC tB H ba bc vc ws nb cs) {i : Nat} {w : Nat × Nat} (hw : ws[i]? = some w) (c' : List Bk) (hl : c'.length = nb) (X : Heap) :
    Ar tA tC tB ((H ++ (⟨0, true, tB, 2, c'.map rBk⟩ :: X)).set bc ⟨vc, true, tC, 1, (ws.map (rW nb)).set i [.ref H.length 0 2 0 nb]⟩) ba bc vc (ws.set i (H.length, 0)) nb (cs.set i c') ∧
      (∀ g ∈ foot ba bc (ws.set i (H.length, 0)), g ∈ foot ba bc ws ∨ H.length ≤ g) := by
  have hnd := h.nod
  simp only [foot, List.nodup_cons, List.mem_cons, List.mem_map, not_or, not_exists, not_and] at hnd
  obtain ⟨⟨n1, n2⟩, n3, n4⟩ := hnd
  have hlb := h.lt ba (by simp [foot])
  have hlc := h.lt bc (by simp [foot])
  have hil := (List.getElem?_eq_some_iff.1 hw).1
  have hnew : ∀ g ∈ (ws.set i (H.length, 0)).map (·.1), g ∈ ws.map (·.1) ∨ g = H.length := fun g hg => by
    obtain ⟨u, hu, rfl⟩ := List.mem_map.1 hg
    rcases List.mem_or_eq_of_mem_set hu with hu | rfl
    · exact .inl (List.mem_map.2 ⟨u, hu, rfl⟩)
    · exact .inr rfl
  have hltw : ∀ g ∈ ws.map (·.1), g < H.length := fun g hg => h.lt g (by simp only [foot, List.mem_cons]; exact .inr (.inr hg))
  refine ⟨⟨?_, ?_, by rw [List.length_set, List.length_set]; exact h.len, fun j u d hu hd => ?_, ?_, by rw [List.length_set]; exact h.some'⟩, fun g hg => ?_⟩
  · rw [List.getElem?_set_ne (fun e => n1 e.symm), List.length_set, List.getElem?_append_left hlb]; exact h.box
  · rw [List.getElem?_set_self (by simp; omega), List.map_set]; rfl
  · by_cases hj : j = i
    · subst hj
      rw [List.getElem?_set_self hil] at hu; cases hu
      rw [List.getElem?_set_self (by have := h.len; omega)] at hd; cases hd
      refine ⟨?_, hl⟩
      rw [List.getElem?_set_ne (by simp only; omega), List.getElem?_append_right (Nat.le_refl _), Nat.sub_self]; rfl
    · rw [List.getElem?_set_ne (fun e => hj e.symm)] at hu hd
      have hum := List.mem_of_getElem? hu
      have := hltw u.1 (List.mem_map.2 ⟨u, hum, rfl⟩)
      rw [List.getElem?_set_ne (fun e => n3 u hum e.symm), List.getElem?_append_left this]
      exact h.blk j u d hu hd
  · simp only [foot, List.nodup_cons, List.mem_cons, not_or]
    refine ⟨⟨n1, fun hm => ?_⟩, fun hm => ?_, ?_⟩
    · rcases hnew _ hm with hm | hm
      · obtain ⟨u, hu, e⟩ := List.mem_map.1 hm; exact n2 u hu e
      · omega
    · rcases hnew _ hm with hm | hm
      · obtain ⟨u, hu, e⟩ := List.mem_map.1 hm; exact n3 u hu e
      · omega
    · rw [List.map_set]
      exact nodup_fresh _ i H.length n4 fun hm => by have := hltw _ hm; omega
  · simp only [foot, List.mem_cons] at hg ⊢
    rcases hg with hg | hg | hg
    · exact .inl (.inl hg)
    · exact .inl (.inr (.inl hg))
    · rcases hnew g hg with hg | hg
      · exact .inl (.inr (.inr hg))
      · exact .inr (by omega)
theorem f38 (h : Ar tA tC 96 H ba bc vc ws nb cs) (i : Int) : ∃ H' ws', cal (evC cprog) false 38 [.ptr ba 0 1 0 0, .int .i64 i] H = some (.tup [.int .i64 (repairA cs nb i).1.1, .int .i64 (repairA cs nb i).1.2], H') ∧
    Ar tA tC 96 H' ba bc vc ws' nb (repairA cs nb i).2 ∧ Frame (foot ba bc ws) H H' ∧ ∀ g ∈ foot ba bc ws', g ∈ foot ba bc ws ∨ H.length ≤ g := by
  have hs := h.some'
  have h63 := f63S H ba bc vc cs.length (by omega) h.box
  have hbox := h.box
  rw [cal_of at38]
  by_cases hk : okBlk cs.length i
  · have g1 : ¬ i < 0 := by have := hk.1; omega
    have g2 : ¬ (cs.length : Int) ≤ i := by have := hk.2; omega
    obtain ⟨i, rfl⟩ : ∃ k : Nat, i = k := ⟨i.toNat, by have := hk.1; omega⟩
    have hi : i < cs.length := by have := hk.2; omega
    obtain ⟨c, hc⟩ : ∃ c, cs[i]? = some c := ⟨_, List.getElem?_eq_getElem hi⟩
    obtain ⟨w, hw, hrw, hbk, _, hcl⟩ := h.raw hc (n := 0) (by omega)
    have hir := h.iaRow hi
    have hrows := h.rows
    obtain ⟨m, hm⟩ : ∃ m, nb = m + 1 := ⟨nb - 1, by omega⟩
    have h64 : cal (evC cprog) false 64 [.ref w.1 w.2 2 0 nb] H = some (.ref H.length 0 2 0 nb, H ++ [⟨0, true, 96, 2, c.map rBk⟩]) := by
      have hcb : curBlk H w.1 w.2 2 = some ⟨w.2, true, 96, 2, c.map rBk⟩ := by simp [curBlk, hbk]
      have hro : rowsOf H (.ref w.1 w.2 2 0 (m + 1)) = some (c.map rBk) := by
        show (curBlk H w.1 w.2 2).map (fun k => (k.els.drop 0).take (m + 1)) = _
        rw [hcb]
        simp only [Option.map_some, List.drop_zero, Option.some.injEq]
        exact List.take_of_length_le (by simp; omega)
      have hne : c.map rBk ≠ [] := by
        intro e
        rw [List.map_eq_nil_iff] at e
        rw [e] at hcl; simp at hcl; omega
      have hh : headOk 2 (c.map rBk) = true := by
        cases c with
        | nil => rfl
        | cons x c => simp [headOk, rBk]
      have := clone_ref at64' w.1 w.2 0 m (c.map rBk) H hro hne hh (by simp only [List.length_map, reach]; omega)
      rw [List.length_map, hcl] at this
      rw [← hm] at this
      exact this
    have hlp := l38 h hc hcl
    by_cases hl : ∃ n, n < nb ∧ Lost cs c n
    · rw [repair_lost hc hl]
      suffices hh : ∃ Y, evFn (evC cprog) itLim c38 [.ptr ba 0 1 0 0, .int .i64 (i : Int)] H = some (.tup [.int .i64 0, .int .i64 213], H ++ Y) by
        obtain ⟨Y, hY⟩ := hh
        refine ⟨H, ws, ?_, h, .refl _ _, fun g hg => .inl hg⟩
        rw [hY]
        simp only [evR, Nat.reduceAdd, Nat.reduceLT, Nat.reduceLeDiff, reduceIte, Nat.reduceEqDiff, reduceCtorEq, argEnv, eq_self, if_true, if_false]
      simp only [c38, h63, g1, g2, nck, hbox, hir, hrows, hrw, h64, evX, Int.reduceEq, Int.reduceLT, Int.reduceLE, Nat.reduceMul, Nat.reduceMod, evW, fn_eq, evR, Nat.reduceAdd, Nat.reduceLT, Nat.reduceLeDiff, reduceIte, Nat.reduceEqDiff, reduceCtorEq, argEnv, eq_self, if_true, if_false]
      repeat' (first | (rw [guardK_cases]; split <;> simp only [c38, h63, g1, g2, nck, hbox, hir, hrows, hrw, h64, evX, Int.reduceEq, Int.reduceLT, Int.reduceLE, Nat.reduceMul, Nat.reduceMod, evW, evR, Nat.reduceAdd, Nat.reduceLT, Nat.reduceLeDiff, reduceIte, Nat.reduceEqDiff, reduceCtorEq, argEnv, eq_self, if_true, if_false, *]) | (rw [condK_bool]; split <;> simp only [c38, h63, g1, g2, nck, hbox, hir, hrows, hrw, h64, evX, Int.reduceEq, Int.reduceLT, Int.reduceLE, Nat.reduceMul, Nat.reduceMod, evW, evR, Nat.reduceAdd, Nat.reduceLT, Nat.reduceLeDiff, reduceIte, Nat.reduceEqDiff, reduceCtorEq, argEnv, eq_self, if_true, if_false, *]) | (rw [guardD_cases]; split <;> simp only [c38, h63, g1, g2, nck, hbox, hir, hrows, hrw, h64, evX, Int.reduceEq, Int.reduceLT, Int.reduceLE, Nat.reduceMul, Nat.reduceMod, evW, evR, Nat.reduceAdd, Nat.reduceLT, Nat.reduceLeDiff, reduceIte, Nat.reduceEqDiff, reduceCtorEq, argEnv, eq_self, if_true, if_false, *]))
      generalize hz : itLim _ _ = z
      rcases hlp _ (by rfl) (by rfl) z hz with ⟨_, T, Y, rfl, hT4, hT5⟩ | ⟨hno, _⟩
      · simp only [hT4, hT5, evX, Int.reduceEq, Int.reduceLT, Int.reduceLE, Nat.reduceMul, Nat.reduceMod, evW, fn_eq, evR, Nat.reduceAdd, Nat.reduceLT, Nat.reduceLeDiff, reduceIte, Nat.reduceEqDiff, reduceCtorEq, argEnv, eq_self, if_true, if_false]
        repeat' (first | (rw [guardK_cases]; split <;> simp only [hT4, hT5, evX, Int.reduceEq, Int.reduceLT, Int.reduceLE, Nat.reduceMul, Nat.reduceMod, evW, evR, Nat.reduceAdd, Nat.reduceLT, Nat.reduceLeDiff, reduceIte, Nat.reduceEqDiff, reduceCtorEq, argEnv, eq_self, if_true, if_false, *]) | (rw [condK_bool]; split <;> simp only [hT4, hT5, evX, Int.reduceEq, Int.reduceLT, Int.reduceLE, Nat.reduceMul, Nat.reduceMod, evW, evR, Nat.reduceAdd, Nat.reduceLT, Nat.reduceLeDiff, reduceIte, Nat.reduceEqDiff, reduceCtorEq, argEnv, eq_self, if_true, if_false, *]) | (rw [guardD_cases]; split <;> simp only [hT4, hT5, evX, Int.reduceEq, Int.reduceLT, Int.reduceLE, Nat.reduceMul, Nat.reduceMod, evW, evR, Nat.reduceAdd, Nat.reduceLT, Nat.reduceLeDiff, reduceIte, Nat.reduceEqDiff, reduceCtorEq, argEnv, eq_self, if_true, if_false, *]))
        exact ⟨Y, rfl⟩
      · exact absurd hl hno
    · rw [repair_ok hc hl]
      suffices hh : ∃ X : Heap, evFn (evC cprog) itLim c38 [.ptr ba 0 1 0 0, .int .i64 (i : Int)] H = some (.tup [.int .i64 (cntB c nb : Int), .int .i64 0], (H ++ (⟨0, true, 96, 2, (fixTo cs c nb).map rBk⟩ :: X)).set bc ⟨vc, true, tC, 1, (ws.map (rW nb)).set i [.ref H.length 0 2 0 nb]⟩) by
        obtain ⟨X, hX⟩ := hh
        obtain ⟨k1, k2⟩ := h.setRow hw (fixTo cs c nb) (by rw [fixTo_len]; exact hcl) X
        rw [hX, calK_f]
        rcases gc_or H (.tup [.int .i64 (cntB c nb : Int), .int .i64 0]) ((H ++ (⟨0, true, 96, 2, (fixTo cs c nb).map rBk⟩ :: X)).set bc ⟨vc, true, tC, 1, (ws.map (rW nb)).set i [.ref H.length 0 2 0 nb]⟩) with hg | ⟨hg, ht⟩
        · exact ⟨_, _, by rw [hg], k1, ((Frame.refl _ _).app _).set (by simp [foot]) _, k2⟩
        · exfalso
          have hlc := h.lt bc (by simp [foot])
          have hb1 := h.rows
          rw [← ht, List.getElem?_take_of_lt hlc, List.getElem?_set_self (by simp; omega)] at hb1
          simp only [Option.some.injEq, Blk.mk.injEq, true_and] at hb1
          have hr := congrArg (fun l => l[i]?) hb1
          simp only [hrw] at hr
          rw [List.getElem?_set_self (by simp; have := h.len; omega)] at hr
          simp only [Option.some.injEq, List.cons.injEq, AV.ref.injEq, and_true, true_and] at hr
          have := h.lt w.1 (h.mem hw)
          omega
      have hcb : ∀ Y, (H ++ Y)[bc]? = some ⟨vc, true, tC, 1, ws.map (rW nb)⟩ := fun Y => (h.app Y).rows
      have hbx := h.boxx
      simp only [c38, h63, g1, g2, nck, hbox, hir, hrows, hrw, h64, evX, Int.reduceEq, Int.reduceLT, Int.reduceLE, Nat.reduceMul, Nat.reduceMod, evW, fn_eq, evR, Nat.reduceAdd, Nat.reduceLT, Nat.reduceLeDiff, reduceIte, Nat.reduceEqDiff, reduceCtorEq, argEnv, eq_self, if_true, if_false]
      repeat' (first | (rw [guardK_cases]; split <;> simp only [c38, h63, g1, g2, nck, hbox, hir, hrows, hrw, h64, evX, Int.reduceEq, Int.reduceLT, Int.reduceLE, Nat.reduceMul, Nat.reduceMod, evW, evR, Nat.reduceAdd, Nat.reduceLT, Nat.reduceLeDiff, reduceIte, Nat.reduceEqDiff, reduceCtorEq, argEnv, eq_self, if_true, if_false, *]) | (rw [condK_bool]; split <;> simp only [c38, h63, g1, g2, nck, hbox, hir, hrows, hrw, h64, evX, Int.reduceEq, Int.reduceLT, Int.reduceLE, Nat.reduceMul, Nat.reduceMod, evW, evR, Nat.reduceAdd, Nat.reduceLT, Nat.reduceLeDiff, reduceIte, Nat.reduceEqDiff, reduceCtorEq, argEnv, eq_self, if_true, if_false, *]) | (rw [guardD_cases]; split <;> simp only [c38, h63, g1, g2, nck, hbox, hir, hrows, hrw, h64, evX, Int.reduceEq, Int.reduceLT, Int.reduceLE, Nat.reduceMul, Nat.reduceMod, evW, evR, Nat.reduceAdd, Nat.reduceLT, Nat.reduceLeDiff, reduceIte, Nat.reduceEqDiff, reduceCtorEq, argEnv, eq_self, if_true, if_false, *]))
      generalize hz : itLim _ _ = z
      rcases hlp _ (by rfl) (by rfl) z hz with ⟨hno, _⟩ | ⟨_, T, X, rfl, hT⟩
      · exact absurd hno hl
      · simp only [hT, nck, hbx, hcb, hir, hrw, evX, Int.reduceEq, Int.reduceLT, Int.reduceLE, Nat.reduceMul, Nat.reduceMod, evW, fn_eq, evR, Nat.reduceAdd, Nat.reduceLT, Nat.reduceLeDiff, reduceIte, Nat.reduceEqDiff, reduceCtorEq, argEnv, eq_self, if_true, if_false]
        repeat' (first | (rw [guardK_cases]; split <;> simp only [hT, nck, hbx, hcb, hir, hrw, evX, Int.reduceEq, Int.reduceLT, Int.reduceLE, Nat.reduceMul, Nat.reduceMod, evW, evR, Nat.reduceAdd, Nat.reduceLT, Nat.reduceLeDiff, reduceIte, Nat.reduceEqDiff, reduceCtorEq, argEnv, eq_self, if_true, if_false, *]) | (rw [condK_bool]; split <;> simp only [hT, nck, hbx, hcb, hir, hrw, evX, Int.reduceEq, Int.reduceLT, Int.reduceLE, Nat.reduceMul, Nat.reduceMod, evW, evR, Nat.reduceAdd, Nat.reduceLT, Nat.reduceLeDiff, reduceIte, Nat.reduceEqDiff, reduceCtorEq, argEnv, eq_self, if_true, if_false, *]) | (rw [guardD_cases]; split <;> simp only [hT, nck, hbx, hcb, hir, hrw, evX, Int.reduceEq, Int.reduceLT, Int.reduceLE, Nat.reduceMul, Nat.reduceMod, evW, evR, Nat.reduceAdd, Nat.reduceLT, Nat.reduceLeDiff, reduceIte, Nat.reduceEqDiff, reduceCtorEq, argEnv, eq_self, if_true, if_false, *]))
        exact ⟨X, rfl⟩
  · rw [repair_no hk]
    refine ⟨H, ws, ?_, h, .refl _ _, fun g hg => .inl hg⟩
    by_cases g1 : i < 0
    · simp only [c38, h63, g1, evX, Int.reduceEq, Int.reduceLT, Int.reduceLE, Nat.reduceMul, Nat.reduceMod, evW, fn_eq, evR, Nat.reduceAdd, Nat.reduceLT, Nat.reduceLeDiff, reduceIte, Nat.reduceEqDiff, reduceCtorEq, argEnv, eq_self, if_true, if_false]
      repeat' (first | (rw [guardK_cases]; split <;> simp only [c38, h63, g1, evX, Int.reduceEq, Int.reduceLT, Int.reduceLE, Nat.reduceMul, Nat.reduceMod, evW, evR, Nat.reduceAdd, Nat.reduceLT, Nat.reduceLeDiff, reduceIte, Nat.reduceEqDiff, reduceCtorEq, argEnv, eq_self, if_true, if_false, *]) | (rw [condK_bool]; split <;> simp only [c38, h63, g1, evX, Int.reduceEq, Int.reduceLT, Int.reduceLE, Nat.reduceMul, Nat.reduceMod, evW, evR, Nat.reduceAdd, Nat.reduceLT, Nat.reduceLeDiff, reduceIte, Nat.reduceEqDiff, reduceCtorEq, argEnv, eq_self, if_true, if_false, *]) | (rw [guardD_cases]; split <;> simp only [c38, h63, g1, evX, Int.reduceEq, Int.reduceLT, Int.reduceLE, Nat.reduceMul, Nat.reduceMod, evW, evR, Nat.reduceAdd, Nat.reduceLT, Nat.reduceLeDiff, reduceIte, Nat.reduceEqDiff, reduceCtorEq, argEnv, eq_self, if_true, if_false, *]))
    · have g2 : (cs.length : Int) ≤ i := by unfold okBlk at hk; omega
      simp only [c38, h63, g1, g2, nck, hbox, evX, Int.reduceEq, Int.reduceLT, Int.reduceLE, Nat.reduceMul, Nat.reduceMod, evW, fn_eq, evR, Nat.reduceAdd, Nat.reduceLT, Nat.reduceLeDiff, reduceIte, Nat.reduceEqDiff, reduceCtorEq, argEnv, eq_self, if_true, if_false]
      repeat' (first | (rw [guardK_cases]; split <;> simp only [c38, h63, g1, g2, nck, hbox, evX, Int.reduceEq, Int.reduceLT, Int.reduceLE, Nat.reduceMul, Nat.reduceMod, evW, evR, Nat.reduceAdd, Nat.reduceLT, Nat.reduceLeDiff, reduceIte, Nat.reduceEqDiff, reduceCtorEq, argEnv, eq_self, if_true, if_false, *]) | (rw [condK_bool]; split <;> simp only [c38, h63, g1, g2, nck, hbox, evX, Int.reduceEq, Int.reduceLT, Int.reduceLE, Nat.reduceMul, Nat.reduceMod, evW, evR, Nat.reduceAdd, Nat.reduceLT, Nat.reduceLeDiff, reduceIte, Nat.reduceEqDiff, reduceCtorEq, argEnv, eq_self, if_true, if_false, *]) | (rw [guardD_cases]; split <;> simp only [c38, h63, g1, g2, nck, hbox, evX, Int.reduceEq, Int.reduceLT, Int.reduceLE, Nat.reduceMul, Nat.reduceMod, evW, evR, Nat.reduceAdd, Nat.reduceLT, Nat.reduceLeDiff, reduceIte, Nat.reduceEqDiff, reduceCtorEq, argEnv, eq_self, if_true, if_false, *]))
end
end Go.Proofs.Ytehcdcnghcbimaa.Code
