/- page: the program's reading of a page. -/
import Derived.Test.YthgcnlmmgilhjaaPa
set_option linter.unusedSimpArgs false
set_option linter.unusedVariables false
namespace Go.Proofs.Ythgcnlmmgilhjaa.Code
open Go.Proofs.Ythgcnlmmgilhjaa.Ev

theorem least_ge {out : List Pl} (h : ∀ x ∈ out, 1 ≤ x.1) : 2 ≤ leastOf out := by
  unfold leastOf
  cases hl : out.getLast? with
  | none => decide
  | some x => have := h x (List.mem_of_getLast? hl); simp only; omega
theorem l32 (p : List Nat) (hp : Page p) (h128 : p.length = 128) (H : Heap) (a : Nat) (ha : a < 256) (st : St)
    (hE : keepEnv st.1 [0, 4, 5] = [(0, eB p), (4, .nils), (5, .int .i64 (a : Int))]) (hH : st.2 = H) (z : Option (CX × St)) (hz : itLim (evCode (evC cprog) itLim c32_l0) st = z) :
    ∃ T X, (match pl p a 2 with
      | some l => z = some (.exit 0, T, H ++ X) ∧ ∃ rv, get T 4 = some rv ∧ Out H.length 2 55 X rv (l.map rPl)
      | none => z = some (.ret, T, H ++ X) ∧ get T 2 = some .nils ∧ get T 3 = some (.bool false)) := by
  have L := loop_rule (σ := List Pl × Nat × Heap × AV) (m := [0, 4, 5]) (env := fun i => [(0, eB p), (4, i.2.2.2), (5, .int .i64 (i.2.1 : Int))]) (hp := fun i => H ++ i.2.2.1)
    (P := fun i r => ∃ T X, (match pl p i.2.1 (leastOf i.1) with
      | some l => r = (.exit 0, T, H ++ X) ∧ ∃ rv, get T 4 = some rv ∧ Out H.length 2 55 X rv ((i.1 ++ l).map rPl)
      | none => r = (.ret, T, H ++ X) ∧ get T 2 = some .nils ∧ get T 3 = some (.bool false)))
    (mu := fun i => 1000 - leastOf i.1) (I := fun i => i.2.1 < 256 ∧ i.1.length ≤ 1000 ∧ (∀ x ∈ i.1, (x.1 < 128 ∧ x.2 < 256) ∧ 1 ≤ x.1) ∧ Out H.length 2 55 i.2.2.1 i.2.2.2 (i.1.map rPl) ∧ i.1.length ≤ leastOf i.1) (evCode (evC cprog) itLim c32_l0) ?_ ([], a, [], .nils) st ⟨ha, by simp, by simp, .nils .., by simp⟩ hE (by simpa using hH) z hz
  · obtain ⟨r, rfl, T, X, h⟩ := L
    refine ⟨T, X, ?_⟩
    simp only [leastOf, List.getLast?_nil, List.nil_append] at h
    split at h
    · exact ⟨by rw [h.1], h.2⟩
    · exact ⟨by rw [h.1], h.2⟩
  · intro ⟨out, a, X, rv⟩ ⟨ha, hol, hob, hO, hlo⟩ E hE
    simp only at ha hol hob hO hlo hE ⊢
    have hlb := pl_bound fun x hx => (hob x hx).1
    have hlg := least_ge fun x hx => (hob x hx).2
    by_cases h0 : a = 0
    · subst h0
      have z0 : decide (((0 : Nat) : Int) = 0) = true := rfl
      simp only [c32_l0, hE, z0, evX, Int.reduceEq, Int.reduceLT, Int.reduceLE, Nat.reduceMul, Nat.reduceMod, evW, fn_eq, evR, Nat.reduceAdd, Nat.reduceLT, Nat.reduceLeDiff, reduceIte, Nat.reduceEqDiff, reduceCtorEq, argEnv, eq_self, if_true, if_false]
      repeat' (first | (rw [guardK_cases]; split <;> simp only [c32_l0, hE, z0, evX, Int.reduceEq, Int.reduceLT, Int.reduceLE, Nat.reduceMul, Nat.reduceMod, evW, evR, Nat.reduceAdd, Nat.reduceLT, Nat.reduceLeDiff, reduceIte, Nat.reduceEqDiff, reduceCtorEq, argEnv, eq_self, if_true, if_false, *]) | (rw [condK_bool]; split <;> simp only [c32_l0, hE, z0, evX, Int.reduceEq, Int.reduceLT, Int.reduceLE, Nat.reduceMul, Nat.reduceMod, evW, evR, Nat.reduceAdd, Nat.reduceLT, Nat.reduceLeDiff, reduceIte, Nat.reduceEqDiff, reduceCtorEq, argEnv, eq_self, if_true, if_false, *]) | (rw [guardD_cases]; split <;> simp only [c32_l0, hE, z0, evX, Int.reduceEq, Int.reduceLT, Int.reduceLE, Nat.reduceMul, Nat.reduceMod, evW, evR, Nat.reduceAdd, Nat.reduceLT, Nat.reduceLeDiff, reduceIte, Nat.reduceEqDiff, reduceCtorEq, argEnv, eq_self, if_true, if_false, *]))
      refine q_exit ?_
      simp only [pl_zero]
      exact ⟨_, X, rfl, rv, by rfl, by simpa using hO⟩
    have h0' : ¬ ((a : Int) = 0) := by omega
    by_cases c0 : a < 2
    · have hpl := pl_bad p (least := leastOf out) h0 (.inl (by omega))
      have hb1 : (a : Int) < 2 := by omega
      simp only [c32_l0, hE, h0', hb1, evX, Int.reduceEq, Int.reduceLT, Int.reduceLE, Nat.reduceMul, Nat.reduceMod, evW, fn_eq, evR, Nat.reduceAdd, Nat.reduceLT, Nat.reduceLeDiff, reduceIte, Nat.reduceEqDiff, reduceCtorEq, argEnv, eq_self, if_true, if_false]
      repeat' (first | (rw [guardK_cases]; split <;> simp only [c32_l0, hE, h0', hb1, evX, Int.reduceEq, Int.reduceLT, Int.reduceLE, Nat.reduceMul, Nat.reduceMod, evW, evR, Nat.reduceAdd, Nat.reduceLT, Nat.reduceLeDiff, reduceIte, Nat.reduceEqDiff, reduceCtorEq, argEnv, eq_self, if_true, if_false, *]) | (rw [condK_bool]; split <;> simp only [c32_l0, hE, h0', hb1, evX, Int.reduceEq, Int.reduceLT, Int.reduceLE, Nat.reduceMul, Nat.reduceMod, evW, evR, Nat.reduceAdd, Nat.reduceLT, Nat.reduceLeDiff, reduceIte, Nat.reduceEqDiff, reduceCtorEq, argEnv, eq_self, if_true, if_false, *]) | (rw [guardD_cases]; split <;> simp only [c32_l0, hE, h0', hb1, evX, Int.reduceEq, Int.reduceLT, Int.reduceLE, Nat.reduceMul, Nat.reduceMod, evW, evR, Nat.reduceAdd, Nat.reduceLT, Nat.reduceLeDiff, reduceIte, Nat.reduceEqDiff, reduceCtorEq, argEnv, eq_self, if_true, if_false, *]))
      refine q_ret ?_; simp only [hpl]; exact ⟨_, X, rfl, by rfl, by rfl⟩
    have hb1 : ¬ ((a : Int) < 2) := by omega
    by_cases c2 : a % 2 = 1
    · have hpl := pl_bad p (least := leastOf out) h0 (.inr (.inl c2))
      have hb2 : ((a % 2 : Nat) : Int) = 1 := by omega
      simp only [c32_l0, hE, h0', tm2, hb1, hb2, evX, Int.reduceEq, Int.reduceLT, Int.reduceLE, Nat.reduceMul, Nat.reduceMod, evW, fn_eq, evR, Nat.reduceAdd, Nat.reduceLT, Nat.reduceLeDiff, reduceIte, Nat.reduceEqDiff, reduceCtorEq, argEnv, eq_self, if_true, if_false]
      repeat' (first | (rw [guardK_cases]; split <;> simp only [c32_l0, hE, h0', tm2, hb1, hb2, evX, Int.reduceEq, Int.reduceLT, Int.reduceLE, Nat.reduceMul, Nat.reduceMod, evW, evR, Nat.reduceAdd, Nat.reduceLT, Nat.reduceLeDiff, reduceIte, Nat.reduceEqDiff, reduceCtorEq, argEnv, eq_self, if_true, if_false, *]) | (rw [condK_bool]; split <;> simp only [c32_l0, hE, h0', tm2, hb1, hb2, evX, Int.reduceEq, Int.reduceLT, Int.reduceLE, Nat.reduceMul, Nat.reduceMod, evW, evR, Nat.reduceAdd, Nat.reduceLT, Nat.reduceLeDiff, reduceIte, Nat.reduceEqDiff, reduceCtorEq, argEnv, eq_self, if_true, if_false, *]) | (rw [guardD_cases]; split <;> simp only [c32_l0, hE, h0', tm2, hb1, hb2, evX, Int.reduceEq, Int.reduceLT, Int.reduceLE, Nat.reduceMul, Nat.reduceMod, evW, evR, Nat.reduceAdd, Nat.reduceLT, Nat.reduceLeDiff, reduceIte, Nat.reduceEqDiff, reduceCtorEq, argEnv, eq_self, if_true, if_false, *]))
      refine q_ret ?_; simp only [hpl]; exact ⟨_, X, rfl, by rfl, by rfl⟩
    have hb2 : ¬ ((a % 2 : Nat) : Int) = 1 := by omega
    by_cases c3 : 126 < a
    · have hpl := pl_bad p (least := leastOf out) h0 (.inr (.inr c3))
      have hb3 : 126 < (a : Int) := by omega
      simp only [c32_l0, hE, h0', tm2, hb1, hb2, hb3, evX, Int.reduceEq, Int.reduceLT, Int.reduceLE, Nat.reduceMul, Nat.reduceMod, evW, fn_eq, evR, Nat.reduceAdd, Nat.reduceLT, Nat.reduceLeDiff, reduceIte, Nat.reduceEqDiff, reduceCtorEq, argEnv, eq_self, if_true, if_false]
      repeat' (first | (rw [guardK_cases]; split <;> simp only [c32_l0, hE, h0', tm2, hb1, hb2, hb3, evX, Int.reduceEq, Int.reduceLT, Int.reduceLE, Nat.reduceMul, Nat.reduceMod, evW, evR, Nat.reduceAdd, Nat.reduceLT, Nat.reduceLeDiff, reduceIte, Nat.reduceEqDiff, reduceCtorEq, argEnv, eq_self, if_true, if_false, *]) | (rw [condK_bool]; split <;> simp only [c32_l0, hE, h0', tm2, hb1, hb2, hb3, evX, Int.reduceEq, Int.reduceLT, Int.reduceLE, Nat.reduceMul, Nat.reduceMod, evW, evR, Nat.reduceAdd, Nat.reduceLT, Nat.reduceLeDiff, reduceIte, Nat.reduceEqDiff, reduceCtorEq, argEnv, eq_self, if_true, if_false, *]) | (rw [guardD_cases]; split <;> simp only [c32_l0, hE, h0', tm2, hb1, hb2, hb3, evX, Int.reduceEq, Int.reduceLT, Int.reduceLE, Nat.reduceMul, Nat.reduceMod, evW, evR, Nat.reduceAdd, Nat.reduceLT, Nat.reduceLeDiff, reduceIte, Nat.reduceEqDiff, reduceCtorEq, argEnv, eq_self, if_true, if_false, *]))
      refine q_ret ?_; simp only [hpl]; exact ⟨_, X, rfl, by rfl, by rfl⟩
    have hb3 : ¬ (126 < (a : Int)) := by omega
    have hol' := out_len hO
    simp only [List.length_map] at hol'
    have hS := out_slat hO H rfl (fun r hr => by obtain ⟨x, _, rfl⟩ := List.mem_map.1 hr; rfl)
    cases hgl : out.getLast? with
    | none =>
      have hout : out = [] := List.getLast?_eq_none_iff.1 hgl
      have hlz : ¬ (0 : Int) < (out.length : Int) := by rw [hout]; simp
      have hl0 : leastOf out = 2 := by rw [hout]; rfl
      obtain ⟨q1, hq1, hqt1⟩ := getB H p (i := a + 1) (by omega)
      obtain ⟨q2, hq2, hqt2⟩ := getB H p (i := a) (by omega)
      have hy1 := hp.byte (a + 1)
      have hy2 := hp.byte a
      have hw1 := wrapA1 (a := a) (by omega)
      have hwy1 := wrapN (byte p (a + 1)) (by omega)
      have hwy2 := wrapN (byte p a) (by omega)
      simp only [rB] at hqt1 hqt2
      by_cases e1 : byte p (a + 1) < 2
      · have hpl := pl_bad' p (least := leastOf out) h0 (.inl e1)
        have hc1 : (byte p (a + 1) : Int) < 2 := by omega
        simp only [c32_l0, hE, h0', tm2, hb1, hb2, hb3, hol', hlz, hw1, hq1, hqt1.onex, hwy1, hc1, evX, Int.reduceEq, Int.reduceLT, Int.reduceLE, Nat.reduceMul, Nat.reduceMod, evW, fn_eq, evR, Nat.reduceAdd, Nat.reduceLT, Nat.reduceLeDiff, reduceIte, Nat.reduceEqDiff, reduceCtorEq, argEnv, eq_self, if_true, if_false]
        repeat' (first | (rw [guardK_cases]; split <;> simp only [c32_l0, hE, h0', tm2, hb1, hb2, hb3, hol', hlz, hw1, hq1, hqt1.onex, hwy1, hc1, evX, Int.reduceEq, Int.reduceLT, Int.reduceLE, Nat.reduceMul, Nat.reduceMod, evW, evR, Nat.reduceAdd, Nat.reduceLT, Nat.reduceLeDiff, reduceIte, Nat.reduceEqDiff, reduceCtorEq, argEnv, eq_self, if_true, if_false, *]) | (rw [condK_bool]; split <;> simp only [c32_l0, hE, h0', tm2, hb1, hb2, hb3, hol', hlz, hw1, hq1, hqt1.onex, hwy1, hc1, evX, Int.reduceEq, Int.reduceLT, Int.reduceLE, Nat.reduceMul, Nat.reduceMod, evW, evR, Nat.reduceAdd, Nat.reduceLT, Nat.reduceLeDiff, reduceIte, Nat.reduceEqDiff, reduceCtorEq, argEnv, eq_self, if_true, if_false, *]) | (rw [guardD_cases]; split <;> simp only [c32_l0, hE, h0', tm2, hb1, hb2, hb3, hol', hlz, hw1, hq1, hqt1.onex, hwy1, hc1, evX, Int.reduceEq, Int.reduceLT, Int.reduceLE, Nat.reduceMul, Nat.reduceMod, evW, evR, Nat.reduceAdd, Nat.reduceLT, Nat.reduceLeDiff, reduceIte, Nat.reduceEqDiff, reduceCtorEq, argEnv, eq_self, if_true, if_false, *]))
        refine q_ret ?_; simp only [hpl]; exact ⟨_, _, rfl, by rfl, by rfl⟩
      have hc1 : ¬ ((byte p (a + 1) : Int) < 2) := by omega
      by_cases e2 : byte p (a + 1) % 2 = 1
      · have hpl := pl_bad' p (least := leastOf out) h0 (.inr (.inl e2))
        have hc2 : ((byte p (a + 1) % 2 : Nat) : Int) = 1 := by omega
        simp only [c32_l0, hE, h0', tm2, hb1, hb2, hb3, hol', hlz, hw1, hq1, hqt1.onex, hwy1, hc1, hc2, evX, Int.reduceEq, Int.reduceLT, Int.reduceLE, Nat.reduceMul, Nat.reduceMod, evW, fn_eq, evR, Nat.reduceAdd, Nat.reduceLT, Nat.reduceLeDiff, reduceIte, Nat.reduceEqDiff, reduceCtorEq, argEnv, eq_self, if_true, if_false]
        repeat' (first | (rw [guardK_cases]; split <;> simp only [c32_l0, hE, h0', tm2, hb1, hb2, hb3, hol', hlz, hw1, hq1, hqt1.onex, hwy1, hc1, hc2, evX, Int.reduceEq, Int.reduceLT, Int.reduceLE, Nat.reduceMul, Nat.reduceMod, evW, evR, Nat.reduceAdd, Nat.reduceLT, Nat.reduceLeDiff, reduceIte, Nat.reduceEqDiff, reduceCtorEq, argEnv, eq_self, if_true, if_false, *]) | (rw [condK_bool]; split <;> simp only [c32_l0, hE, h0', tm2, hb1, hb2, hb3, hol', hlz, hw1, hq1, hqt1.onex, hwy1, hc1, hc2, evX, Int.reduceEq, Int.reduceLT, Int.reduceLE, Nat.reduceMul, Nat.reduceMod, evW, evR, Nat.reduceAdd, Nat.reduceLT, Nat.reduceLeDiff, reduceIte, Nat.reduceEqDiff, reduceCtorEq, argEnv, eq_self, if_true, if_false, *]) | (rw [guardD_cases]; split <;> simp only [c32_l0, hE, h0', tm2, hb1, hb2, hb3, hol', hlz, hw1, hq1, hqt1.onex, hwy1, hc1, hc2, evX, Int.reduceEq, Int.reduceLT, Int.reduceLE, Nat.reduceMul, Nat.reduceMod, evW, evR, Nat.reduceAdd, Nat.reduceLT, Nat.reduceLeDiff, reduceIte, Nat.reduceEqDiff, reduceCtorEq, argEnv, eq_self, if_true, if_false, *]))
        refine q_ret ?_; simp only [hpl]; exact ⟨_, _, rfl, by rfl, by rfl⟩
      have hc2 : ¬ ((byte p (a + 1) % 2 : Nat) : Int) = 1 := by omega
      have h47 := fun H => f47 (a, byte p (a + 1)) (by show a < 1000000; omega) (by show byte p (a + 1) < 1000000; omega) H
      simp only [rPl] at h47
      by_cases e3 : 128 < a + byte p (a + 1)
      · have hpl := pl_bad' p (least := leastOf out) h0 (.inr (.inr e3))
        have hc3 : 128 < ((a + byte p (a + 1) : Nat) : Int) := by omega
        simp only [c32_l0, hE, h0', tm2, hb1, hb2, hb3, hol', hlz, hw1, hq1, hqt1.onex, hwy1, h47, hc1, hc2, hc3, evX, Int.reduceEq, Int.reduceLT, Int.reduceLE, Nat.reduceMul, Nat.reduceMod, evW, fn_eq, evR, Nat.reduceAdd, Nat.reduceLT, Nat.reduceLeDiff, reduceIte, Nat.reduceEqDiff, reduceCtorEq, argEnv, eq_self, if_true, if_false]
        repeat' (first | (rw [guardK_cases]; split <;> simp only [c32_l0, hE, h0', tm2, hb1, hb2, hb3, hol', hlz, hw1, hq1, hqt1.onex, hwy1, h47, hc1, hc2, hc3, evX, Int.reduceEq, Int.reduceLT, Int.reduceLE, Nat.reduceMul, Nat.reduceMod, evW, evR, Nat.reduceAdd, Nat.reduceLT, Nat.reduceLeDiff, reduceIte, Nat.reduceEqDiff, reduceCtorEq, argEnv, eq_self, if_true, if_false, *]) | (rw [condK_bool]; split <;> simp only [c32_l0, hE, h0', tm2, hb1, hb2, hb3, hol', hlz, hw1, hq1, hqt1.onex, hwy1, h47, hc1, hc2, hc3, evX, Int.reduceEq, Int.reduceLT, Int.reduceLE, Nat.reduceMul, Nat.reduceMod, evW, evR, Nat.reduceAdd, Nat.reduceLT, Nat.reduceLeDiff, reduceIte, Nat.reduceEqDiff, reduceCtorEq, argEnv, eq_self, if_true, if_false, *]) | (rw [guardD_cases]; split <;> simp only [c32_l0, hE, h0', tm2, hb1, hb2, hb3, hol', hlz, hw1, hq1, hqt1.onex, hwy1, h47, hc1, hc2, hc3, evX, Int.reduceEq, Int.reduceLT, Int.reduceLE, Nat.reduceMul, Nat.reduceMod, evW, evR, Nat.reduceAdd, Nat.reduceLT, Nat.reduceLeDiff, reduceIte, Nat.reduceEqDiff, reduceCtorEq, argEnv, eq_self, if_true, if_false, *]))
        refine q_ret ?_; simp only [hpl]; exact ⟨_, _, rfl, by rfl, by rfl⟩
      have hc3 : ¬ (128 < ((a + byte p (a + 1) : Nat) : Int)) := by omega
      have hpl := pl_next p (least := leastOf out) h0 (by omega) (by omega)
      have hap := fun Y v => out_app (hO.more Y) 16 H rfl v
      have hbnd : ((out.map rPl).length + 1) * 16 ≤ reach ∧ (out.map rPl).length + 1 ≤ reach := by simp only [List.length_map, reach]; omega
      have hl2 : leastOf (out ++ [(a, byte p (a + 1))]) = a + byte p (a + 1) + 1 := by simp [leastOf]
      simp only [c32_l0, hE, h0', tm2, hb1, hb2, hb3, hol', hlz, hw1, hq1, hqt1.onex, hwy1, h47, hc1, hc2, hc3, hap, src_ref, hbnd, hq2, hqt2.onex, hwy2, evX, Int.reduceEq, Int.reduceLT, Int.reduceLE, Nat.reduceMul, Nat.reduceMod, evW, fn_eq, evR, Nat.reduceAdd, Nat.reduceLT, Nat.reduceLeDiff, reduceIte, Nat.reduceEqDiff, reduceCtorEq, argEnv, eq_self, if_true, if_false]
      repeat' (first | (rw [guardK_cases]; split <;> simp only [c32_l0, hE, h0', tm2, hb1, hb2, hb3, hol', hlz, hw1, hq1, hqt1.onex, hwy1, h47, hc1, hc2, hc3, hap, src_ref, hbnd, hq2, hqt2.onex, hwy2, evX, Int.reduceEq, Int.reduceLT, Int.reduceLE, Nat.reduceMul, Nat.reduceMod, evW, evR, Nat.reduceAdd, Nat.reduceLT, Nat.reduceLeDiff, reduceIte, Nat.reduceEqDiff, reduceCtorEq, argEnv, eq_self, if_true, if_false, *]) | (rw [condK_bool]; split <;> simp only [c32_l0, hE, h0', tm2, hb1, hb2, hb3, hol', hlz, hw1, hq1, hqt1.onex, hwy1, h47, hc1, hc2, hc3, hap, src_ref, hbnd, hq2, hqt2.onex, hwy2, evX, Int.reduceEq, Int.reduceLT, Int.reduceLE, Nat.reduceMul, Nat.reduceMod, evW, evR, Nat.reduceAdd, Nat.reduceLT, Nat.reduceLeDiff, reduceIte, Nat.reduceEqDiff, reduceCtorEq, argEnv, eq_self, if_true, if_false, *]) | (rw [guardD_cases]; split <;> simp only [c32_l0, hE, h0', tm2, hb1, hb2, hb3, hol', hlz, hw1, hq1, hqt1.onex, hwy1, h47, hc1, hc2, hc3, hap, src_ref, hbnd, hq2, hqt2.onex, hwy2, evX, Int.reduceEq, Int.reduceLT, Int.reduceLE, Nat.reduceMul, Nat.reduceMod, evW, evR, Nat.reduceAdd, Nat.reduceLT, Nat.reduceLeDiff, reduceIte, Nat.reduceEqDiff, reduceCtorEq, argEnv, eq_self, if_true, if_false, *]))
      refine q_next (out ++ [(a, byte p (a + 1))], byte p a, _, _) (by rfl) rfl ⟨hy2, ?_, ?_, by rw [List.map_append]; exact (hO.more _).step (by simp), ?_⟩ ?_ fun r h => ?_
      · rw [List.length_append, List.length_singleton]; omega
      · intro x hx
        rcases List.mem_append.1 hx with hx | hx
        · exact hob x hx
        · simp at hx; subst hx; exact ⟨⟨by show a < 128; omega, hy1⟩, by show 1 ≤ a; omega⟩
      · simp only [hl2, List.length_append, List.length_singleton]; omega
      · simp only [hl2]; omega
      · rw [hpl]
        rw [hl2] at h
        cases hq : pl p (byte p a) (a + byte p (a + 1) + 1) with
        | none => rw [hq] at h; exact h
        | some l => rw [hq] at h; simpa using h
    | some x =>
      have hne : out ≠ [] := by intro h; rw [h] at hgl; cases hgl
      have hpos : 0 < out.length := List.length_pos_iff.2 hne
      have hlz : (0 : Int) < (out.length : Int) := by omega
      have hl0 : leastOf out = x.1 + x.2 + 1 := by simp [leastOf, hgl]
      have hxb := hob x (List.mem_of_getLast? hgl)
      have hwp := wrapP (Nat.lt_succ_self out.length) hpos (by omega)
      have hxi : out[out.length - 1]? = some x := by rw [← List.getLast?_eq_getElem?]; exact hgl
      obtain ⟨_, q3, hq3, hqt3⟩ := hS.get (out.length - 1) (rPl x) (by rw [List.getElem?_map, hxi]; rfl)
      have h47x := fun H => f47 x (by omega) (by omega) H
      have hqa := hqt3.agg (n := 2) rfl
      have hqb := fun Y => hqt3.aggx (n := 2) rfl Y
      simp only [List.append_assoc] at hqb
      by_cases c1 : a < leastOf out
      · have hpl := pl_bad p h0 (.inl c1)
        have hb4 : (a : Int) ≤ ((x.1 + x.2 : Nat) : Int) := by omega
        simp only [c32_l0, hE, h0', tm2, hb1, hb2, hb3, hol', hlz, hwp, hq3, hqa, hqb, h47x, hb4, evX, Int.reduceEq, Int.reduceLT, Int.reduceLE, Nat.reduceMul, Nat.reduceMod, evW, fn_eq, evR, Nat.reduceAdd, Nat.reduceLT, Nat.reduceLeDiff, reduceIte, Nat.reduceEqDiff, reduceCtorEq, argEnv, eq_self, if_true, if_false]
        repeat' (first | (rw [guardK_cases]; split <;> simp only [c32_l0, hE, h0', tm2, hb1, hb2, hb3, hol', hlz, hwp, hq3, hqa, hqb, h47x, hb4, evX, Int.reduceEq, Int.reduceLT, Int.reduceLE, Nat.reduceMul, Nat.reduceMod, evW, evR, Nat.reduceAdd, Nat.reduceLT, Nat.reduceLeDiff, reduceIte, Nat.reduceEqDiff, reduceCtorEq, argEnv, eq_self, if_true, if_false, *]) | (rw [condK_bool]; split <;> simp only [c32_l0, hE, h0', tm2, hb1, hb2, hb3, hol', hlz, hwp, hq3, hqa, hqb, h47x, hb4, evX, Int.reduceEq, Int.reduceLT, Int.reduceLE, Nat.reduceMul, Nat.reduceMod, evW, evR, Nat.reduceAdd, Nat.reduceLT, Nat.reduceLeDiff, reduceIte, Nat.reduceEqDiff, reduceCtorEq, argEnv, eq_self, if_true, if_false, *]) | (rw [guardD_cases]; split <;> simp only [c32_l0, hE, h0', tm2, hb1, hb2, hb3, hol', hlz, hwp, hq3, hqa, hqb, h47x, hb4, evX, Int.reduceEq, Int.reduceLT, Int.reduceLE, Nat.reduceMul, Nat.reduceMod, evW, evR, Nat.reduceAdd, Nat.reduceLT, Nat.reduceLeDiff, reduceIte, Nat.reduceEqDiff, reduceCtorEq, argEnv, eq_self, if_true, if_false, *]))
        refine q_ret ?_; simp only [hpl]; exact ⟨_, X, rfl, by rfl, by rfl⟩
      have hb4 : ¬ (a : Int) ≤ ((x.1 + x.2 : Nat) : Int) := by omega
      obtain ⟨q1, hq1, hqt1⟩ := getB H p (i := a + 1) (by omega)
      obtain ⟨q2, hq2, hqt2⟩ := getB H p (i := a) (by omega)
      have hy1 := hp.byte (a + 1)
      have hy2 := hp.byte a
      have hw1 := wrapA1 (a := a) (by omega)
      have hwy1 := wrapN (byte p (a + 1)) (by omega)
      have hwy2 := wrapN (byte p a) (by omega)
      simp only [rB] at hqt1 hqt2
      by_cases e1 : byte p (a + 1) < 2
      · have hpl := pl_bad' p (least := leastOf out) h0 (.inl e1)
        have hc1 : (byte p (a + 1) : Int) < 2 := by omega
        simp only [c32_l0, hE, h0', tm2, hb1, hb2, hb3, hol', hlz, hwp, hq3, hqa, hqb, h47x, hb4, hw1, hq1, hqt1.onex, hwy1, hc1, evX, Int.reduceEq, Int.reduceLT, Int.reduceLE, Nat.reduceMul, Nat.reduceMod, evW, fn_eq, evR, Nat.reduceAdd, Nat.reduceLT, Nat.reduceLeDiff, reduceIte, Nat.reduceEqDiff, reduceCtorEq, argEnv, eq_self, if_true, if_false]
        repeat' (first | (rw [guardK_cases]; split <;> simp only [c32_l0, hE, h0', tm2, hb1, hb2, hb3, hol', hlz, hwp, hq3, hqa, hqb, h47x, hb4, hw1, hq1, hqt1.onex, hwy1, hc1, evX, Int.reduceEq, Int.reduceLT, Int.reduceLE, Nat.reduceMul, Nat.reduceMod, evW, evR, Nat.reduceAdd, Nat.reduceLT, Nat.reduceLeDiff, reduceIte, Nat.reduceEqDiff, reduceCtorEq, argEnv, eq_self, if_true, if_false, *]) | (rw [condK_bool]; split <;> simp only [c32_l0, hE, h0', tm2, hb1, hb2, hb3, hol', hlz, hwp, hq3, hqa, hqb, h47x, hb4, hw1, hq1, hqt1.onex, hwy1, hc1, evX, Int.reduceEq, Int.reduceLT, Int.reduceLE, Nat.reduceMul, Nat.reduceMod, evW, evR, Nat.reduceAdd, Nat.reduceLT, Nat.reduceLeDiff, reduceIte, Nat.reduceEqDiff, reduceCtorEq, argEnv, eq_self, if_true, if_false, *]) | (rw [guardD_cases]; split <;> simp only [c32_l0, hE, h0', tm2, hb1, hb2, hb3, hol', hlz, hwp, hq3, hqa, hqb, h47x, hb4, hw1, hq1, hqt1.onex, hwy1, hc1, evX, Int.reduceEq, Int.reduceLT, Int.reduceLE, Nat.reduceMul, Nat.reduceMod, evW, evR, Nat.reduceAdd, Nat.reduceLT, Nat.reduceLeDiff, reduceIte, Nat.reduceEqDiff, reduceCtorEq, argEnv, eq_self, if_true, if_false, *]))
        refine q_ret ?_; simp only [hpl]; exact ⟨_, _, rfl, by rfl, by rfl⟩
      have hc1 : ¬ ((byte p (a + 1) : Int) < 2) := by omega
      by_cases e2 : byte p (a + 1) % 2 = 1
      · have hpl := pl_bad' p (least := leastOf out) h0 (.inr (.inl e2))
        have hc2 : ((byte p (a + 1) % 2 : Nat) : Int) = 1 := by omega
        simp only [c32_l0, hE, h0', tm2, hb1, hb2, hb3, hol', hlz, hwp, hq3, hqa, hqb, h47x, hb4, hw1, hq1, hqt1.onex, hwy1, hc1, hc2, evX, Int.reduceEq, Int.reduceLT, Int.reduceLE, Nat.reduceMul, Nat.reduceMod, evW, fn_eq, evR, Nat.reduceAdd, Nat.reduceLT, Nat.reduceLeDiff, reduceIte, Nat.reduceEqDiff, reduceCtorEq, argEnv, eq_self, if_true, if_false]
        repeat' (first | (rw [guardK_cases]; split <;> simp only [c32_l0, hE, h0', tm2, hb1, hb2, hb3, hol', hlz, hwp, hq3, hqa, hqb, h47x, hb4, hw1, hq1, hqt1.onex, hwy1, hc1, hc2, evX, Int.reduceEq, Int.reduceLT, Int.reduceLE, Nat.reduceMul, Nat.reduceMod, evW, evR, Nat.reduceAdd, Nat.reduceLT, Nat.reduceLeDiff, reduceIte, Nat.reduceEqDiff, reduceCtorEq, argEnv, eq_self, if_true, if_false, *]) | (rw [condK_bool]; split <;> simp only [c32_l0, hE, h0', tm2, hb1, hb2, hb3, hol', hlz, hwp, hq3, hqa, hqb, h47x, hb4, hw1, hq1, hqt1.onex, hwy1, hc1, hc2, evX, Int.reduceEq, Int.reduceLT, Int.reduceLE, Nat.reduceMul, Nat.reduceMod, evW, evR, Nat.reduceAdd, Nat.reduceLT, Nat.reduceLeDiff, reduceIte, Nat.reduceEqDiff, reduceCtorEq, argEnv, eq_self, if_true, if_false, *]) | (rw [guardD_cases]; split <;> simp only [c32_l0, hE, h0', tm2, hb1, hb2, hb3, hol', hlz, hwp, hq3, hqa, hqb, h47x, hb4, hw1, hq1, hqt1.onex, hwy1, hc1, hc2, evX, Int.reduceEq, Int.reduceLT, Int.reduceLE, Nat.reduceMul, Nat.reduceMod, evW, evR, Nat.reduceAdd, Nat.reduceLT, Nat.reduceLeDiff, reduceIte, Nat.reduceEqDiff, reduceCtorEq, argEnv, eq_self, if_true, if_false, *]))
        refine q_ret ?_; simp only [hpl]; exact ⟨_, _, rfl, by rfl, by rfl⟩
      have hc2 : ¬ ((byte p (a + 1) % 2 : Nat) : Int) = 1 := by omega
      have h47 := fun H => f47 (a, byte p (a + 1)) (by show a < 1000000; omega) (by show byte p (a + 1) < 1000000; omega) H
      simp only [rPl] at h47
      by_cases e3 : 128 < a + byte p (a + 1)
      · have hpl := pl_bad' p (least := leastOf out) h0 (.inr (.inr e3))
        have hc3 : 128 < ((a + byte p (a + 1) : Nat) : Int) := by omega
        simp only [c32_l0, hE, h0', tm2, hb1, hb2, hb3, hol', hlz, hwp, hq3, hqa, hqb, h47x, hb4, hw1, hq1, hqt1.onex, hwy1, h47, hc1, hc2, hc3, evX, Int.reduceEq, Int.reduceLT, Int.reduceLE, Nat.reduceMul, Nat.reduceMod, evW, fn_eq, evR, Nat.reduceAdd, Nat.reduceLT, Nat.reduceLeDiff, reduceIte, Nat.reduceEqDiff, reduceCtorEq, argEnv, eq_self, if_true, if_false]
        repeat' (first | (rw [guardK_cases]; split <;> simp only [c32_l0, hE, h0', tm2, hb1, hb2, hb3, hol', hlz, hwp, hq3, hqa, hqb, h47x, hb4, hw1, hq1, hqt1.onex, hwy1, h47, hc1, hc2, hc3, evX, Int.reduceEq, Int.reduceLT, Int.reduceLE, Nat.reduceMul, Nat.reduceMod, evW, evR, Nat.reduceAdd, Nat.reduceLT, Nat.reduceLeDiff, reduceIte, Nat.reduceEqDiff, reduceCtorEq, argEnv, eq_self, if_true, if_false, *]) | (rw [condK_bool]; split <;> simp only [c32_l0, hE, h0', tm2, hb1, hb2, hb3, hol', hlz, hwp, hq3, hqa, hqb, h47x, hb4, hw1, hq1, hqt1.onex, hwy1, h47, hc1, hc2, hc3, evX, Int.reduceEq, Int.reduceLT, Int.reduceLE, Nat.reduceMul, Nat.reduceMod, evW, evR, Nat.reduceAdd, Nat.reduceLT, Nat.reduceLeDiff, reduceIte, Nat.reduceEqDiff, reduceCtorEq, argEnv, eq_self, if_true, if_false, *]) | (rw [guardD_cases]; split <;> simp only [c32_l0, hE, h0', tm2, hb1, hb2, hb3, hol', hlz, hwp, hq3, hqa, hqb, h47x, hb4, hw1, hq1, hqt1.onex, hwy1, h47, hc1, hc2, hc3, evX, Int.reduceEq, Int.reduceLT, Int.reduceLE, Nat.reduceMul, Nat.reduceMod, evW, evR, Nat.reduceAdd, Nat.reduceLT, Nat.reduceLeDiff, reduceIte, Nat.reduceEqDiff, reduceCtorEq, argEnv, eq_self, if_true, if_false, *]))
        refine q_ret ?_; simp only [hpl]; exact ⟨_, _, rfl, by rfl, by rfl⟩
      have hc3 : ¬ (128 < ((a + byte p (a + 1) : Nat) : Int)) := by omega
      have hpl := pl_next p (least := leastOf out) h0 (by omega) (by omega)
      have hap := fun Y v => out_app (hO.more Y) 16 H rfl v
      have hbnd : ((out.map rPl).length + 1) * 16 ≤ reach ∧ (out.map rPl).length + 1 ≤ reach := by simp only [List.length_map, reach]; omega
      have hl2 : leastOf (out ++ [(a, byte p (a + 1))]) = a + byte p (a + 1) + 1 := by simp [leastOf]
      simp only [c32_l0, hE, h0', tm2, hb1, hb2, hb3, hol', hlz, hwp, hq3, hqa, hqb, h47x, hb4, hw1, hq1, hqt1.onex, hwy1, h47, hc1, hc2, hc3, hap, src_ref, hbnd, hq2, hqt2.onex, hwy2, evX, Int.reduceEq, Int.reduceLT, Int.reduceLE, Nat.reduceMul, Nat.reduceMod, evW, fn_eq, evR, Nat.reduceAdd, Nat.reduceLT, Nat.reduceLeDiff, reduceIte, Nat.reduceEqDiff, reduceCtorEq, argEnv, eq_self, if_true, if_false]
      repeat' (first | (rw [guardK_cases]; split <;> simp only [c32_l0, hE, h0', tm2, hb1, hb2, hb3, hol', hlz, hwp, hq3, hqa, hqb, h47x, hb4, hw1, hq1, hqt1.onex, hwy1, h47, hc1, hc2, hc3, hap, src_ref, hbnd, hq2, hqt2.onex, hwy2, evX, Int.reduceEq, Int.reduceLT, Int.reduceLE, Nat.reduceMul, Nat.reduceMod, evW, evR, Nat.reduceAdd, Nat.reduceLT, Nat.reduceLeDiff, reduceIte, Nat.reduceEqDiff, reduceCtorEq, argEnv, eq_self, if_true, if_false, *]) | (rw [condK_bool]; split <;> simp only [c32_l0, hE, h0', tm2, hb1, hb2, hb3, hol', hlz, hwp, hq3, hqa, hqb, h47x, hb4, hw1, hq1, hqt1.onex, hwy1, h47, hc1, hc2, hc3, hap, src_ref, hbnd, hq2, hqt2.onex, hwy2, evX, Int.reduceEq, Int.reduceLT, Int.reduceLE, Nat.reduceMul, Nat.reduceMod, evW, evR, Nat.reduceAdd, Nat.reduceLT, Nat.reduceLeDiff, reduceIte, Nat.reduceEqDiff, reduceCtorEq, argEnv, eq_self, if_true, if_false, *]) | (rw [guardD_cases]; split <;> simp only [c32_l0, hE, h0', tm2, hb1, hb2, hb3, hol', hlz, hwp, hq3, hqa, hqb, h47x, hb4, hw1, hq1, hqt1.onex, hwy1, h47, hc1, hc2, hc3, hap, src_ref, hbnd, hq2, hqt2.onex, hwy2, evX, Int.reduceEq, Int.reduceLT, Int.reduceLE, Nat.reduceMul, Nat.reduceMod, evW, evR, Nat.reduceAdd, Nat.reduceLT, Nat.reduceLeDiff, reduceIte, Nat.reduceEqDiff, reduceCtorEq, argEnv, eq_self, if_true, if_false, *]))
      refine q_next (out ++ [(a, byte p (a + 1))], byte p a, _, _) (by rfl) rfl ⟨hy2, ?_, ?_, by rw [List.map_append]; exact (hO.more _).step (by simp), ?_⟩ ?_ fun r h => ?_
      · rw [List.length_append, List.length_singleton]; omega
      · intro x hx
        rcases List.mem_append.1 hx with hx | hx
        · exact hob x hx
        · simp at hx; subst hx; exact ⟨⟨by show a < 128; omega, hy1⟩, by show 1 ≤ a; omega⟩
      · simp only [hl2, List.length_append, List.length_singleton]; omega
      · simp only [hl2]; omega
      · rw [hpl]
        rw [hl2] at h
        cases hq : pl p (byte p a) (a + byte p (a + 1) + 1) with
        | none => rw [hq] at h; exact h
        | some l => rw [hq] at h; simpa using h
theorem f32 (p : List Nat) (hp : Page p) (H : Heap) : ∃ rv X, evFn (evC cprog) itLim c32 [eB p] H = some (.tup [rv, .bool (plAns p).2], H ++ X) ∧ Out H.length 2 55 X rv ((plAns p).1.map rPl) := by
  have h4 := (sB H p).len
  simp only [List.length_map] at h4
  by_cases h128 : p.length = 128
  · have hl1 : ((p.length : Nat) : Int) = 128 := by omega
    obtain ⟨q0, hq0, hqt0⟩ := getB H p (i := 0) (by omega)
    obtain ⟨q1, hq1, hqt1⟩ := getB H p (i := 1) (by omega)
    have hq0 : iaddrK 1 (some (eB p)) (some (.int .i64 0)) = some q0 := hq0
    have hq1 : iaddrK 1 (some (eB p)) (some (.int .i64 1)) = some q1 := hq1
    simp only [rB] at hqt0 hqt1
    by_cases h83 : byte p 1 = 83
    · have h83' : ((byte p 1 : Nat) : Int) = 83 := by omega
      have hlp := l32 p hp h128 H (byte p 0) (hp.byte 0)
      have hw := wrapN (byte p 0) (by have := hp.byte 0; omega)
      simp only [c32, h4, hl1, hq0, hq1, hqt0.one, hqt1.one, h83', hw, evX, Int.reduceEq, Int.reduceLT, Int.reduceLE, Nat.reduceMul, Nat.reduceMod, evW, fn_eq, evR, Nat.reduceAdd, Nat.reduceLT, Nat.reduceLeDiff, reduceIte, Nat.reduceEqDiff, reduceCtorEq, argEnv, eq_self, if_true, if_false]
      repeat' (first | (rw [guardK_cases]; split <;> simp only [c32, h4, hl1, hq0, hq1, hqt0.one, hqt1.one, h83', hw, evX, Int.reduceEq, Int.reduceLT, Int.reduceLE, Nat.reduceMul, Nat.reduceMod, evW, evR, Nat.reduceAdd, Nat.reduceLT, Nat.reduceLeDiff, reduceIte, Nat.reduceEqDiff, reduceCtorEq, argEnv, eq_self, if_true, if_false, *]) | (rw [condK_bool]; split <;> simp only [c32, h4, hl1, hq0, hq1, hqt0.one, hqt1.one, h83', hw, evX, Int.reduceEq, Int.reduceLT, Int.reduceLE, Nat.reduceMul, Nat.reduceMod, evW, evR, Nat.reduceAdd, Nat.reduceLT, Nat.reduceLeDiff, reduceIte, Nat.reduceEqDiff, reduceCtorEq, argEnv, eq_self, if_true, if_false, *]) | (rw [guardD_cases]; split <;> simp only [c32, h4, hl1, hq0, hq1, hqt0.one, hqt1.one, h83', hw, evX, Int.reduceEq, Int.reduceLT, Int.reduceLE, Nat.reduceMul, Nat.reduceMod, evW, evR, Nat.reduceAdd, Nat.reduceLT, Nat.reduceLeDiff, reduceIte, Nat.reduceEqDiff, reduceCtorEq, argEnv, eq_self, if_true, if_false, *]))
      generalize hz : itLim _ _ = z
      obtain ⟨T, X, h⟩ := hlp _ (by rfl) rfl z hz
      cases hq : pl p (byte p 0) 2 with
      | some l =>
        have ha : plAns p = (l, true) := by simp [plAns, plOf, h128, h83, hq]
        rw [hq] at h
        obtain ⟨rfl, rv, hT, hO⟩ := h
        rw [ha]
        simp only [hT, out_tup hO, evX, Int.reduceEq, Int.reduceLT, Int.reduceLE, Nat.reduceMul, Nat.reduceMod, evW, fn_eq, evR, Nat.reduceAdd, Nat.reduceLT, Nat.reduceLeDiff, reduceIte, Nat.reduceEqDiff, reduceCtorEq, argEnv, eq_self, if_true, if_false]
        repeat' (first | (rw [guardK_cases]; split <;> simp only [hT, out_tup hO, evX, Int.reduceEq, Int.reduceLT, Int.reduceLE, Nat.reduceMul, Nat.reduceMod, evW, evR, Nat.reduceAdd, Nat.reduceLT, Nat.reduceLeDiff, reduceIte, Nat.reduceEqDiff, reduceCtorEq, argEnv, eq_self, if_true, if_false, *]) | (rw [condK_bool]; split <;> simp only [hT, out_tup hO, evX, Int.reduceEq, Int.reduceLT, Int.reduceLE, Nat.reduceMul, Nat.reduceMod, evW, evR, Nat.reduceAdd, Nat.reduceLT, Nat.reduceLeDiff, reduceIte, Nat.reduceEqDiff, reduceCtorEq, argEnv, eq_self, if_true, if_false, *]) | (rw [guardD_cases]; split <;> simp only [hT, out_tup hO, evX, Int.reduceEq, Int.reduceLT, Int.reduceLE, Nat.reduceMul, Nat.reduceMod, evW, evR, Nat.reduceAdd, Nat.reduceLT, Nat.reduceLeDiff, reduceIte, Nat.reduceEqDiff, reduceCtorEq, argEnv, eq_self, if_true, if_false, *]))
        exact ⟨rv, X, rfl, hO⟩
      | none =>
        have ha : plAns p = ([], false) := by simp [plAns, plOf, hq]
        rw [hq] at h
        obtain ⟨rfl, hT1, hT2⟩ := h
        rw [ha]
        simp only [hT1, hT2, evX, Int.reduceEq, Int.reduceLT, Int.reduceLE, Nat.reduceMul, Nat.reduceMod, evW, fn_eq, evR, Nat.reduceAdd, Nat.reduceLT, Nat.reduceLeDiff, reduceIte, Nat.reduceEqDiff, reduceCtorEq, argEnv, eq_self, if_true, if_false]
        repeat' (first | (rw [guardK_cases]; split <;> simp only [hT1, hT2, evX, Int.reduceEq, Int.reduceLT, Int.reduceLE, Nat.reduceMul, Nat.reduceMod, evW, evR, Nat.reduceAdd, Nat.reduceLT, Nat.reduceLeDiff, reduceIte, Nat.reduceEqDiff, reduceCtorEq, argEnv, eq_self, if_true, if_false, *]) | (rw [condK_bool]; split <;> simp only [hT1, hT2, evX, Int.reduceEq, Int.reduceLT, Int.reduceLE, Nat.reduceMul, Nat.reduceMod, evW, evR, Nat.reduceAdd, Nat.reduceLT, Nat.reduceLeDiff, reduceIte, Nat.reduceEqDiff, reduceCtorEq, argEnv, eq_self, if_true, if_false, *]) | (rw [guardD_cases]; split <;> simp only [hT1, hT2, evX, Int.reduceEq, Int.reduceLT, Int.reduceLE, Nat.reduceMul, Nat.reduceMod, evW, evR, Nat.reduceAdd, Nat.reduceLT, Nat.reduceLeDiff, reduceIte, Nat.reduceEqDiff, reduceCtorEq, argEnv, eq_self, if_true, if_false, *]))
        exact ⟨.nils, X, rfl, .nils ..⟩
    · have h83' : ¬ ((byte p 1 : Nat) : Int) = 83 := by omega
      have ha : plAns p = ([], false) := by simp [plAns, plOf, h83]
      rw [ha]
      simp only [c32, h4, hl1, hq1, hqt1.one, h83', evX, Int.reduceEq, Int.reduceLT, Int.reduceLE, Nat.reduceMul, Nat.reduceMod, evW, fn_eq, evR, Nat.reduceAdd, Nat.reduceLT, Nat.reduceLeDiff, reduceIte, Nat.reduceEqDiff, reduceCtorEq, argEnv, eq_self, if_true, if_false]
      repeat' (first | (rw [guardK_cases]; split <;> simp only [c32, h4, hl1, hq1, hqt1.one, h83', evX, Int.reduceEq, Int.reduceLT, Int.reduceLE, Nat.reduceMul, Nat.reduceMod, evW, evR, Nat.reduceAdd, Nat.reduceLT, Nat.reduceLeDiff, reduceIte, Nat.reduceEqDiff, reduceCtorEq, argEnv, eq_self, if_true, if_false, *]) | (rw [condK_bool]; split <;> simp only [c32, h4, hl1, hq1, hqt1.one, h83', evX, Int.reduceEq, Int.reduceLT, Int.reduceLE, Nat.reduceMul, Nat.reduceMod, evW, evR, Nat.reduceAdd, Nat.reduceLT, Nat.reduceLeDiff, reduceIte, Nat.reduceEqDiff, reduceCtorEq, argEnv, eq_self, if_true, if_false, *]) | (rw [guardD_cases]; split <;> simp only [c32, h4, hl1, hq1, hqt1.one, h83', evX, Int.reduceEq, Int.reduceLT, Int.reduceLE, Nat.reduceMul, Nat.reduceMod, evW, evR, Nat.reduceAdd, Nat.reduceLT, Nat.reduceLeDiff, reduceIte, Nat.reduceEqDiff, reduceCtorEq, argEnv, eq_self, if_true, if_false, *]))
      exact ⟨.nils, [], by simp, .nils ..⟩
  · have hl1 : ¬ ((p.length : Nat) : Int) = 128 := by omega
    have ha : plAns p = ([], false) := by simp [plAns, plOf, h128]
    rw [ha]
    simp only [c32, h4, hl1, evX, Int.reduceEq, Int.reduceLT, Int.reduceLE, Nat.reduceMul, Nat.reduceMod, evW, fn_eq, evR, Nat.reduceAdd, Nat.reduceLT, Nat.reduceLeDiff, reduceIte, Nat.reduceEqDiff, reduceCtorEq, argEnv, eq_self, if_true, if_false]
    repeat' (first | (rw [guardK_cases]; split <;> simp only [c32, h4, hl1, evX, Int.reduceEq, Int.reduceLT, Int.reduceLE, Nat.reduceMul, Nat.reduceMod, evW, evR, Nat.reduceAdd, Nat.reduceLT, Nat.reduceLeDiff, reduceIte, Nat.reduceEqDiff, reduceCtorEq, argEnv, eq_self, if_true, if_false, *]) | (rw [condK_bool]; split <;> simp only [c32, h4, hl1, evX, Int.reduceEq, Int.reduceLT, Int.reduceLE, Nat.reduceMul, Nat.reduceMod, evW, evR, Nat.reduceAdd, Nat.reduceLT, Nat.reduceLeDiff, reduceIte, Nat.reduceEqDiff, reduceCtorEq, argEnv, eq_self, if_true, if_false, *]) | (rw [guardD_cases]; split <;> simp only [c32, h4, hl1, evX, Int.reduceEq, Int.reduceLT, Int.reduceLE, Nat.reduceMul, Nat.reduceMod, evW, evR, Nat.reduceAdd, Nat.reduceLT, Nat.reduceLeDiff, reduceIte, Nat.reduceEqDiff, reduceCtorEq, argEnv, eq_self, if_true, if_false, *]))
    exact ⟨.nils, [], by simp, .nils ..⟩
/-- the reading, frozen -/
theorem f32F (p : List Nat) (hp : Page p) (H : Heap) : cal (evC cprog) true 32 [eB p] H = some (.tup [ePl (plAns p).1, .bool (plAns p).2], H) := by
  obtain ⟨rv, X, h, hO⟩ := f32 p hp H
  rw [cal_of at32, h]
  exact fz_plsB hO _
end Go.Proofs.Ythgcnlmmgilhjaa.Code
