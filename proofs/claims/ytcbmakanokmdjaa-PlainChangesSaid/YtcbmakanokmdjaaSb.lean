/- plain: what is asked of bases, forests and places; parents, depths and ends. -/
import Derived.Test.YtcbmakanokmdjaaSa
set_option linter.unusedSimpArgs false
set_option linter.unusedVariables false
namespace Go.Proofs.Ytcbmakanokmdjaa.Code
open Go.Proofs.Ytcbmakanokmdjaa.Ev

def outOf (f : List Item) (i : Int) : Bool := decide (i < 0) || decide ((f.length : Int) ≤ i)
noncomputable def errF (b : Base) (f : List Item) (l : List Int) : Int := if validB b = true then (if forestOk b.types f = true then (if l.any (outOf f) = true then 2 else 0) else 120) else 100
theorem slI {H : Heap} {a : AV} {l : List Int} (h : SlAt H 1 a (l.map rI)) {i : Nat} {n : Int} (hi : l[i]? = some n) : ∃ p, iaddrK 1 (some a) (some (.int .i64 (i : Int))) = some p ∧ ∀ X, loadK false 1 (H ++ X) (some p) = some (.int .i64 n) := by
  obtain ⟨_, p, h1, h2⟩ := h.get i (rI n) (by rw [List.getElem?_map, hi]; rfl)
  exact ⟨p, h1, fun X => h2.onex X⟩
theorem f66 (f : List Item) (i : Int) (b1 : Nat) (H : Heap) (h1 : Sits H b1 (bItems f)) : cal (evC cprog) false 66 [.int .i64 i, .ptr b1 0 1 0 0] H = some (.bool (outOf f i), H) := by
  rw [cal_of at66]
  have hlen := (sItems [] f).len
  simp only [List.length_map] at hlen
  have g1 := h1.at
  simp only [bItems] at g1
  simp only [c66, hlen, g1, evX, Int.reduceEq, Int.reduceLT, Int.reduceLE, Nat.reduceMul, Nat.reduceMod, evW, fn_eq, evR, Nat.reduceAdd, Nat.reduceLT, Nat.reduceLeDiff, reduceIte, Nat.reduceEqDiff, reduceCtorEq, argEnv, eq_self, if_true, if_false]
  repeat' ((first | rw [guardK_cases] | rw [condK_bool] | rw [guardD_cases]); split <;> simp only [c66, hlen, g1, evX, Int.reduceEq, Int.reduceLT, Int.reduceLE, Nat.reduceMul, Nat.reduceMod, evW, evR, Nat.reduceAdd, Nat.reduceLT, Nat.reduceLeDiff, reduceIte, Nat.reduceEqDiff, reduceCtorEq, argEnv, eq_self, if_true, if_false, *])
  all_goals (simp_all [outOf]; try omega)
theorem f37 (b : Base) (hb : b.Ok) (f : List Item) (a : AV) (hat : a.isTup = false) (l : List Int) (hl : l.length < 9223372036854775807) (H : Heap) (ha : SlAt H 1 a (l.map rI)) : cal (evC cprog) false 37 [eBase b, eItems f, a] H = some (.int .i64 (errF b f l), H) := by
  rw [cal_of at37]
  have h1 := f32 b hb
  simp only [eBase] at h1
  cases hv : validB b with
  | false =>
    simp only [c37, eBase, cells_eItems, isTup_eItems, h1, hv, evX, Int.reduceEq, Int.reduceLT, Int.reduceLE, Nat.reduceMul, Nat.reduceMod, evW, fn_eq, evR, Nat.reduceAdd, Nat.reduceLT, Nat.reduceLeDiff, reduceIte, Nat.reduceEqDiff, reduceCtorEq, argEnv, eq_self, if_true, if_false]
    repeat' ((first | rw [guardK_cases] | rw [condK_bool] | rw [guardD_cases]); split <;> simp only [c37, eBase, cells_eItems, isTup_eItems, h1, hv, evX, Int.reduceEq, Int.reduceLT, Int.reduceLE, Nat.reduceMul, Nat.reduceMod, evW, evR, Nat.reduceAdd, Nat.reduceLT, Nat.reduceLeDiff, reduceIte, Nat.reduceEqDiff, reduceCtorEq, argEnv, eq_self, if_true, if_false, *])
    simp [errF, hv]
  | true =>
    have h2 := f33 b (valid_tys hv) f
    simp only [eBase] at h2
    cases hf : forestOk b.types f with
    | false =>
      simp only [c37, eBase, cells_eItems, isTup_eItems, h1, hv, h2, hf, evX, Int.reduceEq, Int.reduceLT, Int.reduceLE, Nat.reduceMul, Nat.reduceMod, evW, fn_eq, evR, Nat.reduceAdd, Nat.reduceLT, Nat.reduceLeDiff, reduceIte, Nat.reduceEqDiff, reduceCtorEq, argEnv, eq_self, if_true, if_false]
      repeat' ((first | rw [guardK_cases] | rw [condK_bool] | rw [guardD_cases]); split <;> simp only [c37, eBase, cells_eItems, isTup_eItems, h1, hv, h2, hf, evX, Int.reduceEq, Int.reduceLT, Int.reduceLE, Nat.reduceMul, Nat.reduceMod, evW, evR, Nat.reduceAdd, Nat.reduceLT, Nat.reduceLeDiff, reduceIte, Nat.reduceEqDiff, reduceCtorEq, argEnv, eq_self, if_true, if_false, *])
      simp [errF, hv, hf]
    | true =>
      have h65 := containsFunc_ok (g := 57) at65 (indexFunc_ok (sz := 1) (ag := false) at57 rI (fun x => .int .i64 x) lI 66 [.ptr (H.length + 1) 0 1 0 0] (outOf f) (H ++ [bBase b, bItems f]) a l (ha.app _) hl fun x _ => f66 f x (H.length + 1) _ (.mk (by simp)))
      simp only [bBase, bItems] at h65
      cases hc : l.any (outOf f) with
      | false =>
        simp only [c37, eBase, cells_eItems, isTup_eItems, h1, hv, h2, hf, h65, hc, scal_ptr, hat, evX, Int.reduceEq, Int.reduceLT, Int.reduceLE, Nat.reduceMul, Nat.reduceMod, evW, fn_eq, evR, Nat.reduceAdd, Nat.reduceLT, Nat.reduceLeDiff, reduceIte, Nat.reduceEqDiff, reduceCtorEq, argEnv, eq_self, if_true, if_false]
        repeat' ((first | rw [guardK_cases] | rw [condK_bool] | rw [guardD_cases]); split <;> simp only [c37, eBase, cells_eItems, isTup_eItems, h1, hv, h2, hf, h65, hc, scal_ptr, hat, evX, Int.reduceEq, Int.reduceLT, Int.reduceLE, Nat.reduceMul, Nat.reduceMod, evW, evR, Nat.reduceAdd, Nat.reduceLT, Nat.reduceLeDiff, reduceIte, Nat.reduceEqDiff, reduceCtorEq, argEnv, eq_self, if_true, if_false, *])
        simp [errF, hv, hf, hc]
      | true =>
        simp only [c37, eBase, cells_eItems, isTup_eItems, h1, hv, h2, hf, h65, hc, scal_ptr, hat, evX, Int.reduceEq, Int.reduceLT, Int.reduceLE, Nat.reduceMul, Nat.reduceMod, evW, fn_eq, evR, Nat.reduceAdd, Nat.reduceLT, Nat.reduceLeDiff, reduceIte, Nat.reduceEqDiff, reduceCtorEq, argEnv, eq_self, if_true, if_false]
        repeat' ((first | rw [guardK_cases] | rw [condK_bool] | rw [guardD_cases]); split <;> simp only [c37, eBase, cells_eItems, isTup_eItems, h1, hv, h2, hf, h65, hc, scal_ptr, hat, evX, Int.reduceEq, Int.reduceLT, Int.reduceLE, Nat.reduceMul, Nat.reduceMod, evW, evR, Nat.reduceAdd, Nat.reduceLT, Nat.reduceLeDiff, reduceIte, Nat.reduceEqDiff, reduceCtorEq, argEnv, eq_self, if_true, if_false, *])
        simp [errF, hv, hf, hc]
theorem f22 (b : Base) (hb : b.Ok) (f : List Item) (hfl : f.length < 9223372036854775807) (a : AV) (l : List Int) (hl : l.length < 9223372036854775807) (H : Heap) (ha : SlAt H 1 a (l.map rI)) : cal (evC cprog) false 22 [eBase b, eItems f, a] H = some (.int .i64 (errF b f l), H) := by
  rw [cal_of at22]
  have h1 := f34 b hb
  simp only [eBase] at h1
  have hlen := (sItems [] f).len
  have hlen' := ha.len
  simp only [List.length_map] at hlen hlen'
  cases hv : validB b with
  | false =>
    simp only [c22, eBase, h1, hv, evX, Int.reduceEq, Int.reduceLT, Int.reduceLE, Nat.reduceMul, Nat.reduceMod, evW, fn_eq, evR, Nat.reduceAdd, Nat.reduceLT, Nat.reduceLeDiff, reduceIte, Nat.reduceEqDiff, reduceCtorEq, argEnv, eq_self, if_true, if_false]
    repeat' ((first | rw [guardK_cases] | rw [condK_bool] | rw [guardD_cases]); split <;> simp only [c22, eBase, h1, hv, evX, Int.reduceEq, Int.reduceLT, Int.reduceLE, Nat.reduceMul, Nat.reduceMod, evW, evR, Nat.reduceAdd, Nat.reduceLT, Nat.reduceLeDiff, reduceIte, Nat.reduceEqDiff, reduceCtorEq, argEnv, eq_self, if_true, if_false, *])
    simp [errF, hv]
  | true =>
    have h2 := f35 b (valid_tys hv) f
    simp only [eBase] at h2
    cases hf : forestOk b.types f with
    | false =>
      simp only [c22, eBase, h1, hv, h2, hf, evX, Int.reduceEq, Int.reduceLT, Int.reduceLE, Nat.reduceMul, Nat.reduceMod, evW, fn_eq, evR, Nat.reduceAdd, Nat.reduceLT, Nat.reduceLeDiff, reduceIte, Nat.reduceEqDiff, reduceCtorEq, argEnv, eq_self, if_true, if_false]
      repeat' ((first | rw [guardK_cases] | rw [condK_bool] | rw [guardD_cases]); split <;> simp only [c22, eBase, h1, hv, h2, hf, evX, Int.reduceEq, Int.reduceLT, Int.reduceLE, Nat.reduceMul, Nat.reduceMod, evW, evR, Nat.reduceAdd, Nat.reduceLT, Nat.reduceLeDiff, reduceIte, Nat.reduceEqDiff, reduceCtorEq, argEnv, eq_self, if_true, if_false, *])
      simp [errF, hv, hf]
    | true =>
      simp only [c22, eBase, h1, hv, h2, hf, evX, Int.reduceEq, Int.reduceLT, Int.reduceLE, Nat.reduceMul, Nat.reduceMod, evW, fn_eq, evR, Nat.reduceAdd, Nat.reduceLT, Nat.reduceLeDiff, reduceIte, Nat.reduceEqDiff, reduceCtorEq, argEnv, eq_self, if_true, if_false]
      repeat' ((first | rw [guardK_cases] | rw [condK_bool] | rw [guardD_cases]); split <;> simp only [c22, eBase, h1, hv, h2, hf, evX, Int.reduceEq, Int.reduceLT, Int.reduceLE, Nat.reduceMul, Nat.reduceMod, evW, evR, Nat.reduceAdd, Nat.reduceLT, Nat.reduceLeDiff, reduceIte, Nat.reduceEqDiff, reduceCtorEq, argEnv, eq_self, if_true, if_false, *])
      generalize hz : itLim _ _ = z
      have L := all_rule l (fun i => !outOf f i) [1, 2, 7] (fun i => [(1, eItems f), (2, a), (7, .int .i64 (i : Int))]) H [bBase b] (evCode (evC cprog) itLim c22_l0) (fun c T => c = .exit 1) (fun c T => c = .ret ∧ get T 6 = some (.int .i64 2))
        (fun i x hx E G hE => by
          have hlt : i < l.length := (List.getElem?_eq_some_iff.1 hx).1
          have hi : (i : Int) < (l.length : Int) := by omega
          obtain ⟨p, g1, g2⟩ := slI ha hx
          have hw := wrapS hlt hl
          by_cases n1 : x < 0
          · simp only [c22_l0, hE, hi, hlen', g1, g2, n1, evX, Int.reduceEq, Int.reduceLT, Int.reduceLE, Nat.reduceMul, Nat.reduceMod, evW, fn_eq, evR, Nat.reduceAdd, Nat.reduceLT, Nat.reduceLeDiff, reduceIte, Nat.reduceEqDiff, reduceCtorEq, argEnv, eq_self, if_true, if_false]
            repeat' ((first | rw [guardK_cases] | rw [condK_bool] | rw [guardD_cases]); split <;> simp only [c22_l0, hE, hi, hlen', g1, g2, n1, evX, Int.reduceEq, Int.reduceLT, Int.reduceLE, Nat.reduceMul, Nat.reduceMod, evW, evR, Nat.reduceAdd, Nat.reduceLT, Nat.reduceLeDiff, reduceIte, Nat.reduceEqDiff, reduceCtorEq, argEnv, eq_self, if_true, if_false, *])
            exact Sc.ret (by simp [outOf, n1]) ⟨rfl, rfl⟩
          by_cases n2 : (f.length : Int) ≤ x
          · simp only [c22_l0, hE, hi, hlen', hlen, g1, g2, n1, n2, evX, Int.reduceEq, Int.reduceLT, Int.reduceLE, Nat.reduceMul, Nat.reduceMod, evW, fn_eq, evR, Nat.reduceAdd, Nat.reduceLT, Nat.reduceLeDiff, reduceIte, Nat.reduceEqDiff, reduceCtorEq, argEnv, eq_self, if_true, if_false]
            repeat' ((first | rw [guardK_cases] | rw [condK_bool] | rw [guardD_cases]); split <;> simp only [c22_l0, hE, hi, hlen', hlen, g1, g2, n1, n2, evX, Int.reduceEq, Int.reduceLT, Int.reduceLE, Nat.reduceMul, Nat.reduceMod, evW, evR, Nat.reduceAdd, Nat.reduceLT, Nat.reduceLeDiff, reduceIte, Nat.reduceEqDiff, reduceCtorEq, argEnv, eq_self, if_true, if_false, *])
            exact Sc.ret (by simp [outOf, n2]) ⟨rfl, rfl⟩
          · simp only [c22_l0, hE, hi, hlen', hlen, g1, g2, n1, n2, hw, evX, Int.reduceEq, Int.reduceLT, Int.reduceLE, Nat.reduceMul, Nat.reduceMod, evW, fn_eq, evR, Nat.reduceAdd, Nat.reduceLT, Nat.reduceLeDiff, reduceIte, Nat.reduceEqDiff, reduceCtorEq, argEnv, eq_self, if_true, if_false]
            repeat' ((first | rw [guardK_cases] | rw [condK_bool] | rw [guardD_cases]); split <;> simp only [c22_l0, hE, hi, hlen', hlen, g1, g2, n1, n2, hw, evX, Int.reduceEq, Int.reduceLT, Int.reduceLE, Nat.reduceMul, Nat.reduceMod, evW, evR, Nat.reduceAdd, Nat.reduceLT, Nat.reduceLeDiff, reduceIte, Nat.reduceEqDiff, reduceCtorEq, argEnv, eq_self, if_true, if_false, *])
            exact Sc.next (by simp [outOf]; omega) (by rfl))
        (fun E G hE => by
          simp only [c22_l0, hE, hlen', Int.lt_irrefl, evX, Int.reduceEq, Int.reduceLT, Int.reduceLE, Nat.reduceMul, Nat.reduceMod, evW, fn_eq, evR, Nat.reduceAdd, Nat.reduceLT, Nat.reduceLeDiff, reduceIte, Nat.reduceEqDiff, reduceCtorEq, argEnv, eq_self, if_true, if_false]
          repeat' ((first | rw [guardK_cases] | rw [condK_bool] | rw [guardD_cases]); split <;> simp only [c22_l0, hE, hlen', Int.lt_irrefl, evX, Int.reduceEq, Int.reduceLT, Int.reduceLE, Nat.reduceMul, Nat.reduceMod, evW, evR, Nat.reduceAdd, Nat.reduceLT, Nat.reduceLeDiff, reduceIte, Nat.reduceEqDiff, reduceCtorEq, argEnv, eq_self, if_true, if_false, *])
          exact .exit (K := [bBase b]) rfl) _ [] (by rfl) (by simp [bBase]) z hz
      rcases L with ⟨ha, c, T, G, rfl, _, rfl⟩ | ⟨ha, c, T, G, rfl, _, rfl, hT⟩
      · simp only [evX, Int.reduceEq, Int.reduceLT, Int.reduceLE, Nat.reduceMul, Nat.reduceMod, evW, fn_eq, evR, Nat.reduceAdd, Nat.reduceLT, Nat.reduceLeDiff, reduceIte, Nat.reduceEqDiff, reduceCtorEq, argEnv, eq_self, if_true, if_false]
        repeat' ((first | rw [guardK_cases] | rw [condK_bool] | rw [guardD_cases]); split <;> simp only [evX, Int.reduceEq, Int.reduceLT, Int.reduceLE, Nat.reduceMul, Nat.reduceMod, evW, evR, Nat.reduceAdd, Nat.reduceLT, Nat.reduceLeDiff, reduceIte, Nat.reduceEqDiff, reduceCtorEq, argEnv, eq_self, if_true, if_false, *])
        have : l.any (outOf f) = false := by rw [List.any_eq_false]; intro x hx; have := List.all_eq_true.1 ha x hx; simpa using this
        simp [errF, hv, hf, this]
      · simp only [hT, evX, Int.reduceEq, Int.reduceLT, Int.reduceLE, Nat.reduceMul, Nat.reduceMod, evW, fn_eq, evR, Nat.reduceAdd, Nat.reduceLT, Nat.reduceLeDiff, reduceIte, Nat.reduceEqDiff, reduceCtorEq, argEnv, eq_self, if_true, if_false]
        repeat' ((first | rw [guardK_cases] | rw [condK_bool] | rw [guardD_cases]); split <;> simp only [hT, evX, Int.reduceEq, Int.reduceLT, Int.reduceLE, Nat.reduceMul, Nat.reduceMod, evW, evR, Nat.reduceAdd, Nat.reduceLT, Nat.reduceLeDiff, reduceIte, Nat.reduceEqDiff, reduceCtorEq, argEnv, eq_self, if_true, if_false, *])
        have : l.any (outOf f) = true := by
          obtain ⟨x, hx, h⟩ := List.all_eq_false.1 ha
          rw [List.any_eq_true]; exact ⟨x, hx, by simpa using h⟩
        simp [errF, hv, hf, this]
theorem f53 (b : Base) (f : List Item) (hr : Right b f) (i : Nat) (hi : i < f.length) (H : Heap) : cal (evC cprog) false 53 [eBase b, eItems f, .int .i64 (i : Int)] H = some (.int .i64 (par b.types f i), H) := by
  rw [cal_of at53]
  obtain ⟨x, k, t, hx, hk, hkl, ht, _⟩ := hr.item hi
  have ha := aItem hx
  have hat := aTy ht
  rw [← hk] at hat
  have hl := hr.len
  rcases hr.par hx hk ht with ⟨h1, h2, _⟩ | ⟨p, h1, h2, h3, h4, h5, h6⟩
  · rw [h2]
    simp only [c53, eBase, ha, hat, rItem, rTy, h1, evX, Int.reduceEq, Int.reduceLT, Int.reduceLE, Nat.reduceMul, Nat.reduceMod, evW, fn_eq, evR, Nat.reduceAdd, Nat.reduceLT, Nat.reduceLeDiff, reduceIte, Nat.reduceEqDiff, reduceCtorEq, argEnv, eq_self, if_true, if_false]
    repeat' ((first | rw [guardK_cases] | rw [condK_bool] | rw [guardD_cases]); split <;> simp only [c53, eBase, ha, hat, rItem, rTy, h1, evX, Int.reduceEq, Int.reduceLT, Int.reduceLE, Nat.reduceMul, Nat.reduceMod, evW, evR, Nat.reduceAdd, Nat.reduceLT, Nat.reduceLeDiff, reduceIte, Nat.reduceEqDiff, reduceCtorEq, argEnv, eq_self, if_true, if_false, *])
  · rw [h1]
    have n0 : ¬ t.parent < 0 := by omega
    have hw : IntKind.i64.wrap ((i : Int) - 1) = (i : Int) - 1 := wrap_i64 (by omega) (by omega)
    simp only [c53, eBase, ha, hat, rItem, rTy, n0, hw, evX, Int.reduceEq, Int.reduceLT, Int.reduceLE, Nat.reduceMul, Nat.reduceMod, evW, fn_eq, evR, Nat.reduceAdd, Nat.reduceLT, Nat.reduceLeDiff, reduceIte, Nat.reduceEqDiff, reduceCtorEq, argEnv, eq_self, if_true, if_false]
    repeat' ((first | rw [guardK_cases] | rw [condK_bool] | rw [guardD_cases]); split <;> simp only [c53, eBase, ha, hat, rItem, rTy, n0, hw, evX, Int.reduceEq, Int.reduceLT, Int.reduceLE, Nat.reduceMul, Nat.reduceMod, evW, evR, Nat.reduceAdd, Nat.reduceLT, Nat.reduceLeDiff, reduceIte, Nat.reduceEqDiff, reduceCtorEq, argEnv, eq_self, if_true, if_false, *])
    generalize hz : itLim _ _ = z
    have hlast : lastTo f t.parent i = (p : Int) := by
      have e : par b.types f i = lastTo f t.parent i := by unfold par; rw [typ_at hx, hk, tpar_at ht, if_neg n0]
      rw [← e, h1]
    have L := loop_rule (σ := Int) (m := [1, 2, 7]) (env := fun k => [(1, eItems f), (2, .int .i64 k), (7, .int .i64 t.parent)]) (hp := fun _ => H ++ [bBase b])
      (P := fun k r => ∃ T, r = (.exit 0, T, H ++ [bBase b]) ∧ get T 2 = some (.int .i64 (p : Int))) (mu := fun k => (k + 1).toNat)
      (I := fun k => (p : Int) ≤ k ∧ k < (i : Int) ∧ lastTo f t.parent (k + 1).toNat = (p : Int)) (evCode (evC cprog) itLim c53_l0) ?_ ((i : Int) - 1) _ ⟨by omega, by omega, by rw [show ((i : Int) - 1 + 1).toNat = i by omega]; exact hlast⟩ (by rfl) (by simp [bBase]) z hz
    · obtain ⟨_, rfl, T, rfl, hT⟩ := L
      simp only [hT, evX, Int.reduceEq, Int.reduceLT, Int.reduceLE, Nat.reduceMul, Nat.reduceMod, evW, fn_eq, evR, Nat.reduceAdd, Nat.reduceLT, Nat.reduceLeDiff, reduceIte, Nat.reduceEqDiff, reduceCtorEq, argEnv, eq_self, if_true, if_false]
      repeat' ((first | rw [guardK_cases] | rw [condK_bool] | rw [guardD_cases]); split <;> simp only [hT, evX, Int.reduceEq, Int.reduceLT, Int.reduceLE, Nat.reduceMul, Nat.reduceMod, evW, evR, Nat.reduceAdd, Nat.reduceLT, Nat.reduceLeDiff, reduceIte, Nat.reduceEqDiff, reduceCtorEq, argEnv, eq_self, if_true, if_false, *])
    · intro k ⟨i1, i2, i3⟩ E hE
      obtain ⟨j, rfl⟩ : ∃ j : Nat, k = (j : Int) := ⟨k.toNat, by omega⟩
      obtain ⟨y, hy⟩ : ∃ y, f[j]? = some y := ⟨_, List.getElem?_eq_getElem (by omega)⟩
      have hay := aItem hy
      have hwj : IntKind.i64.wrap ((j : Int) - 1) = (j : Int) - 1 := wrap_i64 (by omega) (by omega)
      rw [show ((j : Int) + 1).toNat = j + 1 by omega, lastTo, typ_at hy] at i3
      by_cases hyt : y.type = t.parent
      · rw [if_pos hyt] at i3
        simp only [c53_l0, hE, hay, hyt, rItem, evX, Int.reduceEq, Int.reduceLT, Int.reduceLE, Nat.reduceMul, Nat.reduceMod, evW, fn_eq, evR, Nat.reduceAdd, Nat.reduceLT, Nat.reduceLeDiff, reduceIte, Nat.reduceEqDiff, reduceCtorEq, argEnv, eq_self, if_true, if_false]
        repeat' ((first | rw [guardK_cases] | rw [condK_bool] | rw [guardD_cases]); split <;> simp only [c53_l0, hE, hay, hyt, rItem, evX, Int.reduceEq, Int.reduceLT, Int.reduceLE, Nat.reduceMul, Nat.reduceMod, evW, evR, Nat.reduceAdd, Nat.reduceLT, Nat.reduceLeDiff, reduceIte, Nat.reduceEqDiff, reduceCtorEq, argEnv, eq_self, if_true, if_false, *])
        exact q_exit ⟨_, rfl, by rw [← i3]; rfl⟩
      · rw [if_neg hyt] at i3
        simp only [c53_l0, hE, hay, hyt, hwj, rItem, evX, Int.reduceEq, Int.reduceLT, Int.reduceLE, Nat.reduceMul, Nat.reduceMod, evW, fn_eq, evR, Nat.reduceAdd, Nat.reduceLT, Nat.reduceLeDiff, reduceIte, Nat.reduceEqDiff, reduceCtorEq, argEnv, eq_self, if_true, if_false]
        repeat' ((first | rw [guardK_cases] | rw [condK_bool] | rw [guardD_cases]); split <;> simp only [c53_l0, hE, hay, hyt, hwj, rItem, evX, Int.reduceEq, Int.reduceLT, Int.reduceLE, Nat.reduceMul, Nat.reduceMod, evW, evR, Nat.reduceAdd, Nat.reduceLT, Nat.reduceLeDiff, reduceIte, Nat.reduceEqDiff, reduceCtorEq, argEnv, eq_self, if_true, if_false, *])
        have := (lastTo_lt f t.parent j).2
        exact q_next ((j : Int) - 1) (by rfl) rfl ⟨by omega, by omega, by rw [show ((j : Int) - 1 + 1).toNat = j by omega]; exact i3⟩ (by omega) fun r h => h
theorem f67 (b : Base) (ht : tysOk b.types = true) (k : Nat) (hk : k < b.types.length) (h8 : b.types.length ≤ 1000) (H : Heap) : cal (evC cprog) false 67 [eBase b, .int .i64 (k : Int)] H = some (.int .i64 ((anc b.types k).length : Int), H) := by
  rw [cal_of at67]
  simp only [c67, eBase, evX, Int.reduceEq, Int.reduceLT, Int.reduceLE, Nat.reduceMul, Nat.reduceMod, evW, fn_eq, evR, Nat.reduceAdd, Nat.reduceLT, Nat.reduceLeDiff, reduceIte, Nat.reduceEqDiff, reduceCtorEq, argEnv, eq_self, if_true, if_false]
  repeat' ((first | rw [guardK_cases] | rw [condK_bool] | rw [guardD_cases]); split <;> simp only [c67, eBase, evX, Int.reduceEq, Int.reduceLT, Int.reduceLE, Nat.reduceMul, Nat.reduceMod, evW, evR, Nat.reduceAdd, Nat.reduceLT, Nat.reduceLeDiff, reduceIte, Nat.reduceEqDiff, reduceCtorEq, argEnv, eq_self, if_true, if_false, *])
  generalize hz : itLim _ _ = z
  have key : ∀ H' : Heap, Sits H' H.length (bBase b) → ∀ st : St, keepEnv st.1 [1, 2, 5] = [(1, .int .i64 (k : Int)), (2, .ptr H.length 0 4 0 0), (5, .int .i64 0)] → st.2 = H' → ∀ z, itLim (evCode (evC cprog) itLim c67_l0) st = z → ∃ T, z = some (.exit 0, T, H') ∧ get T 5 = some (.int .i64 ((anc b.types k).length : Int)) := by
    intro H' hs st h1 h2 z hz
    simp only [bBase, Sits] at hs
    have hs0 := hs []
    simp only [List.append_nil] at hs0
    have L := loop_rule (σ := Int × Nat) (m := [1, 2, 5]) (env := fun s => [(1, .int .i64 s.1), (2, .ptr H.length 0 4 0 0), (5, .int .i64 (s.2 : Int))]) (hp := fun _ => H')
      (P := fun s r => ∃ T, r = (.exit 0, T, H') ∧ get T 5 = some (.int .i64 (((ancI b.types s.1).length + s.2 : Nat) : Int))) (mu := fun s => (s.1 + 1).toNat)
      (I := fun s => -1 ≤ s.1 ∧ s.1 < (b.types.length : Int) ∧ s.1 + s.2 ≤ 2000) (evCode (evC cprog) itLim c67_l0) ?_ ((k : Int), 0) st ⟨by simp only; omega, by simp only; omega, by simp only; omega⟩ h1 h2 z hz
    · obtain ⟨_, rfl, T, rfl, hT⟩ := L
      exact ⟨T, rfl, by simpa [ancI_nat] using hT⟩
    · intro ⟨t, n⟩ ⟨i1, i2, i3⟩ E hE
      simp only at i1 i2 i3 hE ⊢
      by_cases h0 : 0 ≤ t
      · obtain ⟨j, rfl⟩ : ∃ j : Nat, t = (j : Int) := ⟨t.toNat, by omega⟩
        obtain ⟨t, hj⟩ : ∃ t, b.types[j]? = some t := ⟨_, List.getElem?_eq_getElem (by omega)⟩
        have ha := aTy hj
        have hgt := tys_good ht j t (by omega) hj
        have hst := anc_step (tys_good ht) (by omega) hj
        have hw := wrapS (i := n) (n := 2001) (by omega) (by omega)
        simp only [c67_l0, hE, h0, ha, hs0, rTy, hw, evX, Int.reduceEq, Int.reduceLT, Int.reduceLE, Nat.reduceMul, Nat.reduceMod, evW, fn_eq, evR, Nat.reduceAdd, Nat.reduceLT, Nat.reduceLeDiff, reduceIte, Nat.reduceEqDiff, reduceCtorEq, argEnv, eq_self, if_true, if_false]
        repeat' ((first | rw [guardK_cases] | rw [condK_bool] | rw [guardD_cases]); split <;> simp only [c67_l0, hE, h0, ha, hs0, rTy, hw, evX, Int.reduceEq, Int.reduceLT, Int.reduceLE, Nat.reduceMul, Nat.reduceMod, evW, evR, Nat.reduceAdd, Nat.reduceLT, Nat.reduceLeDiff, reduceIte, Nat.reduceEqDiff, reduceCtorEq, argEnv, eq_self, if_true, if_false, *])
        refine q_next (t.parent, n + 1) (by rfl) rfl ⟨by omega, by simp only; omega, by simp only; omega⟩ (by simp only; omega) fun r h => ?_
        obtain ⟨T, h3, h⟩ := h
        refine ⟨T, h3, ?_⟩
        rw [ancI_nat, hst, h, List.length_append, List.length_singleton]
        simp only
        congr 3; omega
      · simp only [c67_l0, hE, h0, evX, Int.reduceEq, Int.reduceLT, Int.reduceLE, Nat.reduceMul, Nat.reduceMod, evW, fn_eq, evR, Nat.reduceAdd, Nat.reduceLT, Nat.reduceLeDiff, reduceIte, Nat.reduceEqDiff, reduceCtorEq, argEnv, eq_self, if_true, if_false]
        repeat' ((first | rw [guardK_cases] | rw [condK_bool] | rw [guardD_cases]); split <;> simp only [c67_l0, hE, h0, evX, Int.reduceEq, Int.reduceLT, Int.reduceLE, Nat.reduceMul, Nat.reduceMod, evW, evR, Nat.reduceAdd, Nat.reduceLT, Nat.reduceLeDiff, reduceIte, Nat.reduceEqDiff, reduceCtorEq, argEnv, eq_self, if_true, if_false, *])
        exact q_exit ⟨_, rfl, by rw [ancI_neg _ (by omega)]; simp [Ev.get]⟩
  obtain ⟨T, rfl, hT⟩ := key (H ++ [bBase b]) (.mk (by simp)) _ (by rfl) (by simp [bBase]) z hz
  simp only [hT, evX, Int.reduceEq, Int.reduceLT, Int.reduceLE, Nat.reduceMul, Nat.reduceMod, evW, fn_eq, evR, Nat.reduceAdd, Nat.reduceLT, Nat.reduceLeDiff, reduceIte, Nat.reduceEqDiff, reduceCtorEq, argEnv, eq_self, if_true, if_false]
  repeat' ((first | rw [guardK_cases] | rw [condK_bool] | rw [guardD_cases]); split <;> simp only [hT, evX, Int.reduceEq, Int.reduceLT, Int.reduceLE, Nat.reduceMul, Nat.reduceMod, evW, evR, Nat.reduceAdd, Nat.reduceLT, Nat.reduceLeDiff, reduceIte, Nat.reduceEqDiff, reduceCtorEq, argEnv, eq_self, if_true, if_false, *])
end Go.Proofs.Ytcbmakanokmdjaa.Code
